/- Texts put together: Chapter 11, the search: the walks. Printed by pp.py, a program of mine. Chapter 09, the heads: the walks. Printed by pp.py, a program of mine. Chapter 09, the document's functions: the walks. Printed by pp.py, a program of mine. Chapter 11, the heads: the walks. Printed by pp.py, a program of mine. Chapter 09, the document's premises: the walks. Printed by pp.py, a program of mine. -/
import Derived.Test.YtjjkhjieegmphaaDoorMSRuns3
set_option linter.unusedVariables false
set_option linter.unusedSimpArgs false
section
namespace Go.Proofs.YtjjkhjieegmphaaDoor
open Gw Go.RowKit
set_option maxHeartbeats 4000000
theorem search_finder_end_st {A : Nat → Prop} {N : Oth} {w : World} {a0 : PFinder} {a_0 : Option Addr} {g_0_1 : Option Addr} {a1 : PStep} {s_1 : SlV} (S : St A N w w [oF a_0 g_0_1 a0, oS T_int 1 IC s_1 a1.kids] []) {r : PFinder × Int × Int} (H : search_finder_end.f a0 a1 = some r) :
  Calls PP F_search_finder_end #[.pointer a_0, .agg (Step.C (⟨a1.seq, a1.proved, a1.rule, a1.main, s_1⟩ : Step)).toArray] w fun e w' => ∃ v, e = .returned v ∧ (v = .tuple #[.int .i64 r.2.1, .int .i64 r.2.2] ∧ St A N w w' [oF a_0 g_0_1 r.1] []) := by
 unfold search_finder_end.f at H
 refine calls_of_wc (n := 33) fn_search_finder_end rfl rfl (by simp) (wc_seq (wc_region ?_))
 refine wl_box_agg rfl (by decide) fun b2 w1 hw1 => ?_
 replace S := S.new hw1
 refine wd (does_as_i rfl) (wd (does_as_i rfl) (wl_nil (wc_seq ?_)))
 obtain ⟨p3, s5, m6, hp4, S⟩ := S.open_oF 1
 replace S := S
 refine wc_quiet 11 (Ext w1) hmix (by kernel_rfl) (by kernel_rfl) (Ext.drawn _) (wq_does (fun v K => does_mv_p rfl) (wq_does (fun v K => does_nilCheck (congrArg Value.pointer hp4)) (wq_does (fun v K => does_fieldAddr fl_Finder_at_ rfl (o' := 2) rfl) (wq_does (fun v K => does_load on_M_api_Seq_int rfl (((S.ext K).blk 0).cell (Finder.get_at_ _))) (wq_does (fun v K => does_fieldAddr fl_Step_seq rfl (o' := 0) rfl) (wq_does (fun v K => does_load_agg ag_Sq rfl (((S.ext K).blk 4).cells (Step.sub_seq _)) (Sq.len _)) (wq_does (fun v K => does_mv_p rfl) (wq_does (fun v K => does_nilCheck (congrArg Value.pointer hp4)) (wq_does (fun v K => does_fieldAddr fl_Finder_steps rfl (o' := 1) rfl) (wq_does (fun v K => does_load on_L_api_Step rfl (((S.ext K).blk 0).cell (Finder.get_steps _))) (wq_does (fun v K => does_lenD sl_L_api_Step rfl ((S.ext K).onO 2)) ?_)))))))))))
 refine wq_nil fun w7 K => ?_
 replace S := S.ext K
 clear K
 refine wl_mapUpdate (C := mSqC) (D := (Value.int .i64)) (key := a1.seq) (v := (a0.steps.length : Int)) un_M_api_Seq_int key_Sq rfl rfl rfl (S.map 3) fun w8 hmw8 hcw8 hsw8 => ?_
 replace S := ((S.mapSet 3 ⟨hmw8, hcw8, hsw8⟩).front 3).front 3
 replace S := (S.front 3).shut_oF hp4
 refine wl_nil (wc_seq ?_)
 obtain ⟨p9, s11, m12, hp10, S⟩ := S.open_oF 0
 replace S := S
 obtain ⟨ms13, S⟩ := S.openD 2
 replace S := S
 have hlms13 : ms13.length = a0.steps.length := (S.own 1 rfl).elim fun _ hb => big_len hb
 obtain ⟨ha14, H⟩ := chk_ex H
 have ha14 := of_decide_eq_true ha14
 rw [← hlms13] at ha14
 have hSO := S.sl 0
 have hSlt := hSO.lt
 have SH : ∀ v, Chg s11.fp w8 v → St A (N.or s11.fp) w v [big rStep ms13 a0.steps, oB p9 T_Finder (Finder.C (⟨g_0_1, s11, (some m12), a0.left, a0.visits⟩ : Finder)), oT g_0_1 a0.t, oMSq m12 (Gw.ins a1.seq (a0.steps.length : Int) a0.at_), oB b2 T_Step (Step.C (⟨a1.seq, a1.proved, a1.rule, a1.main, s_1⟩ : Step)), oS T_int 1 IC s_1 a1.kids] [] := fun v hc => S.away 0 (hc := hc)
 refine wc_draw 8 ⟨fun L v => Chg s11.fp w8 v ∧ (L 7 = false → Ext w8 v), fun L a b => Chg s11.fp a b ∧ (L 7 = true → Ext a b), fun i v u => match i with
  | 0 => v = Value.pointer a_0
  | 1 => v = Value.pointer a_0
  | 2 => v = Value.pointer (some ⟨p9, 0, none⟩)
  | 3 => v = Value.pointer (some ⟨p9, 1, none⟩)
  | 4 => v = s11.v
  | 5 => v = Value.agg (Step.C (⟨a1.seq, a1.proved, a1.rule, a1.main, s_1⟩ : Step)).toArray
  | 6 => ∃ b sl, v = SlV.v sl ∧ sl = ⟨some ⟨b, 0, none⟩, 1, 1⟩ ∧ Blk u b T_Step (Step.C (⟨a1.seq, a1.proved, a1.rule, a1.main, s_1⟩ : Step)) ∧ ¬ s11.fp b
  | 7 => ∃ s', v = SlV.v s' ∧ Own u 0 T_Step 21 s' ((ms13 ++ [(⟨a1.seq, a1.proved, a1.rule, a1.main, s_1⟩ : Step)]).map Step.C) ∧ ∀ i, s'.fp i → s11.fp i ∨ w8.heap.size ≤ i
  | _ => True⟩ hmix (by kernel_rfl) ?_ ⟨(Ext.drawn _).mono (fun _ _ x => x.elim), fun _ => Ext.drawn _⟩ ⟨?_, ?_, ?_, ?_, ?_, ?_, ?_, ?_, trivial⟩ ?_
 ·intro L i v a b hLi hle hv
  match i, hLi, hv with
  | 0, _, hv => exact hv
  | 1, _, hv => exact hv
  | 2, _, hv => exact hv
  | 3, _, hv => exact hv
  | 4, _, hv => exact hv
  | 5, _, hv => exact hv
  | 6, _, ⟨b, sl, e1, e2, hb, hn⟩ => exact ⟨b, sl, e1, e2, hb.chg hle.1 hn, hn⟩
  | 7, hLi, ⟨s', e1, ho, hg⟩ => exact ⟨s', e1, ho.ext (hle.2 hLi), hg⟩
  | _ + 8, _, _ => exact trivial
 ·rintro L g v hL hT 
  refine wd (does_mv_p rfl) (wl_nil (ob ⟨hT.1, fun h => hT.2 h⟩ ⟨Chg.refl _ _, fun _ => Ext.refl _⟩ rfl))
 ·rintro L g v hL hT 
  refine wd (does_mv_p rfl) (wl_nil (ob ⟨hT.1, fun h => hT.2 h⟩ ⟨Chg.refl _ _, fun _ => Ext.refl _⟩ rfl))
 ·rintro L g v hL hT hv1
  refine wd (does_nilCheck ((hv1 : _ = Value.pointer a_0).trans (congrArg Value.pointer hp10))) (wl_nil (ob ⟨hT.1, fun h => hT.2 h⟩ ⟨Chg.refl _ _, fun _ => Ext.refl _⟩ rfl))
 ·rintro L g v hL hT hv2
  refine wd (does_fieldAddr fl_Finder_steps hv2 (o' := 1) rfl) (wl_nil (ob ⟨hT.1, fun h => hT.2 h⟩ ⟨Chg.refl _ _, fun _ => Ext.refl _⟩ rfl))
 ·rintro L g v hL hT hv3
  refine wd (does_load on_L_api_Step hv3 (((SH v hT.1).blk 1).cell (Finder.get_steps _))) (wl_nil (ob ⟨hT.1, fun h => hT.2 h⟩ ⟨Chg.refl _ _, fun _ => Ext.refl _⟩ rfl))
 ·rintro L g v hL hT 
  refine wd (does_load_agg ag_Step rfl (((SH v hT.1).blk 4).all _ (Step.len _)) (Step.len _)) (wl_nil (ob ⟨hT.1, fun h => hT.2 h⟩ ⟨Chg.refl _ _, fun _ => Ext.refl _⟩ rfl))
 ·rintro L g v hL hT hv5
  refine wl_lit1 sl_L_api_Step el_Step.zero hv5 rfl (Step.len _) (by decide) (by decide) fun b v' sl hn hq => wl_nil (ob ⟨hT.1.thenExt hn.ext, fun h => (hT.2 h).trans hn.ext⟩ ⟨hn.ext.mono (fun _ _ x => x.elim), fun _ => hn.ext⟩ ⟨b, sl, rfl, hq, hn.blk, fun e => by have := hSlt _ e; have := hn.at_; have := hT.1.size; omega⟩)
 ·rintro L g v hL hT hv4 ⟨b, sl, hv6, hq, hb, hnb⟩
  refine wl_push (C := Step.C) sl_L_api_Step el_Step hv4 hv6 (hSO.ext (hT.2 hL)) hb hq (Step.len _) (Step.one _) ha14 (by omega) (by decide) fun s' v' ho hc hg => wl_nil (ob ⟨hT.1.trans hc, fun h => (by cases h)⟩ ⟨hc, fun h => (by rw [hL] at h; cases h)⟩ ⟨s', rfl, ho, fun i e => (hg i e).imp id (fun h => Nat.le_trans hT.1.size h)⟩)
 rintro L g w15 hLm hT hv17_0 hv17_1 hv17_2 hv17_3 hv17_4 hv17_5 ⟨b, sl, hv17_6, hq, hb, hnb⟩ ⟨s16, hv17_7, O, gO⟩
 replace S := S.push 0 O (by rw [List.length_append, List.length_singleton]; omega) hT.1 gO
 clear O gO SH hSO hSlt
 replace S := S.front 6
 replace S : St A N w w15 [rStep (⟨a1.seq, a1.proved, a1.rule, a1.main, s_1⟩ : Step) a1, oS T_Step 21 Step.C s16 (ms13 ++ [(⟨a1.seq, a1.proved, a1.rule, a1.main, s_1⟩ : Step)]), big rStep ms13 a0.steps, oB p9 T_Finder (Finder.C (⟨g_0_1, s11, (some m12), a0.left, a0.visits⟩ : Finder)), oT g_0_1 a0.t, oMSq m12 (Gw.ins a1.seq (a0.steps.length : Int) a0.at_), oB b2 T_Step (Step.C (⟨a1.seq, a1.proved, a1.rule, a1.main, s_1⟩ : Step))] [] := (S.putp ⟨rfl, rfl, rfl, rfl⟩).star
 replace S := ((S.front 2).front 2).pushD
 refine wd (does_nilCheck ((hv17_0 : _ = Value.pointer a_0).trans (congrArg Value.pointer hp10))) (wd (does_fieldAddr fl_Finder_steps rfl (o' := 1) rfl) ?_)
 refine wl_store on_L_api_Step rfl hv17_7 (S.blk 1) (by rw [Finder.len]; decide) (SlV.one _ _ rfl) (Finder.set_steps _ _) fun w18 B hw18 zw18 => ?_
 replace S := S.store 1 B hw18
 clear B
 replace S := ((S.front 3).front 2).front 3
 replace S := (S.front 3).shut_oF hp10
 refine wl_nil (wc_seq (wc_region (wd (does_mv_p rfl) ?_)))
 obtain ⟨p19, s21, m22, hp20, S⟩ := S.open_oF 0
 replace S := S
 refine wd (does_nilCheck (congrArg Value.pointer hp20)) (wd (does_fieldAddr fl_Finder_steps rfl (o' := 1) rfl) (wd (does_load on_L_api_Step rfl ((S.blk 0).cell (Finder.get_steps _))) (wd (does_lenD sl_L_api_Step rfl (S.onO 2)) (wd (does_sub rfl rfl) (wd (does_as_i rfl) (wd (does_as_i rfl) ?_))))))
 replace S := ((S.front 3).front 3).front 3
 replace S := (S.front 3).shut_oF hp20
 refine wl_nil (wc_ret ?_)
 refine ⟨_, (rets2 (retOne_tmp rfl) (retOne_tmp rfl)), ?_⟩
 replace S := S.arr [0] []
 obtain rfl := Option.some.inj H
 exact ⟨rfl, S⟩
theorem search_finder_choose_gst {rec_search_finder_decide : PFinder → Sq → Option (PFinder × Int × Int)} (hrec_search_finder_decide : ∀ {A : Nat → Prop} {N : Oth} {w : World} {a0 : PFinder} {a_0 : Option Addr} {g_0_1 : Option Addr} {a1 : Sq} (S : St A N w w [oF a_0 g_0_1 a0] [oTz]) {r : PFinder × Int × Int} (H : rec_search_finder_decide a0 a1 = some r), Calls PP F_search_finder_decide #[.pointer a_0, .agg (Sq.C a1).toArray] w fun e w' => ∃ v, e = .returned v ∧ (v = .tuple #[.int .i64 r.2.1, .int .i64 r.2.2] ∧ St A N w w' [oF a_0 g_0_1 r.1] [])) {A : Nat → Prop} {N : Oth} {w : World} {a0 : PFinder} {a_0 : Option Addr} {g_0_1 : Option Addr} {a1 : Sq} (S : St A N w w [oF a_0 g_0_1 a0] [oTz]) {r : PFinder × Int × Int} (H : search_finder_choose.g rec_search_finder_decide a0 a1 = some r) :
  Calls PP F_search_finder_choose #[.pointer a_0, .agg (Sq.C a1).toArray] w fun e w' => ∃ v, e = .returned v ∧ (v = .tuple #[.int .i64 r.2.1, .int .i64 r.2.2] ∧ St A N w w' [oF a_0 g_0_1 r.1] []) := by
 unfold search_finder_choose.g at H
 refine calls_of_wc (n := 126) fn_search_finder_choose rfl rfl (by simp) (wc_seq (wc_region ?_))
 refine wl_box_agg rfl (by decide) fun b2 w1 hw1 => ?_
 replace S := S.new hw1
 refine wd (does_as_i rfl) (wd (does_as_i rfl) (wl_nil (wc_seq ?_)))
 obtain ⟨p3, s5, m6, hp4, S⟩ := S.open_oF 1
 replace S := S
 refine wc_ws hmix fun w8 K => ?_
 replace S := S.ext K
 clear K
 refine ws_semi 0 5 [] (by kernel_rfl) (by decide) (by kernel_rfl)
  (V := fun i v u => match i with
  | _ => True) ?_ ?_
 ·intro i v u u' hi hx hv
  match i, hv with
  | _, _ => exact trivial
 refine wm_does (fun v K => does_mv_p rfl) rfl (wm_does (fun v K => does_nilCheck (congrArg Value.pointer hp4)) rfl (wm_does (fun v K => does_fieldAddr fl_Finder_t rfl (o' := 0) rfl) rfl (wm_does (fun v K => does_load on_dictum_formula_has rfl (((S.ext K).blk 0).cell (Finder.get_t _))) rfl (wm_does (fun v K => does_load_agg ag_Sq rfl (((S.ext K).blk 4).all _ (Sq.len _)) (Sq.len _)) rfl ?_))))
 refine wm_nil fun g w9 K hV => ?_
 replace S := S.ext K
 clear K hV
 refine ws_chain 5 7 (by kernel_rfl) (by decide) ?_
 obtain ⟨r11, er11, H⟩ := bind_ex H
 obtain ⟨B13, MB13, SB13, back⟩ := S.calln 0 ((.o 1 rfl (.z 0 rfl .nil)))
 refine wl_call (does_call ca_rule_Choices) (by decide) (rule_Choices_st SB13 er11) ?_
 rintro _ w12 ⟨s14, s15, rfl, S2⟩
 replace S := back _ _ _ _ S2 rfl
 clear back S2 SB13
 refine wd (does_mv_t rfl) (wl_nil ⟨rfl, ?_⟩)
 refine ws_semi 7 12 [] (by kernel_rfl) (by decide) (by kernel_rfl)
  (V := fun i v u => match i with
  | _ => True) ?_ ?_
 ·intro i v u u' hi hx hv
  match i, hv with
  | _, _ => exact trivial
 refine wm_does (fun v K => does_extract rfl rfl) rfl (wm_does (fun v K => does_extract rfl rfl) rfl (wm_does (fun v K => does_extract rfl rfl) rfl (wm_does (fun v K => does_as_l rfl) rfl (wm_does (fun v K => does_as_l rfl) rfl ?_))))
 refine wm_nil fun g w16 K hV => ?_
 replace S := S.ext K
 clear K hV
 refine ws_tail 12 (by kernel_rfl) (by decide) (wd (does_as_i rfl) ?_)
 replace S := ((S.front 5).front 5).front 5
 replace S := (S.front 5).shut_oF hp4
 refine wl_nil (wc_seq (wc_seq (wc_region (wd (does_mv_i rfl) (wd (does_ne rfl rfl) (wl_nil ?_))))))
 refine wc_if rfl (fun hc18 => ?_) (fun hc18 => ?_)
 ·replace H := if_t hc18 H
  refine wc_seq (wc_region (wd (does_mv_i rfl) (wd (does_as_i rfl) (wd (does_as_i rfl) (wl_nil (wc_ret ?_))))))
  refine ⟨_, (rets2 (retOne_tmp rfl) (retOne_tmp rfl)), ?_⟩
  replace S := S.arr [0] []
  obtain rfl := Option.some.inj H
  exact ⟨rfl, S⟩
 replace H := if_f hc18 H
 refine wc_skip (wc_seq (wc_region (wd (does_load_agg ag_Sq rfl ((S.blk 3).all _ (Sq.len _)) (Sq.len _)) (wd (Does.to (v' := .agg (Step.C (⟨a1, false, 14, 0, SlV.nil⟩ : Step)).toArray) (does_buildv (vs := [(0, .agg (Sq.C a1).toArray), (2, .int .i64 14)]) bu_Step (consP rfl (consP rfl rfl)) (Bld.step rfl rfl (Sq.len _) (by rw [Step.len]; decide) (Step.put_seq _ _) (Bld.one rfl rfl (by rw [Step.len]; decide) (Step.set_rule _ _) Bld.nil))) rfl) ?_))))
 refine wl_alloc ze_Step (by decide) fun b20 w19 hw19 => ?_
 replace S := S.new hw19
 refine wl_store_agg ag_Step rfl rfl (S.blk 0) (Step.len _) (by rw [Step.len]; decide) (Step.one _) (store_all (Step.len _)) fun w21 B hw21 zw21 => ?_
 replace S := S.store 0 B hw21
 clear B
 refine wl_nil (wc_seq (wc_seq (wc_region (wd (does_mv_l rfl) (wd (does_lenR sl_L_api_Rule rfl (S.rdO 2)) (wd (does_mv_i rfl) (wl_nil ?_)))))))
 replace S := S.nil T_int 1 IC
 obtain ⟨o22, e22, Ho22⟩ := bind_ex H
 clear H
 refine wc_cutq [4, 5, 10, 11, 12, 13, 14, 15, 16, 17, 18, 36, 37, 38, 39, 40, 41, 42, 43, 44, 45, 46, 47, 48, 49, 50, 51, 52, 53, 54, 55, 56, 57, 58, 59, 60, 61, 62, 63, 64, 65, 66, 67, 68, 69, 70, 71, 72, 73, 74, 75, 76, 77, 78, 79, 80, 81, 82, 83, 84, 85, 86, 87, 88, 89, 90, 91, 92, 93, 94, 95, 96, 97, 98, 99, 100, 101, 102, 103, 104, 105, 106, 107, 108, 109, 110, 111, 112, 113, 114, 115, 116, 117, 118, 119, 120] (fun fr W => ∃ s22 : PStep × PFinder, o22 = .inl s22 ∧ ∃ s23 : SlV, St A N w W [oS T_int 1 IC s23 s22.1.kids, oB b20 T_Step (Step.C (⟨s22.1.seq, s22.1.proved, s22.1.rule, s22.1.main, s23⟩ : Step)), oF a_0 g_0_1 s22.2, oS T_api_Rule 1 IC s14 r11.1, oS T_int 1 IC s15 r11.2.1, oB b2 T_Sq (Sq.C a1)] [oTz]) ?_ ?_
 ·refine wc_block ?_
  refine wc_loopm (α := Nat × Int × (PStep × PFinder)) [4, 5, 10, 11, 12, 13, 14, 15, 16, 17, 18, 36, 37, 38, 39, 40, 41, 42, 43, 44, 45, 46, 47, 48, 49, 50, 51, 52, 53, 54, 55, 56, 57, 58, 59, 60, 61, 62, 63, 64, 65, 66, 67, 68, 69, 70, 71, 72, 73, 74, 75, 76, 77, 78, 79, 80, 81, 82, 83, 84, 85, 86, 87, 88, 89, 90, 91, 92, 93, 94, 95, 96, 97, 98, 99, 100, 101, 102, 103, 104, 105, 106, 107, 108, 109, 110, 111, 112, 113, 114, 115, 116, 117, 118, 119, 120] (fun x fr W => (x.1 : Int) = (r11.1.length : Int) - x.2.1 ∧ 0 ≤ x.2.1 ∧ forN (fun i s => search_finder_choose.b0 r11 a1 rec_search_finder_decide i s.1 s.2) x.1 x.2.1 x.2.2 = some o22 ∧ ∃ s24 : SlV, fr 36 = .int .i64 x.2.1 ∧ St A N w W [oS T_int 1 IC s24 ((x.2.2.1).kids), oB b20 T_Step (Step.C (⟨(x.2.2.1).seq, (x.2.2.1).proved, (x.2.2.1).rule, (x.2.2.1).main, s24⟩ : Step)), oF a_0 g_0_1 (x.2.2.2), oS T_api_Rule 1 IC s14 r11.1, oS T_int 1 IC s15 r11.2.1, oB b2 T_Sq (Sq.C a1)] [oTz]) (fun x => x.1) (((r11.1.length : Int) - 0).toNat, 0, ((⟨a1, false, 14, 0, ([] : List Int)⟩ : PStep), a0)) ⟨(by dsimp only; have hle := Int.natCast_nonneg (r11.1.length); omega), (Int.le_refl _), (by dsimp only; exact e22), SlV.nil, rfl, S⟩ ?_
  rintro ⟨m22, i22, ⟨x22_0, x22_1⟩⟩ g22 u22 ⟨hm22, hl22, e22, s25, q22_i, S⟩
  try dsimp only at hm22
  try dsimp only at hl22
  try dsimp only at e22
  try dsimp only at S
  try dsimp only at q22_i
  refine wc_seq (wc_region (wd (does_lt q22_i rfl) (wl_nil (wc_seq ?_))))
  refine wc_if rfl (fun hc26 => ?_) (fun hc26 => ?_)
  rotate_left
  ·refine wc_exit ?_
   have hge : (r11.1.length : Int) ≤ i22 := Int.not_lt.1 (of_decide_eq_false hc26)
   obtain rfl : m22 = 0 := by omega
   replace e22 := forN_0 e22
   exact ⟨rfl, ((Dif.self _ _ _).upd rfl _), (x22_0, x22_1), e22, s25, S⟩
  refine wc_skip ?_
  have hlt22 : i22 < (r11.1.length : Int) := of_decide_eq_true hc26
  obtain ⟨m22, rfl⟩ : ∃ m, m22 = m + 1 := ⟨m22 - 1, by omega⟩
  obtain ⟨q22, H, e22⟩ := forN_s e22
  unfold search_finder_choose.b0 at H
  try dsimp only at H
  have hb22 := (S.lenO 3)
  refine wc_seq ?_
  refine wc_block (wc_seq (wc_region (wd (does_mv_i q22_i) (wd (does_indexR sl_L_api_Rule rfl q22_i (S.rdO 3) (And.intro (show 0 ≤ i22 by omega) (show i22 < (r11.1.length : Int) from hlt22)).1 (And.intro (show 0 ≤ i22 by omega) (show i22 < (r11.1.length : Int) from hlt22)).2) (wd (does_load on_api_Rule rfl ((S.rdO 3).one (at_some (0 : Int) (And.intro (show 0 ≤ i22 by omega) (show i22 < (r11.1.length : Int) from hlt22))) rfl)) (wd (does_as_i rfl) (wd (does_as_i rfl) (wl_nil (wc_seq ?_)))))))))
  obtain ⟨p28, s30, m31, hp29, S⟩ := S.open_oF 2
  replace S := S
  refine wc_ws hmix fun w34 K => ?_
  replace S := S.ext K
  clear K
  obtain ⟨hi35, H⟩ := chk_ex H
  refine ws_semi 0 10 [] (by kernel_rfl) (by decide) (by kernel_rfl)
   (V := fun i v u => match i with
   | _ => True) ?_ ?_
  ·intro i v u u' hi hx hv
   match i, hv with
   | _, _ => exact trivial
  refine wm_does (fun v K => does_mv_p rfl) rfl (wm_does (fun v K => does_nilCheck (congrArg Value.pointer hp29)) rfl (wm_does (fun v K => does_fieldAddr fl_Finder_t rfl (o' := 0) rfl) rfl (wm_does (fun v K => does_load on_dictum_formula_has rfl (((S.ext K).blk 0).cell (Finder.get_t _))) rfl (wm_does (fun v K => does_load_agg ag_Sq rfl (((S.ext K).blk 8).all _ (Sq.len _)) (Sq.len _)) rfl (wm_does (fun v K => does_mv_i rfl) rfl (wm_does (fun v K => does_mv_l rfl) rfl (wm_does (fun v K => does_mv_i rfl) rfl (wm_does (fun v K => does_indexR sl_L_int rfl rfl ((S.ext K).rdO 7) (inb_ex hi35).1 (inb_ex hi35).2) rfl (wm_does (fun v K => does_load on_int rfl (((S.ext K).rdO 7).one (at_some (0 : Int) (inb_ex hi35)) rfl)) rfl ?_)))))))))
  refine wm_nil fun g w36 K hV => ?_
  replace S := S.ext K
  clear K hV
  refine ws_chain 10 12 (by kernel_rfl) (by decide) ?_
  obtain ⟨r38, er38, H⟩ := bind_ex H
  replace S := S.front 1
  obtain ⟨B40, MB40, SB40, back⟩ := S.calln 1 ((.z 0 rfl .nil))
  refine wl_call (does_call ca_rule_Premises) (by decide) (rule_Premises_st SB40 er38) ?_
  rintro _ w39 ⟨s41, rfl, S2⟩
  replace S := back _ _ _ _ S2 rfl
  clear back S2 SB40
  refine wd (does_mv_t rfl) (wl_nil ⟨rfl, ?_⟩)
  refine ws_semi 12 15 [] (by kernel_rfl) (by decide) (by kernel_rfl)
   (V := fun i v u => match i with
   | _ => True) ?_ ?_
  ·intro i v u u' hi hx hv
   match i, hv with
   | _, _ => exact trivial
  refine wm_does (fun v K => does_extract rfl rfl) rfl (wm_does (fun v K => does_extract rfl rfl) rfl (wm_does (fun v K => does_as_l rfl) rfl ?_))
  refine wm_nil fun g w42 K hV => ?_
  replace S := S.ext K
  clear K hV
  refine ws_tail 15 (by kernel_rfl) (by decide) (wd (does_as_i rfl) ?_)
  replace S := ((S.front 4).front 4).front 2
  replace S := (S.front 4).shut_oF hp29
  refine wl_nil (wc_seq (wc_seq (wc_region (wd (does_mv_i rfl) (wd (does_ne rfl rfl) (wl_nil ?_))))))
  refine wc_if rfl (fun hc44 => ?_) (fun hc44 => ?_)
  ·replace H := if_t hc44 H
   refine wc_seq (wc_region (wd (does_mv_i rfl) (wd (does_as_i rfl) (wd (does_as_i rfl) (wl_nil (wc_ret ?_))))))
   refine ⟨_, (rets2 (retOne_tmp rfl) (retOne_tmp rfl)), ?_⟩
   replace S := S.arr [0] []
   obtain rfl := Option.some.inj H
   obtain rfl := e22
   obtain rfl := aft_r Ho22
   exact ⟨rfl, S⟩
  replace H := if_f hc44 H
  refine wc_skip (wc_seq ?_)
  obtain ⟨hi45, H⟩ := chk_ex H
  refine wc_semi 8 [7]
   (fun i v u => match i with
   | 7 => ∃ b, v = Value.pointer (some ⟨b, 0, none⟩) ∧ Blk u b T_Step (Step.C (⟨Sq.z, false, 0, 0, SlV.nil⟩ : Step)) ∧ w42.heap.size ≤ b
   | _ => True) hmix (by kernel_rfl) (by kernel_rfl) ?_ ?_
  ·intro i v u u' hi hx hv
   match i, hv with
   | 7, ⟨b, e1, hb, hl⟩ => exact ⟨b, e1, hb.ext hx, hl⟩
   | 0, _ => exact trivial
   | 1, _ => exact trivial
   | 2, _ => exact trivial
   | 3, _ => exact trivial
   | 4, _ => exact trivial
   | 5, _ => exact trivial
   | 6, _ => exact trivial
   | _ + 8, _ => exact trivial
  refine wm_does (fun v K => does_load_agg ag_Sq rfl (((S.ext K).blk 6).all _ (Sq.len _)) (Sq.len _)) rfl (wm_does (fun v K => does_mv_i rfl) rfl (wm_does (fun v K => does_mv_l rfl) rfl (wm_does (fun v K => does_mv_i rfl) rfl (wm_does (fun v K => does_indexR sl_L_int rfl rfl ((S.ext K).rdO 5) (inb_ex hi45).1 (inb_ex hi45).2) rfl (wm_does (fun v K => does_load on_int rfl (((S.ext K).rdO 5).one (at_some (0 : Int) (inb_ex hi45)) rfl)) rfl (wm_does (fun v K => Does.to (v' := .agg (Step.C (⟨a1, true, at_ (0 : Int) r11.1 i22, at_ (0 : Int) r11.2.1 i22, SlV.nil⟩ : Step)).toArray) (does_buildv (vs := [(0, .agg (Sq.C a1).toArray), (1, .bool true), (2, .int .i64 (at_ (0 : Int) r11.1 i22)), (3, .int .i64 (at_ (0 : Int) r11.2.1 i22))]) bu_Step (consP rfl (consP rfl (consP rfl (consP rfl rfl)))) (Bld.step rfl rfl (Sq.len _) (by rw [Step.len]; decide) (Step.put_seq _ _) (Bld.one rfl rfl (by rw [Step.len]; decide) (Step.set_proved _ _) (Bld.one rfl rfl (by rw [Step.len]; decide) (Step.set_rule _ _) (Bld.one rfl rfl (by rw [Step.len]; decide) (Step.set_main _ _) Bld.nil))))) rfl) rfl ?_))))))
  refine wm_new (fun g v K G => (have ⟨v', hd, hn⟩ := does_allocN ze_Step; ⟨_, v', hd, hn.ext, _, rfl, hn.blk, K.size⟩)) rfl ?_
  refine wm_nil fun g w47 K hV => ?_
  obtain ⟨b46, hv487, hb7, hf7⟩ := hV 7 rfl (by decide)
  replace S := S.newAt K hb7 hf7
  clear K hV
  refine wl_store_agg ag_Step hv487 rfl (S.blk 0) (Step.len _) (by rw [Step.len]; decide) (Step.one _) (store_all (Step.len _)) fun w49 B hw49 zw49 => ?_
  replace S := S.store 0 B hw49
  clear B
  refine wl_nil (wc_seq (wc_seq (wc_region (wd (does_mv_l rfl) (wd (does_lenR sl_L_api_Seq rfl (S.rdO 2)) (wd (does_mv_i rfl) (wl_nil ?_)))))))
  replace S := S.nil T_int 1 IC
  obtain ⟨o50, e50, Ho50⟩ := bind_ex H
  clear H
  refine wc_cutq [4, 5, 15, 16, 17, 18, 67, 68, 69, 70, 71, 72, 73, 74, 75, 76, 77, 78, 79, 80, 81, 82, 83, 84, 85, 86, 87, 88, 89, 90, 91, 92, 93, 94, 95, 96, 97, 98, 99, 100, 101, 102, 103, 104, 105, 106, 107, 108, 109, 110, 111, 112] (fun fr W => ∃ s50 : PStep × PFinder × PStep, o50 = .inl s50 ∧ ∃ s51 : SlV, ∃ s52 : SlV, St A N w W [oS T_int 1 IC s51 s50.1.kids, oB b46 T_Step (Step.C (⟨s50.1.seq, s50.1.proved, s50.1.rule, s50.1.main, s51⟩ : Step)), oF a_0 g_0_1 s50.2.1, oS T_Sq 17 Sq.C s41 r38.2.1, oS T_int 1 IC s52 s50.2.2.kids, oB b20 T_Step (Step.C (⟨s50.2.2.seq, s50.2.2.proved, s50.2.2.rule, s50.2.2.main, s52⟩ : Step)), oS T_api_Rule 1 IC s14 r11.1, oS T_int 1 IC s15 r11.2.1, oB b2 T_Sq (Sq.C a1)] [oTz]) ?_ ?_
  ·refine wc_block ?_
   refine wc_loopm (α := Nat × Int × (PStep × PFinder × PStep)) [4, 5, 15, 16, 17, 18, 67, 68, 69, 70, 71, 72, 73, 74, 75, 76, 77, 78, 79, 80, 81, 82, 83, 84, 85, 86, 87, 88, 89, 90, 91, 92, 93, 94, 95, 96, 97, 98, 99, 100, 101, 102, 103, 104, 105, 106, 107, 108, 109, 110, 111, 112] (fun x fr W => (x.1 : Int) = (r38.2.1.length : Int) - x.2.1 ∧ 0 ≤ x.2.1 ∧ forN (fun i s => search_finder_choose.b1 rec_search_finder_decide r38 i s.1 s.2.1 s.2.2) x.1 x.2.1 x.2.2 = some o50 ∧ ∃ s53 : SlV, ∃ s54 : SlV, fr 67 = .int .i64 x.2.1 ∧ St A N w W [oS T_int 1 IC s53 ((x.2.2.1).kids), oB b46 T_Step (Step.C (⟨(x.2.2.1).seq, (x.2.2.1).proved, (x.2.2.1).rule, (x.2.2.1).main, s53⟩ : Step)), oF a_0 g_0_1 (x.2.2.2.1), oS T_Sq 17 Sq.C s41 r38.2.1, oS T_int 1 IC s54 ((x.2.2.2.2).kids), oB b20 T_Step (Step.C (⟨(x.2.2.2.2).seq, (x.2.2.2.2).proved, (x.2.2.2.2).rule, (x.2.2.2.2).main, s54⟩ : Step)), oS T_api_Rule 1 IC s14 r11.1, oS T_int 1 IC s15 r11.2.1, oB b2 T_Sq (Sq.C a1)] [oTz]) (fun x => x.1) (((r38.2.1.length : Int) - 0).toNat, 0, ((⟨a1, true, at_ (0 : Int) r11.1 i22, at_ (0 : Int) r11.2.1 i22, ([] : List Int)⟩ : PStep), (⟨r38.1, x22_1.steps, x22_1.at_, x22_1.left, x22_1.visits⟩ : PFinder), x22_0)) ⟨(by dsimp only; have hle := Int.natCast_nonneg (r38.2.1.length); omega), (Int.le_refl _), (by dsimp only; exact e50), SlV.nil, s25, rfl, S⟩ ?_
   rintro ⟨m50, i50, ⟨x50_0, x50_1, x50_2⟩⟩ g50 u50 ⟨hm50, hl50, e50, s55, s56, q50_i, S⟩
   try dsimp only at hm50
   try dsimp only at hl50
   try dsimp only at e50
   try dsimp only at S
   try dsimp only at q50_i
   refine wc_seq (wc_region (wd (does_lt q50_i rfl) (wl_nil (wc_seq ?_))))
   refine wc_if rfl (fun hc57 => ?_) (fun hc57 => ?_)
   rotate_left
   ·refine wc_exit ?_
    have hge : (r38.2.1.length : Int) ≤ i50 := Int.not_lt.1 (of_decide_eq_false hc57)
    obtain rfl : m50 = 0 := by omega
    replace e50 := forN_0 e50
    exact ⟨rfl, ((Dif.self _ _ _).upd rfl _), (x50_0, x50_1, x50_2), e50, s55, s56, S⟩
   refine wc_skip ?_
   have hlt50 : i50 < (r38.2.1.length : Int) := of_decide_eq_true hc57
   obtain ⟨m50, rfl⟩ : ∃ m, m50 = m + 1 := ⟨m50 - 1, by omega⟩
   obtain ⟨q50, H, e50⟩ := forN_s e50
   unfold search_finder_choose.b1 at H
   try dsimp only at H
   have hb50 := (S.lenO 3)
   refine wc_seq ?_
   refine wc_block (wc_seq (wc_region (wd (does_mv_i q50_i) (wd (does_indexR sl_L_api_Seq rfl q50_i (S.rdO 3) (And.intro (show 0 ≤ i50 by omega) (show i50 < (r38.2.1.length : Int) from hlt50)).1 (And.intro (show 0 ≤ i50 by omega) (show i50 < (r38.2.1.length : Int) from hlt50)).2) (wd (does_load_agg ag_Sq rfl ((S.rdO 3).at (at_some Sq.z (And.intro (show 0 ≤ i50 by omega) (show i50 < (r38.2.1.length : Int) from hlt50)))) (Sq.len _)) ?_)))))
   refine wl_alloc ze_Sq (by decide) fun b60 w59 hw59 => ?_
   replace S := S.new hw59
   refine wd (does_as_i rfl) ?_
   refine wl_store_agg ag_Sq rfl rfl (S.blk 0) (Sq.len _) (by rw [Sq.len]; decide) (Sq.one _) (store_all (Sq.len _)) fun w61 B hw61 zw61 => ?_
   replace S := S.store 0 B hw61
   clear B
   refine wl_nil (wc_seq (wc_region (wd (does_mv_p rfl) (wd (does_load_agg ag_Sq rfl ((S.blk 0).all _ (Sq.len _)) (Sq.len _)) ?_))))
   obtain ⟨r62, er62, H⟩ := bind_ex H
   replace S := S.front 3
   obtain ⟨B64, MB64, SB64, back⟩ := S.calln 1 ((.z 0 rfl .nil))
   refine wl_call (does_call ca_search_finder_decide) (by decide) (hrec_search_finder_decide SB64 er62) ?_
   rintro _ w63 ⟨rfl, S2⟩
   replace S := back _ _ _ _ S2 rfl
   clear back S2 SB64
   refine wd (does_mv_t rfl) (wd (does_extract rfl rfl) (wd (does_extract rfl rfl) (wd (does_as_i rfl) (wd (does_as_i rfl) (wl_nil (wc_seq (wc_seq (wc_region (wd (does_mv_i rfl) (wd (does_ne rfl rfl) (wl_nil ?_)))))))))))
   refine wc_if rfl (fun hc65 => ?_) (fun hc65 => ?_)
   ·replace H := if_t hc65 H
    refine wc_seq (wc_region (wd (does_mv_i rfl) (wd (does_as_i rfl) (wd (does_as_i rfl) (wl_nil (wc_ret ?_))))))
    refine ⟨_, (rets2 (retOne_tmp rfl) (retOne_tmp rfl)), ?_⟩
    replace S := S.arr [0] []
    obtain rfl := Option.some.inj H
    obtain rfl := e50
    obtain rfl := aft_r Ho50
    obtain rfl := e22
    obtain rfl := aft_r Ho22
    exact ⟨rfl, S⟩
   replace H := if_f hc65 H
   refine wc_skip (wc_seq (wc_region (wd (does_fieldAddr fl_Step_kids hv487 (o' := 20) rfl) (wd (does_load on_L_int rfl ((S.blk 3).cell (Step.get_kids _))) (wd (does_mv_i rfl) ?_)))))
   refine wl_lits (C := IC) (l := [r62.2.1]) (vs := [.int .i64 r62.2.1]) sl_L_int el_int.zero rfl rfl (fun _ _ => rfl) (by decide) rfl (by decide) fun b67 w66 s68 hBw66 hw66 => ?_
   replace S := S.lit hBw66 hw66 (by simp)
   obtain ⟨ha71, H⟩ := chk_ex H
   have ha71 := of_decide_eq_true ha71
   refine wl_appends (C := IC) sl_L_int el_int rfl rfl (S.sl 3) (S.rdO 0) (by simp) (fun a _ v hv => by rw [List.mem_singleton.1 hv]; rfl) ha71 (by omega) (by decide) fun s70 w69 O hw69 gw69 => ?_
   replace S := S.push 3 O (by first | (simp; done) | (simp; omega)) hw69 gw69
   clear O
   refine wd (does_fieldAddr fl_Step_kids hv487 (o' := 20) rfl) ?_
   refine wl_store on_L_int rfl rfl (S.blk 4) (by rw [Step.len]; decide) (SlV.one _ _ rfl) (Step.set_kids _ _) fun w72 B hw72 zw72 => ?_
   replace S := S.store 4 B hw72
   clear B
   refine wl_nil (wc_seq (wc_seq (wc_region (wd (does_mv_p rfl) ?_))))
   obtain ⟨p73, s75, m76, hp74, S⟩ := S.open_oF 3
   replace S := S
   refine wd (does_nilCheck (congrArg Value.pointer hp74)) (wd (does_fieldAddr fl_Finder_steps rfl (o' := 1) rfl) (wd (does_load on_L_api_Step rfl ((S.blk 0).cell (Finder.get_steps _))) (wd (does_mv_i rfl) ?_)))
   obtain ⟨hi77, H⟩ := chk_ex H
   refine wd (does_indexD sl_L_api_Step rfl rfl (S.onO 2) (inb_ex hi77).1 (inb_ex hi77).2) (wd (does_fieldAddr fl_Step_proved rfl (o' := _) rfl) (wd (does_load on_bool rfl (oD.cell (z := PStep.z) (S.onO 2) (inb_ex hi77) (fun _ => rStep.get_proved))) ?_))
   replace S := ((S.front 3).front 3).front 3
   replace S := (S.front 3).shut_oF hp74
   refine wl_nil ?_
   refine wc_if rfl (fun hc78 => ?_) (fun hc78 => ?_)
   ·replace H := if_t hc78 H
    refine wc_exit (wc_region (wd (does_addc q50_i rfl (c := i50 + 1) rfl (by omega) (by omega)) (wd (does_mv_i rfl) (wl_nil ?_))))
    replace S := S.arr [2, 1, 0, 5, 6, 7, 8, 9, 10] [0]
    obtain rfl := Option.some.inj H
    exact ⟨rfl, (((((((((((((((((((((((((((((((((Dif.self _ _ _).upd rfl _).upd rfl _).upd rfl _).upd rfl _).upd rfl _).upd rfl _).upd rfl _).upd rfl _).upd rfl _).upd rfl _).upd rfl _).upd rfl _).upd rfl _).upd rfl _).upd rfl _).upd rfl _).upd rfl _).upd rfl _).upd rfl _).upd rfl _).upd rfl _).upd rfl _).upd rfl _).upd rfl _).upd rfl _).upd rfl _).upd rfl _).upd rfl _).upd rfl _).upd rfl _).upd rfl _).upd rfl _), (m50, i50 + 1, ((⟨x50_0.seq, x50_0.proved, x50_0.rule, x50_0.main, x50_0.kids ++ [r62.2.1]⟩ : PStep), r62.1, x50_2)), ⟨(by dsimp only; omega), (by dsimp only; omega), e50, s70, s56, rfl, S⟩, by dsimp only; omega⟩
   replace H := if_f hc78 H
   refine wc_skip (wc_seq (wc_region (wd (does_fieldAddr fl_Step_proved hv487 (o' := 17) rfl) ?_)))
   refine wl_store on_bool rfl rfl (S.blk 1) (by rw [Step.len]; decide) rfl (Step.set_proved _ _) fun w79 B hw79 zw79 => ?_
   replace S := S.store 1 B hw79
   clear B
   refine wl_nil (wc_seq (wc_seq (wc_region (wd (does_mv_i rfl) (wd (does_eq rfl rfl) (wl_nil ?_))))))
   refine wc_if rfl (fun hc80 => ?_) (fun hc80 => ?_)
   ·replace H := if_t hc80 H
    refine wc_seq (wc_region (wd (does_fieldAddr fl_Step_kids rfl (o' := 20) rfl) (wd (does_load on_L_int rfl ((S.blk 7).cell (Step.get_kids _))) (wd (does_mv_i rfl) ?_))))
    refine wl_lits (C := IC) (l := [r62.2.1]) (vs := [.int .i64 r62.2.1]) sl_L_int el_int.zero rfl rfl (fun _ _ => rfl) (by decide) rfl (by decide) fun b82 w81 s83 hBw81 hw81 => ?_
    replace S := S.lit hBw81 hw81 (by simp)
    obtain ⟨ha86, H⟩ := chk_ex H
    have ha86 := of_decide_eq_true ha86
    refine wl_appends (C := IC) sl_L_int el_int rfl rfl (S.sl 7) (S.rdO 0) (by simp) (fun a _ v hv => by rw [List.mem_singleton.1 hv]; rfl) ha86 (by omega) (by decide) fun s85 w84 O hw84 gw84 => ?_
    replace S := S.push 7 O (by first | (simp; done) | (simp; omega)) hw84 gw84
    clear O
    refine wd (does_fieldAddr fl_Step_kids rfl (o' := 20) rfl) ?_
    refine wl_store on_L_int rfl rfl (S.blk 8) (by rw [Step.len]; decide) (SlV.one _ _ rfl) (Step.set_kids _ _) fun w87 B hw87 zw87 => ?_
    replace S := S.store 8 B hw87
    clear B
    refine wl_nil ?_
    refine wc_exit ?_
    replace S := S.arr [5, 3, 4, 8, 1, 0, 9, 10, 11] [0]
    obtain rfl := Option.some.inj H
    exact ⟨rfl, ((((((((((((((((((((((((((((((((((((((((Dif.self _ _ _).upd rfl _).upd rfl _).upd rfl _).upd rfl _).upd rfl _).upd rfl _).upd rfl _).upd rfl _).upd rfl _).upd rfl _).upd rfl _).upd rfl _).upd rfl _).upd rfl _).upd rfl _).upd rfl _).upd rfl _).upd rfl _).upd rfl _).upd rfl _).upd rfl _).upd rfl _).upd rfl _).upd rfl _).upd rfl _).upd rfl _).upd rfl _).upd rfl _).upd rfl _).upd rfl _).upd rfl _).upd rfl _).upd rfl _).upd rfl _).upd rfl _).upd rfl _).upd rfl _).upd rfl _).upd rfl _), ((⟨x50_0.seq, false, x50_0.rule, x50_0.main, x50_0.kids ++ [r62.2.1]⟩ : PStep), r62.1, (⟨x50_2.seq, x50_2.proved, x50_2.rule, x50_2.main, x50_2.kids ++ [r62.2.1]⟩ : PStep)), e50, s70, s85, S⟩
   replace H := if_f hc80 H
   refine wc_skip (wc_seq (wc_region (wd (does_mv_i rfl) ?_)))
   refine wl_lits (C := IC) (l := [r62.2.1]) (vs := [.int .i64 r62.2.1]) sl_L_int el_int.zero rfl rfl (fun _ _ => rfl) (by decide) rfl (by decide) fun b89 w88 s90 hBw88 hw88 => ?_
   replace S := S.lit hBw88 hw88 (by simp)
   refine wd (does_fieldAddr fl_Step_kids hv487 (o' := 20) rfl) ?_
   refine wl_store on_L_int rfl rfl (S.blk 1) (by rw [Step.len]; decide) (SlV.one _ _ rfl) (Step.set_kids _ _) fun w91 B hw91 zw91 => ?_
   replace S := S.store 1 B hw91
   clear B
   refine wl_nil (wc_seq (wc_region (wd (does_mv_p rfl) (wd (does_load_agg ag_Step hv487 ((S.blk 0).all _ (Step.len _)) (Step.len _)) ?_))))
   obtain ⟨r92, er92, H⟩ := bind_ex H
   replace S := (S.front 1).front 2
   obtain ⟨B94, MB94, SB94, back⟩ := S.calln 2 ((.nil))
   refine wl_call (does_call ca_search_finder_end) (by decide) (search_finder_end_st (a1 := (⟨x50_0.seq, false, x50_0.rule, x50_0.main, [r62.2.1]⟩ : PStep)) SB94 er92) ?_
   rintro _ w93 ⟨rfl, S2⟩
   replace S := back _ _ _ _ S2 rfl
   clear back S2 SB94
   refine wd (does_extract rfl rfl) (wd (does_extract rfl rfl) (wd (does_as_i rfl) (wd (does_as_i rfl) (wl_nil (wc_ret ?_)))))
   refine ⟨_, (rets2 (retOne_tmp rfl) (retOne_tmp rfl)), ?_⟩
   replace S := S.arr [0] []
   obtain rfl := Option.some.inj H
   obtain rfl := e50
   obtain rfl := aft_r Ho50
   obtain rfl := e22
   obtain rfl := aft_r Ho22
   exact ⟨rfl, S⟩
  rintro g95 u96 ⟨s50, rfl, s51, s52, S⟩
  have H := Ho50
  dsimp only [aft] at H
  refine wc_seq (wc_region (wd (does_fieldAddr fl_Step_proved hv487 (o' := 17) rfl) (wd (does_load on_bool rfl ((S.blk 1).cell (Step.get_proved _))) (wl_nil ?_))))
  refine wc_if rfl (fun hc97 => ?_) (fun hc97 => ?_)
  ·replace H := if_t hc97 H
   refine wc_seq (wc_region (wd (does_mv_p rfl) (wd (does_load_agg ag_Step hv487 ((S.blk 1).all _ (Step.len _)) (Step.len _)) ?_)))
   obtain ⟨r98, er98, H⟩ := bind_ex H
   replace S := S.front 2
   obtain ⟨B100, MB100, SB100, back⟩ := S.calln 2 ((.nil))
   refine wl_call (does_call ca_search_finder_end) (by decide) (search_finder_end_st (a1 := s50.1) SB100 er98) ?_
   rintro _ w99 ⟨rfl, S2⟩
   replace S := back _ _ _ _ S2 rfl
   clear back S2 SB100
   refine wd (does_extract rfl rfl) (wd (does_extract rfl rfl) (wd (does_as_i rfl) (wd (does_as_i rfl) (wl_nil (wc_ret ?_)))))
   refine ⟨_, (rets2 (retOne_tmp rfl) (retOne_tmp rfl)), ?_⟩
   replace S := S.arr [0] []
   obtain rfl := Option.some.inj H
   obtain rfl := e22
   obtain rfl := aft_r Ho22
   exact ⟨rfl, S⟩
  replace H := if_f hc97 H
  refine wc_skip (wc_region (wd (does_addc q22_i rfl (c := i22 + 1) rfl (by omega) (by omega)) (wd (does_mv_i rfl) (wl_nil ?_))))
  replace S := S.arr [4, 5, 2, 6, 7, 8] [0]
  obtain rfl := Option.some.inj H
  exact ⟨rfl, (((((((((((((((((((((((((((((((((((((((((((Dif.self _ _ _).upd rfl _).upd rfl _).upd rfl _).upd rfl _).upd rfl _).upd rfl _).upd rfl _).upd rfl _).upd rfl _).upd rfl _).upd rfl _).upd rfl _).upd rfl _).upd rfl _).upd rfl _).upd rfl _).mask rfl _).upd rfl _).upd rfl _).upd rfl _).upd rfl _).upd rfl _).mask rfl _).upd rfl _).upd rfl _).upd rfl _).upd rfl _).upd rfl _).upd rfl _).upd rfl _).upd rfl _).upd rfl _).upd rfl _).mask rfl _).upd rfl _).upd rfl _).upd rfl _).mask rfl _).upd rfl _).upd rfl _).upd rfl _).upd rfl _), (m22, i22 + 1, (s50.2.2, s50.2.1)), ⟨(by dsimp only; omega), (by dsimp only; omega), e22, s52, rfl, S⟩, by dsimp only; omega⟩
 rintro g101 u102 ⟨s22, rfl, s23, S⟩
 have H := Ho22
 dsimp only [aft] at H
 refine wc_seq (wc_region (wd (does_mv_p rfl) (wd (does_load_agg ag_Step rfl ((S.blk 1).all _ (Step.len _)) (Step.len _)) ?_)))
 obtain ⟨r103, er103, H⟩ := bind_ex H
 replace S := S.front 2
 obtain ⟨B105, MB105, SB105, back⟩ := S.calln 2 ((.nil))
 refine wl_call (does_call ca_search_finder_end) (by decide) (search_finder_end_st (a1 := s22.1) SB105 er103) ?_
 rintro _ w104 ⟨rfl, S2⟩
 replace S := back _ _ _ _ S2 rfl
 clear back S2 SB105
 refine wd (does_extract rfl rfl) (wd (does_extract rfl rfl) (wd (does_as_i rfl) (wd (does_as_i rfl) (wl_nil (wc_ret ?_)))))
 refine ⟨_, (rets2 (retOne_tmp rfl) (retOne_tmp rfl)), ?_⟩
 replace S := S.arr [0] []
 obtain rfl := Option.some.inj H
 exact ⟨rfl, S⟩
theorem search_finder_decide_gst {rec_search_finder_decide : PFinder → Sq → Option (PFinder × Int × Int)} (hrec_search_finder_decide : ∀ {A : Nat → Prop} {N : Oth} {w : World} {a0 : PFinder} {a_0 : Option Addr} {g_0_1 : Option Addr} {a1 : Sq} (S : St A N w w [oF a_0 g_0_1 a0] [oTz]) {r : PFinder × Int × Int} (H : rec_search_finder_decide a0 a1 = some r), Calls PP F_search_finder_decide #[.pointer a_0, .agg (Sq.C a1).toArray] w fun e w' => ∃ v, e = .returned v ∧ (v = .tuple #[.int .i64 r.2.1, .int .i64 r.2.2] ∧ St A N w w' [oF a_0 g_0_1 r.1] [])) {A : Nat → Prop} {N : Oth} {w : World} {a0 : PFinder} {a_0 : Option Addr} {g_0_1 : Option Addr} {a1 : Sq} (S : St A N w w [oF a_0 g_0_1 a0] [oTz]) {r : PFinder × Int × Int} (H : search_finder_decide.g rec_search_finder_decide a0 a1 = some r) :
  Calls PP F_search_finder_decide #[.pointer a_0, .agg (Sq.C a1).toArray] w fun e w' => ∃ v, e = .returned v ∧ (v = .tuple #[.int .i64 r.2.1, .int .i64 r.2.2] ∧ St A N w w' [oF a_0 g_0_1 r.1] []) := by
 unfold search_finder_decide.g at H
 refine calls_of_wc (n := 131) fn_search_finder_decide rfl rfl (by simp) (wc_seq (wc_region ?_))
 refine wl_box_agg rfl (by decide) fun b2 w1 hw1 => ?_
 replace S := S.new hw1
 refine wd (does_as_i rfl) (wd (does_as_i rfl) (wl_nil (wc_seq (wc_seq ?_))))
 obtain ⟨p3, s5, m6, hp4, S⟩ := S.open_oF 1
 replace S := S
 refine wc_quiet 10 (Ext w1) hmix (by kernel_rfl) (by kernel_rfl) (Ext.drawn _) (wq_does (fun v K => does_mv_p rfl) (wq_does (fun v K => does_nilCheck (congrArg Value.pointer hp4)) (wq_does (fun v K => does_fieldAddr fl_Finder_at_ rfl (o' := 2) rfl) (wq_does (fun v K => does_load on_M_api_Seq_int rfl (((S.ext K).blk 0).cell (Finder.get_at_ _))) (wq_does (fun v K => does_load_agg ag_Sq rfl (((S.ext K).blk 4).all _ (Sq.len _)) (Sq.len _)) (wq_does (fun v K => does_lookup_ok (C := mSqC) (D := (Value.int .i64)) (key := a1) (zv := 0) un_M_api_Seq_int key_Sq zv_int rfl rfl ((S.ext K).map 3)) (wq_does (fun v K => does_mv_t rfl) (wq_does (fun v K => does_extract rfl rfl) (wq_does (fun v K => does_extract rfl rfl) (wq_does (fun v K => does_as_i rfl) ?_))))))))))
 refine wq_nil fun w7 K => ?_
 replace S := S.ext K
 clear K
 refine wd (does_as_b rfl) ?_
 replace S := ((S.front 3).front 3).front 3
 replace S := (S.front 3).shut_oF hp4
 refine wl_nil (wc_seq (wc_region (wd (does_mv_b rfl) (wl_nil ?_))))
 refine wc_if rfl (fun hc8 => ?_) (fun hc8 => ?_)
 ·replace H := if_t hc8 H
  refine wc_seq (wc_region (wd (does_mv_i rfl) (wd (does_as_i rfl) (wd (does_as_i rfl) (wl_nil (wc_ret ?_))))))
  refine ⟨_, (rets2 (retOne_tmp rfl) (retOne_tmp rfl)), ?_⟩
  replace S := S.arr [0] []
  obtain rfl := Option.some.inj H
  exact ⟨rfl, S⟩
 replace H := if_f hc8 H
 refine wc_skip (wc_seq (wc_seq (wc_region (wd (does_mv_p rfl) ?_))))
 obtain ⟨p9, s11, m12, hp10, S⟩ := S.open_oF 0
 replace S := S
 refine wd (does_nilCheck (congrArg Value.pointer hp10)) (wd (does_fieldAddr fl_Finder_left rfl (o' := 3) rfl) (wd (does_load on_int rfl ((S.blk 0).cell (Finder.get_left _))) (wd (does_eq rfl rfl) ?_)))
 replace S := ((S.front 3).front 3).front 3
 replace S := (S.front 3).shut_oF hp10
 refine wl_nil ?_
 refine wc_if rfl (fun hc13 => ?_) (fun hc13 => ?_)
 ·replace H := if_t hc13 H
  refine wc_seq (wc_region (wd (does_as_i rfl) (wd (does_as_i rfl) (wl_nil (wc_ret ?_)))))
  refine ⟨_, (rets2 (retOne_tmp rfl) (retOne_tmp rfl)), ?_⟩
  replace S := S.arr [0] []
  obtain rfl := Option.some.inj H
  exact ⟨rfl, S⟩
 replace H := if_f hc13 H
 refine wc_skip (wc_seq (wc_region (wd (does_mv_p rfl) ?_)))
 obtain ⟨p14, s16, m17, hp15, S⟩ := S.open_oF 0
 replace S := S
 refine wd (does_nilCheck (congrArg Value.pointer hp15)) (wd (does_fieldAddr fl_Finder_left rfl (o' := 3) rfl) (wd (does_load on_int rfl ((S.blk 0).cell (Finder.get_left _))) (wd (does_sub rfl rfl) (wd (does_nilCheck (congrArg Value.pointer hp15)) (wd (does_fieldAddr fl_Finder_left rfl (o' := 3) rfl) ?_)))))
 refine wl_store on_int rfl rfl (S.blk 0) (by rw [Finder.len]; decide) rfl (Finder.set_left _ _) fun w18 B hw18 zw18 => ?_
 replace S := S.store 0 B hw18
 clear B
 replace S := ((S.front 3).front 3).front 3
 replace S := (S.front 3).shut_oF hp15
 refine wl_nil (wc_seq (wc_region (wd (does_mv_p rfl) ?_)))
 obtain ⟨p19, s21, m22, hp20, S⟩ := S.open_oF 0
 replace S := S
 refine wd (does_nilCheck (congrArg Value.pointer hp20)) (wd (does_fieldAddr fl_Finder_visits rfl (o' := 4) rfl) (wd (does_load on_int rfl ((S.blk 0).cell (Finder.get_visits _))) (wd (does_add rfl rfl) (wd (does_nilCheck (congrArg Value.pointer hp20)) (wd (does_fieldAddr fl_Finder_visits rfl (o' := 4) rfl) ?_)))))
 refine wl_store on_int rfl rfl (S.blk 0) (by rw [Finder.len]; decide) rfl (Finder.set_visits _ _) fun w23 B hw23 zw23 => ?_
 replace S := S.store 0 B hw23
 clear B
 replace S := ((S.front 3).front 3).front 3
 replace S := (S.front 3).shut_oF hp20
 refine wl_nil (wc_seq ?_)
 obtain ⟨p24, s26, m27, hp25, S⟩ := S.open_oF 0
 replace S := S
 refine wc_quiet 12 (Ext w23) hmix (by kernel_rfl) (by kernel_rfl) (Ext.drawn _) (wq_does (fun v K => does_mv_p rfl) (wq_does (fun v K => does_nilCheck (congrArg Value.pointer hp25)) (wq_does (fun v K => does_fieldAddr fl_Finder_t rfl (o' := 0) rfl) (wq_does (fun v K => does_load on_dictum_formula_has rfl (((S.ext K).blk 0).cell (Finder.get_t _))) (wq_does (fun v K => does_load_agg ag_Sq rfl (((S.ext K).blk 4).all _ (Sq.len _)) (Sq.len _)) ?_)))))
 obtain ⟨r28, er28, H⟩ := bind_ex H
 refine wq_call (fun v => does_call ca_rule_Apply) (fun v K => (have ⟨M, SS⟩ := (S.ext K).lend ((.o 1 rfl (.z 0 rfl .nil))); quiet (rule_Apply_st SS er28) (fun v w' h => ⟨h.1, _, _, h.2⟩))) (fun v v' K h => K.thenExt h) (wq_does (fun v K => does_mv_t rfl) (wq_does (fun v K => does_extract rfl rfl) (wq_does (fun v K => does_extract rfl rfl) (wq_does (fun v K => does_extract rfl rfl) (wq_does (fun v K => does_as_i rfl) (wq_does (fun v K => does_as_i rfl) ?_))))))
 refine wq_nil fun w29 K => ?_
 replace S := S.ext K
 clear K
 refine wd (does_as_i rfl) ?_
 replace S := ((S.front 3).front 3).front 3
 replace S := (S.front 3).shut_oF hp25
 refine wl_nil (wc_seq (wc_seq (wc_region (wd (does_mv_i rfl) (wd (does_ne rfl rfl) (wl_nil ?_))))))
 refine wc_if rfl (fun hc30 => ?_) (fun hc30 => ?_)
 ·replace H := if_t hc30 H
  refine wc_seq (wc_region (wd (does_mv_i rfl) (wd (does_as_i rfl) (wd (does_as_i rfl) (wl_nil (wc_ret ?_))))))
  refine ⟨_, (rets2 (retOne_tmp rfl) (retOne_tmp rfl)), ?_⟩
  replace S := S.arr [0] []
  obtain rfl := Option.some.inj H
  exact ⟨rfl, S⟩
 replace H := if_f hc30 H
 refine wc_skip (wc_seq (wc_seq (wc_region (wd (does_mv_i rfl) (wd (does_eq rfl rfl) (wl_nil ?_))))))
 refine wc_if rfl (fun hc31 => ?_) (fun hc31 => ?_)
 ·replace H := if_t hc31 H
  refine wc_seq (wc_region (wd (does_mv_p rfl) (wd (does_load_agg ag_Sq rfl ((S.blk 1).all _ (Sq.len _)) (Sq.len _)) ?_)))
  obtain ⟨r32, er32, H⟩ := bind_ex H
  obtain ⟨B34, MB34, SB34, back⟩ := S.calln 1 ((.z 0 rfl .nil))
  refine wl_call (does_call ca_search_finder_choose) (by decide) (search_finder_choose_gst hrec_search_finder_decide SB34 er32) ?_
  rintro _ w33 ⟨rfl, S2⟩
  replace S := back _ _ _ _ S2 rfl
  clear back S2 SB34
  refine wd (does_extract rfl rfl) (wd (does_extract rfl rfl) (wd (does_as_i rfl) (wd (does_as_i rfl) (wl_nil (wc_ret ?_)))))
  refine ⟨_, (rets2 (retOne_tmp rfl) (retOne_tmp rfl)), ?_⟩
  replace S := S.arr [0] []
  obtain rfl := Option.some.inj H
  exact ⟨rfl, S⟩
 replace H := if_f hc31 H
 refine wc_skip (wc_seq ?_)
 obtain ⟨p35, s37, m38, hp36, S⟩ := S.open_oF 0
 replace S := S
 refine wc_ws hmix fun w40 K => ?_
 replace S := S.ext K
 clear K
 refine ws_semi 0 7 [] (by kernel_rfl) (by decide) (by kernel_rfl)
  (V := fun i v u => match i with
  | _ => True) ?_ ?_
 ·intro i v u u' hi hx hv
  match i, hv with
  | _, _ => exact trivial
 refine wm_does (fun v K => does_mv_p rfl) rfl (wm_does (fun v K => does_nilCheck (congrArg Value.pointer hp36)) rfl (wm_does (fun v K => does_fieldAddr fl_Finder_t rfl (o' := 0) rfl) rfl (wm_does (fun v K => does_load on_dictum_formula_has rfl (((S.ext K).blk 0).cell (Finder.get_t _))) rfl (wm_does (fun v K => does_load_agg ag_Sq rfl (((S.ext K).blk 4).all _ (Sq.len _)) (Sq.len _)) rfl (wm_does (fun v K => does_mv_i rfl) rfl (wm_does (fun v K => does_mv_i rfl) rfl ?_))))))
 refine wm_nil fun g w41 K hV => ?_
 replace S := S.ext K
 clear K hV
 refine ws_chain 7 9 (by kernel_rfl) (by decide) ?_
 obtain ⟨r43, er43, H⟩ := bind_ex H
 replace S := S.front 1
 obtain ⟨B45, MB45, SB45, back⟩ := S.calln 1 ((.z 0 rfl .nil))
 refine wl_call (does_call ca_rule_Premises) (by decide) (rule_Premises_st SB45 er43) ?_
 rintro _ w44 ⟨s46, rfl, S2⟩
 replace S := back _ _ _ _ S2 rfl
 clear back S2 SB45
 refine wd (does_mv_t rfl) (wl_nil ⟨rfl, ?_⟩)
 refine ws_semi 9 12 [] (by kernel_rfl) (by decide) (by kernel_rfl)
  (V := fun i v u => match i with
  | _ => True) ?_ ?_
 ·intro i v u u' hi hx hv
  match i, hv with
  | _, _ => exact trivial
 refine wm_does (fun v K => does_extract rfl rfl) rfl (wm_does (fun v K => does_extract rfl rfl) rfl (wm_does (fun v K => does_as_l rfl) rfl ?_))
 refine wm_nil fun g w47 K hV => ?_
 replace S := S.ext K
 clear K hV
 refine ws_tail 12 (by kernel_rfl) (by decide) (wd (does_as_i rfl) ?_)
 replace S := ((S.front 4).front 4).front 2
 replace S := (S.front 4).shut_oF hp36
 refine wl_nil (wc_seq (wc_seq (wc_region (wd (does_mv_i rfl) (wd (does_ne rfl rfl) (wl_nil ?_))))))
 refine wc_if rfl (fun hc49 => ?_) (fun hc49 => ?_)
 ·replace H := if_t hc49 H
  refine wc_seq (wc_region (wd (does_mv_i rfl) (wd (does_as_i rfl) (wd (does_as_i rfl) (wl_nil (wc_ret ?_))))))
  refine ⟨_, (rets2 (retOne_tmp rfl) (retOne_tmp rfl)), ?_⟩
  replace S := S.arr [0] []
  obtain rfl := Option.some.inj H
  exact ⟨rfl, S⟩
 replace H := if_f hc49 H
 refine wc_skip (wc_seq (wc_region (wd (does_load_agg ag_Sq rfl ((S.blk 2).all _ (Sq.len _)) (Sq.len _)) (wd (does_mv_i rfl) (wd (does_mv_i rfl) (wd (Does.to (v' := .agg (Step.C (⟨a1, true, r28.1, r28.2.1, SlV.nil⟩ : Step)).toArray) (does_buildv (vs := [(0, .agg (Sq.C a1).toArray), (1, .bool true), (2, .int .i64 r28.1), (3, .int .i64 r28.2.1)]) bu_Step (consP rfl (consP rfl (consP rfl (consP rfl rfl)))) (Bld.step rfl rfl (Sq.len _) (by rw [Step.len]; decide) (Step.put_seq _ _) (Bld.one rfl rfl (by rw [Step.len]; decide) (Step.set_proved _ _) (Bld.one rfl rfl (by rw [Step.len]; decide) (Step.set_rule _ _) (Bld.one rfl rfl (by rw [Step.len]; decide) (Step.set_main _ _) Bld.nil))))) rfl) ?_))))))
 refine wl_alloc ze_Step (by decide) fun b51 w50 hw50 => ?_
 replace S := S.new hw50
 refine wl_store_agg ag_Step rfl rfl (S.blk 0) (Step.len _) (by rw [Step.len]; decide) (Step.one _) (store_all (Step.len _)) fun w52 B hw52 zw52 => ?_
 replace S := S.store 0 B hw52
 clear B
 refine wl_nil (wc_seq (wc_seq (wc_region (wd (does_mv_l rfl) (wd (does_lenR sl_L_api_Seq rfl (S.rdO 2)) (wd (does_mv_i rfl) (wl_nil ?_)))))))
 replace S := S.nil T_int 1 IC
 obtain ⟨o53, e53, Ho53⟩ := bind_ex H
 clear H
 refine wc_cutq [4, 5, 14, 15, 16, 87, 88, 89, 90, 91, 92, 93, 94, 95, 96, 97, 98, 99, 100, 101, 102, 103, 104, 105, 106, 107, 108, 109, 110, 111, 112, 113, 114, 115, 116, 117, 118, 119, 120, 121, 122, 123, 124, 125] (fun fr W => ∃ s53 : PStep × PFinder, o53 = .inl s53 ∧ ∃ s54 : SlV, St A N w W [oS T_int 1 IC s54 s53.1.kids, oB b51 T_Step (Step.C (⟨s53.1.seq, s53.1.proved, s53.1.rule, s53.1.main, s54⟩ : Step)), oF a_0 g_0_1 s53.2, oS T_Sq 17 Sq.C s46 r43.2.1, oB b2 T_Sq (Sq.C a1)] [oTz]) ?_ ?_
 ·refine wc_block ?_
  refine wc_loopm (α := Nat × Int × (PStep × PFinder)) [4, 5, 14, 15, 16, 87, 88, 89, 90, 91, 92, 93, 94, 95, 96, 97, 98, 99, 100, 101, 102, 103, 104, 105, 106, 107, 108, 109, 110, 111, 112, 113, 114, 115, 116, 117, 118, 119, 120, 121, 122, 123, 124, 125] (fun x fr W => (x.1 : Int) = (r43.2.1.length : Int) - x.2.1 ∧ 0 ≤ x.2.1 ∧ forN (fun i s => search_finder_decide.b0 rec_search_finder_decide r43 a1 r28 i s.1 s.2) x.1 x.2.1 x.2.2 = some o53 ∧ ∃ s55 : SlV, fr 87 = .int .i64 x.2.1 ∧ St A N w W [oS T_int 1 IC s55 ((x.2.2.1).kids), oB b51 T_Step (Step.C (⟨(x.2.2.1).seq, (x.2.2.1).proved, (x.2.2.1).rule, (x.2.2.1).main, s55⟩ : Step)), oF a_0 g_0_1 (x.2.2.2), oS T_Sq 17 Sq.C s46 r43.2.1, oB b2 T_Sq (Sq.C a1)] [oTz]) (fun x => x.1) (((r43.2.1.length : Int) - 0).toNat, 0, ((⟨a1, true, r28.1, r28.2.1, ([] : List Int)⟩ : PStep), (⟨r43.1, a0.steps, a0.at_, IntKind.i64.wrap (a0.left - 1), IntKind.i64.wrap (a0.visits + 1)⟩ : PFinder))) ⟨(by dsimp only; have hle := Int.natCast_nonneg (r43.2.1.length); omega), (Int.le_refl _), (by dsimp only; exact e53), SlV.nil, rfl, S⟩ ?_
  rintro ⟨m53, i53, ⟨x53_0, x53_1⟩⟩ g53 u53 ⟨hm53, hl53, e53, s56, q53_i, S⟩
  try dsimp only at hm53
  try dsimp only at hl53
  try dsimp only at e53
  try dsimp only at S
  try dsimp only at q53_i
  refine wc_seq (wc_region (wd (does_lt q53_i rfl) (wl_nil (wc_seq ?_))))
  refine wc_if rfl (fun hc57 => ?_) (fun hc57 => ?_)
  rotate_left
  ·refine wc_exit ?_
   have hge : (r43.2.1.length : Int) ≤ i53 := Int.not_lt.1 (of_decide_eq_false hc57)
   obtain rfl : m53 = 0 := by omega
   replace e53 := forN_0 e53
   exact ⟨rfl, ((Dif.self _ _ _).upd rfl _), (x53_0, x53_1), e53, s56, S⟩
  refine wc_skip ?_
  have hlt53 : i53 < (r43.2.1.length : Int) := of_decide_eq_true hc57
  obtain ⟨m53, rfl⟩ : ∃ m, m53 = m + 1 := ⟨m53 - 1, by omega⟩
  obtain ⟨q53, H, e53⟩ := forN_s e53
  unfold search_finder_decide.b0 at H
  try dsimp only at H
  have hb53 := (S.lenO 3)
  refine wc_seq ?_
  refine wc_block (wc_seq (wc_region (wd (does_indexR sl_L_api_Seq rfl q53_i (S.rdO 3) (And.intro (show 0 ≤ i53 by omega) (show i53 < (r43.2.1.length : Int) from hlt53)).1 (And.intro (show 0 ≤ i53 by omega) (show i53 < (r43.2.1.length : Int) from hlt53)).2) (wd (does_load_agg ag_Sq rfl ((S.rdO 3).at (at_some Sq.z (And.intro (show 0 ≤ i53 by omega) (show i53 < (r43.2.1.length : Int) from hlt53)))) (Sq.len _)) ?_))))
  refine wl_alloc ze_Sq (by decide) fun b60 w59 hw59 => ?_
  replace S := S.new hw59
  refine wl_store_agg ag_Sq rfl rfl (S.blk 0) (Sq.len _) (by rw [Sq.len]; decide) (Sq.one _) (store_all (Sq.len _)) fun w61 B hw61 zw61 => ?_
  replace S := S.store 0 B hw61
  clear B
  refine wl_nil (wc_seq (wc_region (wd (does_mv_p rfl) (wd (does_load_agg ag_Sq rfl ((S.blk 0).all _ (Sq.len _)) (Sq.len _)) ?_))))
  obtain ⟨r62, er62, H⟩ := bind_ex H
  replace S := S.front 3
  obtain ⟨B64, MB64, SB64, back⟩ := S.calln 1 ((.z 0 rfl .nil))
  refine wl_call (does_call ca_search_finder_decide) (by decide) (hrec_search_finder_decide SB64 er62) ?_
  rintro _ w63 ⟨rfl, S2⟩
  replace S := back _ _ _ _ S2 rfl
  clear back S2 SB64
  refine wd (does_mv_t rfl) (wd (does_extract rfl rfl) (wd (does_extract rfl rfl) (wd (does_as_i rfl) (wd (does_as_i rfl) (wl_nil (wc_seq (wc_seq (wc_region (wd (does_mv_i rfl) (wd (does_ne rfl rfl) (wl_nil ?_)))))))))))
  refine wc_if rfl (fun hc65 => ?_) (fun hc65 => ?_)
  ·replace H := if_t hc65 H
   refine wc_seq (wc_region (wd (does_mv_i rfl) (wd (does_as_i rfl) (wd (does_as_i rfl) (wl_nil (wc_ret ?_))))))
   refine ⟨_, (rets2 (retOne_tmp rfl) (retOne_tmp rfl)), ?_⟩
   replace S := S.arr [0] []
   obtain rfl := Option.some.inj H
   obtain rfl := e53
   obtain rfl := aft_r Ho53
   exact ⟨rfl, S⟩
  replace H := if_f hc65 H
  refine wc_skip (wc_seq (wc_seq (wc_region (wd (does_mv_p rfl) ?_))))
  obtain ⟨p66, s68, m69, hp67, S⟩ := S.open_oF 0
  replace S := S
  refine wd (does_nilCheck (congrArg Value.pointer hp67)) (wd (does_fieldAddr fl_Finder_steps rfl (o' := 1) rfl) (wd (does_load on_L_api_Step rfl ((S.blk 0).cell (Finder.get_steps _))) (wd (does_mv_i rfl) ?_)))
  obtain ⟨hi70, H⟩ := chk_ex H
  refine wd (does_indexD sl_L_api_Step rfl rfl (S.onO 2) (inb_ex hi70).1 (inb_ex hi70).2) (wd (does_fieldAddr fl_Step_proved rfl (o' := _) rfl) (wd (does_load on_bool rfl (oD.cell (z := PStep.z) (S.onO 2) (inb_ex hi70) (fun _ => rStep.get_proved))) (wd (does_not rfl) ?_)))
  replace S := ((S.front 3).front 3).front 3
  replace S := (S.front 3).shut_oF hp67
  refine wl_nil ?_
  refine wc_if rfl (fun hc71 => ?_) (fun hc71 => ?_)
  ·replace H := if_t hc71 H
   refine wc_seq (wc_region (wd (does_mv_p rfl) (wd (does_load_agg ag_Sq rfl ((S.blk 5).all _ (Sq.len _)) (Sq.len _)) (wd (does_mv_i rfl) (wd (does_mv_i rfl) (wd (does_mv_i rfl) ?_))))))
   refine wl_lits (C := IC) (l := [r62.2.1]) (vs := [.int .i64 r62.2.1]) sl_L_int el_int.zero rfl rfl (fun _ _ => rfl) (by decide) rfl (by decide) fun b73 w72 s74 hBw72 hw72 => ?_
   replace S := S.lit hBw72 hw72 (by simp)
   refine wd (Does.to (v' := .agg (Step.C (⟨a1, false, r28.1, r28.2.1, s74⟩ : Step)).toArray) (does_buildv (vs := [(0, .agg (Sq.C a1).toArray), (2, .int .i64 r28.1), (3, .int .i64 r28.2.1), (4, s74.v)]) bu_Step (consP rfl (consP rfl (consP rfl (consP rfl rfl)))) (Bld.step rfl rfl (Sq.len _) (by rw [Step.len]; decide) (Step.put_seq _ _) (Bld.one rfl rfl (by rw [Step.len]; decide) (Step.set_rule _ _) (Bld.one rfl rfl (by rw [Step.len]; decide) (Step.set_main _ _) (Bld.one rfl (SlV.one _ _ rfl) (by rw [Step.len]; decide) (Step.set_kids _ _) Bld.nil))))) rfl) ?_
   obtain ⟨r75, er75, H⟩ := bind_ex H
   replace S := S.front 1
   obtain ⟨B77, MB77, SB77, back⟩ := S.calln 2 ((.nil))
   refine wl_call (does_call ca_search_finder_end) (by decide) (search_finder_end_st (a1 := (⟨a1, false, r28.1, r28.2.1, [r62.2.1]⟩ : PStep)) SB77 er75) ?_
   rintro _ w76 ⟨rfl, S2⟩
   replace S := back _ _ _ _ S2 rfl
   clear back S2 SB77
   refine wd (does_extract rfl rfl) (wd (does_extract rfl rfl) (wd (does_as_i rfl) (wd (does_as_i rfl) (wl_nil (wc_ret ?_)))))
   refine ⟨_, (rets2 (retOne_tmp rfl) (retOne_tmp rfl)), ?_⟩
   replace S := S.arr [0] []
   obtain rfl := Option.some.inj H
   obtain rfl := e53
   obtain rfl := aft_r Ho53
   exact ⟨rfl, S⟩
  replace H := if_f hc71 H
  refine wc_skip (wc_region (wd (does_fieldAddr fl_Step_kids rfl (o' := 20) rfl) (wd (does_load on_L_int rfl ((S.blk 3).cell (Step.get_kids _))) (wd (does_mv_i rfl) ?_))))
  refine wl_lits (C := IC) (l := [r62.2.1]) (vs := [.int .i64 r62.2.1]) sl_L_int el_int.zero rfl rfl (fun _ _ => rfl) (by decide) rfl (by decide) fun b79 w78 s80 hBw78 hw78 => ?_
  replace S := S.lit hBw78 hw78 (by simp)
  obtain ⟨ha83, H⟩ := chk_ex H
  have ha83 := of_decide_eq_true ha83
  refine wl_appends (C := IC) sl_L_int el_int rfl rfl (S.sl 3) (S.rdO 0) (by simp) (fun a _ v hv => by rw [List.mem_singleton.1 hv]; rfl) ha83 (by omega) (by decide) fun s82 w81 O hw81 gw81 => ?_
  replace S := S.push 3 O (by first | (simp; done) | (simp; omega)) hw81 gw81
  clear O
  refine wd (does_fieldAddr fl_Step_kids rfl (o' := 20) rfl) ?_
  refine wl_store on_L_int rfl rfl (S.blk 4) (by rw [Step.len]; decide) (SlV.one _ _ rfl) (Step.set_kids _ _) fun w84 B hw84 zw84 => ?_
  replace S := S.store 4 B hw84
  clear B
  refine wl_nil (wc_region (wd (does_addc q53_i rfl (c := i53 + 1) rfl (by omega) (by omega)) (wd (does_mv_i rfl) (wl_nil ?_))))
  replace S := S.arr [1, 0, 3, 5, 6] [0]
  obtain rfl := Option.some.inj H
  exact ⟨rfl, ((((((((((((((((((((((((((((((((Dif.self _ _ _).upd rfl _).upd rfl _).upd rfl _).upd rfl _).upd rfl _).upd rfl _).upd rfl _).upd rfl _).upd rfl _).upd rfl _).upd rfl _).upd rfl _).upd rfl _).upd rfl _).upd rfl _).upd rfl _).upd rfl _).upd rfl _).upd rfl _).upd rfl _).upd rfl _).upd rfl _).upd rfl _).upd rfl _).upd rfl _).upd rfl _).upd rfl _).upd rfl _).upd rfl _).upd rfl _).upd rfl _), (m53, i53 + 1, ((⟨x53_0.seq, x53_0.proved, x53_0.rule, x53_0.main, x53_0.kids ++ [r62.2.1]⟩ : PStep), r62.1)), ⟨(by dsimp only; omega), (by dsimp only; omega), e53, s82, rfl, S⟩, by dsimp only; omega⟩
 rintro g85 u86 ⟨s53, rfl, s54, S⟩
 have H := Ho53
 dsimp only [aft] at H
 refine wc_seq (wc_region (wd (does_mv_p rfl) (wd (does_load_agg ag_Step rfl ((S.blk 1).all _ (Step.len _)) (Step.len _)) ?_)))
 obtain ⟨r87, er87, H⟩ := bind_ex H
 replace S := S.front 2
 obtain ⟨B89, MB89, SB89, back⟩ := S.calln 2 ((.nil))
 refine wl_call (does_call ca_search_finder_end) (by decide) (search_finder_end_st (a1 := s53.1) SB89 er87) ?_
 rintro _ w88 ⟨rfl, S2⟩
 replace S := back _ _ _ _ S2 rfl
 clear back S2 SB89
 refine wd (does_extract rfl rfl) (wd (does_extract rfl rfl) (wd (does_as_i rfl) (wd (does_as_i rfl) (wl_nil (wc_ret ?_)))))
 refine ⟨_, (rets2 (retOne_tmp rfl) (retOne_tmp rfl)), ?_⟩
 replace S := S.arr [0] []
 obtain rfl := Option.some.inj H
 exact ⟨rfl, S⟩
theorem search_finder_decide_st {A : Nat → Prop} {N : Oth} {w : World} {a0 : PFinder} {a_0 : Option Addr} {g_0_1 : Option Addr} {a1 : Sq} (S : St A N w w [oF a_0 g_0_1 a0] [oTz]) {k : Nat} {r : PFinder × Int × Int} (H : search_finder_decide.f k a0 a1 = some r) :
  Calls PP F_search_finder_decide #[.pointer a_0, .agg (Sq.C a1).toArray] w fun e w' => ∃ v, e = .returned v ∧ (v = .tuple #[.int .i64 r.2.1, .int .i64 r.2.2] ∧ St A N w w' [oF a_0 g_0_1 r.1] []) := by
 have main : ∀ (k : Nat) {A : Nat → Prop} {N : Oth} {w : World} {a0 : PFinder} {a_0 : Option Addr} {g_0_1 : Option Addr} {a1 : Sq} (S : St A N w w [oF a_0 g_0_1 a0] [oTz]) {r : PFinder × Int × Int} (H : search_finder_decide.f k a0 a1 = some r), Calls PP F_search_finder_decide #[.pointer a_0, .agg (Sq.C a1).toArray] w fun e w' => ∃ v, e = .returned v ∧ (v = .tuple #[.int .i64 r.2.1, .int .i64 r.2.2] ∧ St A N w w' [oF a_0 g_0_1 r.1] []) := by
  intro k
  induction k with
  | zero => intro A N w a0 a_0 g_0_1 a1 S r H; cases H
  | succ k ih => intro A N w a0 a_0 g_0_1 a1 S r H; exact search_finder_decide_gst ih S H
 exact main k S H
theorem search_Run_st {A : Nat → Prop} {N : Oth} {w : World} {a0 : Tb} {a_0 : Option Addr} {a1 : Sq} {a2 : Int} (S : St A N w w [oT a_0 a0] [oTz]) {k : Nat} {r : Tb × PFound × Int} (H : search_Run.f k a0 a1 a2 = some r) :
  Calls PP F_search_Run #[.pointer a_0, .agg (Sq.C a1).toArray, .int .i64 a2] w fun e w' => ∃ v, e = .returned v ∧ (∃ so0 : SlV, v = .tuple #[.agg (Found.C (⟨r.2.1.proved, so0, r.2.1.visits⟩ : Found)).toArray, .int .i64 r.2.2] ∧ St A N w w' [oT a_0 r.1, oDStep so0 r.2.1.steps] []) := by
 unfold search_Run.f at H
 refine calls_of_wc (n := 88) fn_search_Run rfl rfl (by simp) (wc_seq (wc_region ?_))
 refine wl_box_p rfl (by decide) fun b2 w1 hw1 => ?_
 replace S := S.new hw1
 refine wl_box_agg rfl (by decide) fun b4 w3 hw3 => ?_
 replace S := S.new hw3
 refine wl_alloc ze_Found (by decide) fun b6 w5 hw5 => ?_
 replace S := S.new hw5
 refine wl_alloc ze_api_Errno (by decide) fun b8 w7 hw7 => ?_
 replace S := S.new hw7
 refine wl_nil (wc_seq (wc_seq (wc_region (wd (does_load on_dictum_formula_has rfl ((S.blk 3).cell rfl)) ?_))))
 obtain ⟨r9, er9, H⟩ := bind_ex H
 obtain ⟨B11, MB11, SB11, back⟩ := S.calln 0 ((.o 4 rfl .nil))
 refine wl_call (does_call ca_formula_Table_Not) (by decide) (formula_Table_Not_neg_st SB11 rfl er9) ?_
 rintro _ w10 ⟨rfl, S2⟩
 replace S := back _ _ _ _ S2 rfl
 clear back S2 SB11
 refine wd (does_mv_t rfl) (wd (does_extract rfl rfl) (wd (does_extract rfl rfl) (wd (does_as_i rfl) (wd (does_as_i rfl) (wl_nil (wc_seq (wc_region (wd (does_mv_i rfl) (wd (does_eq rfl rfl) (wl_nil ?_))))))))))
 refine wc_if rfl (fun hc12 => ?_) (fun hc12 => ?_)
 ·replace H := if_t hc12 H
  refine wc_seq (wc_region (wd (Does.to (v' := .agg (Found.C (⟨false, SlV.nil, 0⟩ : Found)).toArray) (does_buildv (vs := []) bu_Found rfl Bld.nil) rfl) (wd (does_mv_i rfl) ?_)))
  refine wl_store_agg ag_Found rfl rfl (S.blk 1) (Found.len _) (by rw [Found.len]; decide) (Found.one _) (store_all (Found.len _)) fun w13 B hw13 zw13 => ?_
  replace S := S.store 1 B hw13
  clear B
  refine wl_store on_api_Errno rfl rfl (S.blk 1) (by simp) rfl rfl fun w14 B hw14 zw14 => ?_
  replace S := S.store 1 B hw14
  clear B
  refine wl_nil (wc_ret ?_)
  replace S := S.nilD T_Step 21 Step.C rStep
  refine ⟨_, (rets2 (retOne_agg ag_Found rfl ((S.blk 2).all _ (Found.len _)) (Found.len _)) (retOne_one on_api_Errno rfl ((S.blk 1).cell rfl))), ?_⟩
  replace S := S.arr [5, 0] []
  obtain rfl := Option.some.inj H
  exact ⟨SlV.nil, rfl, S⟩
 replace H := if_f hc12 H
 refine wc_skip (wc_seq (wc_seq (wc_region (wd (does_fieldAddr fl_Sq_left rfl (o' := 0) rfl) (wd (does_load_agg ag_Bits rfl ((S.blk 2).cells (Sq.sub_left _)) (Bits.len _)) ?_)))))
 refine wl_call (does_call ca_bits_All) (by decide) (bits_All_ok _ a1.left) ?_
 rintro _ w15 ⟨c16, rfl, Bc16, hc16, Ec16⟩
 replace S := S.addZ (b := oB c16 T_Bits (Bits.C a1.left)) (G := (· = c16)) Ec16 ⟨Bc16, fun _ => Iff.rfl⟩ (fun i hi => by rw [hi]; exact hc16)
 refine wl_nil ?_
 refine wc_block ?_
 replace S := S.nilD T_Step 21 Step.C rStep
 obtain ⟨hok17, H⟩ := chk_ex H
 obtain ⟨o18, e18, Ho18⟩ := bind_ex H
 clear H
 refine wc_rangeSt (xs := Bits.list a1.left) (enc := fun (x : Nat) => Value.int .i64 (x : Int)) (bd := (fun (x : Nat) (s : Int × PFound) => search_Run.b0 a0 (x : Int) s.1 s.2)) (L := (fun (s : Int × PFound) (c : SlV) => [oDStep c s.2.steps, oB b8 T_api_Errno [.int .i64 s.1], oB b6 T_Found (Found.C (⟨s.2.proved, c, s.2.visits⟩ : Found)), oB b4 T_Sq (Sq.C a1), oB b2 T_dictum_formula_has [.pointer a_0], oT a_0 a0])) (Lr := (fun (s : Int × PFound) (c : SlV) => [oDStep c s.2.steps, oB b8 T_api_Errno [.int .i64 s.1], oB b6 T_Found (Found.C (⟨s.2.proved, c, s.2.visits⟩ : Found)), oB b4 T_Sq (Sq.C a1), oB b2 T_dictum_formula_has [.pointer a_0], oT a_0 a0])) (Z := [oB c16 T_Bits (Bits.C a1.left), oTz]) SlV.nil false 0 rfl ca_bits_All_1 (bits_All_1_gives (Bits.okB_ok hok17) c16) (by decide) (fun N' s c W h => ⟨h.blkZ 0, h.tz 1⟩) S e18 ?_ ?_ ?_ ?_
 ·rintro i18 ⟨x18_0, x18_1⟩ s19 q18 N18 rd u18 H S
  replace S := S
  refine wc_region (wd (does_as_i rfl) (wl_nil ?_))
  refine ⟨rfl, S, fun M18 v18 S => ?_⟩
  replace S := S
  replace H : search_Run.b0 a0 (i18 : Int) x18_0 x18_1 = some q18 := H
  unfold search_Run.b0 at H
  try dsimp only at H
  refine wc_block (wc_seq (wc_region (wd (does_mv_i rfl) (wd (does_load on_dictum_formula_has rfl ((S.blk 4).cell rfl)) ?_))))
  obtain ⟨r20, er20, H⟩ := bind_ex H
  obtain ⟨B22, MB22, SB22, back⟩ := S.calln 0 ((.o 5 rfl .nil))
  refine wl_call (does_call ca_formula_Table_Len) (by decide) (formula_Table_Len_st SB22 er20) ?_
  rintro _ w21 ⟨rfl, S2⟩
  replace S := back _ _ _ _ S2 rfl
  clear back S2 SB22
  refine wd (does_ge rfl rfl) (wl_nil ?_)
  refine wc_if rfl (fun hc23 => ?_) (fun hc23 => ?_)
  ·replace H := if_t hc23 H
   refine wc_seq (wc_region (wd (Does.to (v' := .agg (Found.C (⟨false, SlV.nil, 0⟩ : Found)).toArray) (does_buildv (vs := []) bu_Found rfl Bld.nil) rfl) ?_))
   refine wl_store_agg ag_Found rfl rfl (S.blk 2) (Found.len _) (by rw [Found.len]; decide) (Found.one _) (store_all (Found.len _)) fun w24 B hw24 zw24 => ?_
   replace S := S.store 2 B hw24
   clear B
   refine wl_store on_api_Errno rfl rfl (S.blk 2) (by simp) rfl rfl fun w25 B hw25 zw25 => ?_
   replace S := S.store 2 B hw25
   clear B
   refine wl_nil (wc_ret ?_)
   replace S := (S.nilD T_Step 21 Step.C rStep).arr [0, 1, 2, 4, 5, 6] [0, 1]
   obtain rfl := Option.some.inj H
   exact ⟨_, rfl, SlV.nil, S⟩
  replace H := if_f hc23 H
  refine wc_skip ?_
  obtain rfl := Option.some.inj H
  exact ⟨_, rfl, s19, S⟩
 ·rintro s18 s27 B18 w26 rfl S hB18
  replace S := S
  have H := Ho18
  dsimp only [fin] at H
  refine wc_seq (wc_seq ?_)
  refine wc_quiet 8 (Ext w26) hmix (by kernel_rfl) (by kernel_rfl) (Ext.drawn _) (wq_does (fun v K => does_fieldAddr fl_Sq_goal rfl (o' := 16) rfl) (wq_does (fun v K => does_load on_int rfl (((S.ext K).blk 3).cell (Sq.get_goal _))) (wq_does (fun v K => does_lt rfl rfl) (wq_does (fun v K => does_mv_b rfl) (wq_guard (j := 3) (pol := false) rfl rfl rfl (fun hg v K => does_fieldAddr fl_Sq_goal rfl (o' := 16) rfl) (wq_guard (j := 3) (pol := false) rfl rfl rfl (fun hg v K => does_load on_int (gv_yes hg) (((S.ext K).blk 3).cell (Sq.get_goal _))) (wq_guard (j := 3) (pol := false) rfl rfl rfl (fun hg v K => does_load on_dictum_formula_has rfl (((S.ext K).blk 4).cell rfl)) ?_)))))))
  obtain ⟨r28, er28, H⟩ := bind_ex H
  refine wq_gcall (j := 3) (pol := false) rfl rfl rfl (fun hg v => does_callg ca_formula_Table_Len (cons2 (gv_yes hg) rfl)) (fun hg v K => (have ⟨M, SS⟩ := (S.ext K).lend ((.o 5 rfl .nil)); quiet (formula_Table_Len_st SS (if_t (by simpa using hg) er28)) (fun v w' h => ⟨h.1, _, _, h.2⟩))) (fun v v' K h => K.thenExt h) ?_
  refine wq_nil fun w29 K => ?_
  replace S := S.ext K
  clear K
  refine wg (fun hg => does_ge (gv_yes hg) (gv_yes hg)) (wd (does_or rfl (fun hp => (gv_yes (and_1 hp)))) (wl_nil ?_))
  refine wc_if rfl (fun hc30 => ?_) (fun hc30 => ?_)
  ·replace H := if_t hc30 H
   refine wc_seq (wc_region (wd (Does.to (v' := .agg (Found.C (⟨false, SlV.nil, 0⟩ : Found)).toArray) (does_buildv (vs := []) bu_Found rfl Bld.nil) rfl) ?_))
   refine wl_store_agg ag_Found rfl rfl (S.blk 2) (Found.len _) (by rw [Found.len]; decide) (Found.one _) (store_all (Found.len _)) fun w31 B hw31 zw31 => ?_
   replace S := S.store 2 B hw31
   clear B
   refine wl_store on_api_Errno rfl rfl (S.blk 2) (by simp) rfl rfl fun w32 B hw32 zw32 => ?_
   replace S := S.store 2 B hw32
   clear B
   refine wl_nil (wc_ret ?_)
   refine end1 (.inl rfl) (S.take hB18).1 fun w33 hcw33 => ?_
   replace S := ((S.take hB18).2 _ hcw33).nilD T_Step 21 Step.C rStep
   refine ⟨_, (rets2 (retOne_agg ag_Found rfl ((S.blk 2).all _ (Found.len _)) (Found.len _)) (retOne_one on_api_Errno rfl ((S.blk 1).cell rfl))), ?_⟩
   replace S := S.arr [6, 0] []
   obtain rfl := Option.some.inj H
   exact ⟨SlV.nil, rfl, S⟩
  replace H := if_f hc30 H
  refine wc_skip (wc_seq (wc_seq (wc_region (wd (does_mv_i rfl) (wd (does_lt rfl rfl) (wd (does_mv_b rfl) (wg (fun hg => does_mv_i rfl) (wg (fun hg => does_gt (gv_yes hg) rfl) (wd (does_or rfl (fun hp => (gv_yes (and_1 hp)))) (wl_nil ?_))))))))))
  refine wc_if rfl (fun hc34 => ?_) (fun hc34 => ?_)
  ·replace H := if_t hc34 H
   refine wc_seq (wc_region (wd (Does.to (v' := .agg (Found.C (⟨false, SlV.nil, 0⟩ : Found)).toArray) (does_buildv (vs := []) bu_Found rfl Bld.nil) rfl) ?_))
   refine wl_store_agg ag_Found rfl rfl (S.blk 2) (Found.len _) (by rw [Found.len]; decide) (Found.one _) (store_all (Found.len _)) fun w35 B hw35 zw35 => ?_
   replace S := S.store 2 B hw35
   clear B
   refine wl_store on_api_Errno rfl rfl (S.blk 2) (by simp) rfl rfl fun w36 B hw36 zw36 => ?_
   replace S := S.store 2 B hw36
   clear B
   refine wl_nil (wc_ret ?_)
   refine end1 (.inl rfl) (S.take hB18).1 fun w37 hcw37 => ?_
   replace S := ((S.take hB18).2 _ hcw37).nilD T_Step 21 Step.C rStep
   refine ⟨_, (rets2 (retOne_agg ag_Found rfl ((S.blk 2).all _ (Found.len _)) (Found.len _)) (retOne_one on_api_Errno rfl ((S.blk 1).cell rfl))), ?_⟩
   replace S := S.arr [6, 0] []
   obtain rfl := Option.some.inj H
   exact ⟨SlV.nil, rfl, S⟩
  replace H := if_f hc34 H
  refine wc_skip (wc_seq (wc_region (wd (does_load on_dictum_formula_has rfl ((S.blk 4).cell rfl)) ?_)))
  obtain ⟨r38, er38, H⟩ := bind_ex H
  obtain ⟨B40, MB40, SB40, back⟩ := S.calln 0 ((.o 5 rfl .nil))
  refine wl_call (does_call ca_formula_Table_Len) (by decide) (formula_Table_Len_st SB40 er38) ?_
  rintro _ w39 ⟨rfl, S2⟩
  replace S := back _ _ _ _ S2 rfl
  clear back S2 SB40
  refine wd (does_as_i rfl) (wl_nil (wc_seq (wc_region (wd (does_load on_dictum_formula_has rfl ((S.blk 4).cell rfl)) ?_))))
  refine wl_makeMap (C := mSqC) (D := (Value.int .i64)) (by decide) fun m41 w42 hmw42 hxw42 hlw42 => ?_
  replace S := S.newM hmw42 hxw42 hlw42
  refine wd (does_mv_i rfl) (wd (Does.to (v' := .agg (Finder.C (⟨a_0, SlV.nil, (some m41), a2, 0⟩ : Finder)).toArray) (does_buildv (vs := [(0, .pointer a_0), (2, .map (some m41)), (3, .int .i64 a2)]) bu_Finder (consP rfl (consP rfl (consP rfl rfl))) (Bld.one rfl rfl (by rw [Finder.len]; decide) (Finder.set_t _ _) (Bld.one rfl rfl (by rw [Finder.len]; decide) (Finder.set_at_ _ _) (Bld.one rfl rfl (by rw [Finder.len]; decide) (Finder.set_left _ _) Bld.nil)))) rfl) ?_)
  refine wl_box_agg rfl (by decide) fun b44 w43 hw43 => ?_
  replace S := ((S.new hw43).nilD T_Step 21 Step.C rStep).front 2
  replace S := ((S.front 1).front 8).front 3
  replace S := S.shut_oF rfl
  refine wd (does_as_p rfl) (wl_nil (wc_seq (wc_region (wd (does_mv_p rfl) (wd (does_load_agg ag_Sq rfl ((S.blk 4).all _ (Sq.len _)) (Sq.len _)) ?_)))))
  obtain ⟨r45, er45, H⟩ := bind_ex H
  obtain ⟨B47, MB47, SB47, back⟩ := S.calln 1 ((.z 1 rfl .nil))
  refine wl_call (does_call ca_search_finder_decide) (by decide) (search_finder_decide_st SB47 er45) ?_
  rintro _ w46 ⟨rfl, S2⟩
  replace S := back _ _ _ _ S2 rfl
  clear back S2 SB47
  refine wd (does_mv_t rfl) (wd (does_extract rfl rfl) (wd (does_extract rfl rfl) (wd (does_as_i rfl) (wd (does_as_i rfl) (wl_nil (wc_seq (wc_seq (wc_region (wd (does_mv_i rfl) (wd (does_ne rfl rfl) (wl_nil ?_)))))))))))
  refine wc_if rfl (fun hc48 => ?_) (fun hc48 => ?_)
  ·replace H := if_t hc48 H
   refine wc_seq (wc_region (wd (does_load on_dictum_formula_has rfl ((S.blk 5).cell rfl)) (wd (does_mv_i rfl) ?_)))
   obtain ⟨p49, s51, m52, hp50, S⟩ := S.open_oF 0
   replace S := S
   obtain ⟨r53, er53, H⟩ := bind_ex H
   replace S := S.front 1
   obtain ⟨B55, MB55, SB55, back⟩ := S.calln 1 ((.nil))
   refine wl_call (does_call ca_formula_Table_Cut) (by decide) (formula_Table_Cut_st SB55 er53) ?_
   rintro _ w54 ⟨rfl, S2⟩
   replace S := back _ _ _ _ S2 rfl
   clear back S2 SB55
   replace S := ((S.front 3).front 3).front 2
   replace S := (S.front 3).shut_oF hp50
   refine wl_nil (wc_seq (wc_region (wd (Does.to (v' := .agg (Found.C (⟨false, SlV.nil, 0⟩ : Found)).toArray) (does_buildv (vs := []) bu_Found rfl Bld.nil) rfl) (wd (does_mv_i rfl) ?_))))
   refine wl_store_agg ag_Found rfl rfl (S.blk 3) (Found.len _) (by rw [Found.len]; decide) (Found.one _) (store_all (Found.len _)) fun w56 B hw56 zw56 => ?_
   replace S := S.store 3 B hw56
   clear B
   refine wl_store on_api_Errno rfl rfl (S.blk 3) (by simp) rfl rfl fun w57 B hw57 zw57 => ?_
   replace S := S.store 3 B hw57
   clear B
   refine wl_nil (wc_ret ?_)
   obtain ⟨p58, s60, m61, hp59, S⟩ := S.open_oF 2
   replace S := S
   refine end1 (.inl rfl) (S.take hB18).1 fun w62 hcw62 => ?_
   replace S := ((S.take hB18).2 _ hcw62).nilD T_Step 21 Step.C rStep
   refine ⟨_, (rets2 (retOne_agg ag_Found rfl ((S.blk 6).all _ (Found.len _)) (Found.len _)) (retOne_one on_api_Errno rfl ((S.blk 5).cell rfl))), ?_⟩
   replace S := S.arr [2, 0] []
   obtain rfl := Option.some.inj H
   exact ⟨SlV.nil, rfl, S⟩
  replace H := if_f hc48 H
  refine wc_skip (wc_seq ?_)
  obtain ⟨p63, s65, m66, hp64, S⟩ := S.open_oF 0
  replace S := S
  refine wc_quiet 16 (Ext w46) hmix (by kernel_rfl) (by kernel_rfl) (Ext.drawn _) (wq_does (fun v K => does_mv_p rfl) (wq_does (fun v K => does_nilCheck (congrArg Value.pointer hp64)) (wq_does (fun v K => does_fieldAddr fl_Finder_steps rfl (o' := 1) rfl) (wq_does (fun v K => does_load on_L_api_Step rfl (((S.ext K).blk 0).cell (Finder.get_steps _))) (wq_does (fun v K => does_mv_i rfl) ?_)))))
  obtain ⟨hi67, H⟩ := chk_ex H
  refine wq_does (fun v K => does_indexD sl_L_api_Step rfl rfl ((S.ext K).onO 2) (inb_ex hi67).1 (inb_ex hi67).2) (wq_does (fun v K => does_fieldAddr fl_Step_proved rfl (o' := _) rfl) (wq_does (fun v K => does_load on_bool rfl (oD.cell (z := PStep.z) ((S.ext K).onO 2) (inb_ex hi67) (fun _ => rStep.get_proved))) (wq_does (fun v K => does_mv_p rfl) (wq_does (fun v K => does_nilCheck (congrArg Value.pointer hp64)) (wq_does (fun v K => does_fieldAddr fl_Finder_steps rfl (o' := 1) rfl) (wq_does (fun v K => does_load on_L_api_Step rfl (((S.ext K).blk 0).cell (Finder.get_steps _))) (wq_does (fun v K => does_mv_p rfl) (wq_does (fun v K => does_nilCheck (congrArg Value.pointer hp64)) (wq_does (fun v K => does_fieldAddr fl_Finder_visits rfl (o' := 4) rfl) (wq_does (fun v K => does_load on_int rfl (((S.ext K).blk 0).cell (Finder.get_visits _))) ?_))))))))))
  refine wq_nil fun w68 K => ?_
  replace S := S.ext K
  clear K
  refine wd (Does.to (v' := .agg (Found.C (⟨(at_ PStep.z r45.1.steps r45.2.1).proved, s65, r45.1.visits⟩ : Found)).toArray) (does_buildv (vs := [(0, .bool ((at_ PStep.z r45.1.steps r45.2.1).proved)), (1, s65.v), (2, .int .i64 r45.1.visits)]) bu_Found (consP rfl (consP rfl (consP rfl rfl))) (Bld.one rfl rfl (by rw [Found.len]; decide) (Found.set_proved _ _) (Bld.one rfl (SlV.one _ _ rfl) (by rw [Found.len]; decide) (Found.set_steps _ _) (Bld.one rfl rfl (by rw [Found.len]; decide) (Found.set_visits _ _) Bld.nil)))) rfl) ?_
  refine wl_store_agg ag_Found rfl rfl (S.blk 6) (Found.len _) (by rw [Found.len]; decide) (Found.one _) (store_all (Found.len _)) fun w69 B hw69 zw69 => ?_
  replace S := S.store 6 B hw69
  clear B
  refine wl_store on_api_Errno rfl rfl (S.blk 6) (by simp) rfl rfl fun w70 B hw70 zw70 => ?_
  replace S := S.store 6 B hw70
  clear B
  refine wl_nil (wc_ret ?_)
  refine end1 (.inl rfl) (S.take hB18).1 fun w71 hcw71 => ?_
  replace S := (S.take hB18).2 _ hcw71
  refine ⟨_, (rets2 (retOne_agg ag_Found rfl ((S.blk 1).all _ (Found.len _)) (Found.len _)) (retOne_one on_api_Errno rfl ((S.blk 0).cell rfl))), ?_⟩
  replace S := S.arr [3, 4] []
  obtain rfl := Option.some.inj H
  exact ⟨s65, rfl, S⟩
 ·rintro s18 s73 B18 w72 rfl S hB18
  replace S := S
  have H := Ho18
  dsimp only [fin] at H
  refine end1 (.inl rfl) (S.take hB18).1 fun w74 hcw74 => ?_
  replace S := (S.take hB18).2 _ hcw74
  refine ⟨_, (rets2 (retOne_agg ag_Found rfl ((S.blk 2).all _ (Found.len _)) (Found.len _)) (retOne_one on_api_Errno rfl ((S.blk 1).cell rfl))), ?_⟩
  replace S := S.arr [5, 0] []
  obtain rfl := Option.some.inj H
  exact ⟨s73, rfl, S⟩
 ·intro h; cases h
end Go.Proofs.YtjjkhjieegmphaaDoor
end
section
namespace Go.Proofs.YtjjkhjieegmphaaDoor
open Gw Go.RowKit
theorem formula_From_st {A : Nat → Prop} {N : Oth} {w : World} {a0 : List Nd} {s_0 : SlV} (S : St A N w w [] [fS 4 Nd.C s_0 a0]) {r : Tb × Int} (H : formula_From.f a0 = some r) :
  Calls PP F_formula_From #[s_0.v] w fun e w' => ∃ v, e = .returned v ∧ (∃ ao0 : Option Addr, v = .tuple #[.pointer ao0, .int .i64 r.2] ∧ St A N w w' [oT ao0 r.1] []) := by
 unfold formula_From.f at H
 refine calls_of_wc (n := 35) fn_formula_From rfl rfl (by simp) (wc_seq (wc_region ?_))
 replace S := S.add (Ext.refl _) (oT.nil _) (fun _ x => x.elim)
 refine wd (does_as_p rfl) (wd (does_as_i rfl) (wl_nil (wc_seq (wc_region ?_))))
 obtain ⟨r1, er1, H⟩ := bind_ex H
 obtain ⟨B3, MB3, SB3, back⟩ := S.calln 0 ((.nil))
 refine wl_call (does_call ca_formula_New) (by decide) (formula_New_st SB3 er1) ?_
 rintro _ w2 ⟨a4, rfl, S2⟩
 replace S := back _ _ _ _ S2 rfl
 clear back S2 SB3
 refine wd (does_as_p rfl) (wl_nil (wc_seq (wc_seq (wc_region (wd (does_mv_l rfl) (wd (does_lenR sl_L_api_Node rfl (S.rd 0)) (wd (does_mv_i rfl) (wl_nil ?_))))))))
 obtain ⟨o5, e5, Ho5⟩ := bind_ex H
 clear H
 refine wc_cutq [2, 3, 5, 6, 7, 8, 12, 13, 14, 15, 16, 17, 18, 19, 20, 21, 22, 23, 24, 25, 26, 27, 28, 29, 30, 31, 32, 33] (fun fr W => ∃ s5 : Tb, o5 = .inl s5 ∧ St A N w W [oT a4 s5, oT none none] [fS 4 Nd.C s_0 a0]) ?_ ?_
 ·refine wc_block ?_
  refine wc_loopm (α := Nat × Int × Tb) [2, 3, 5, 6, 7, 8, 12, 13, 14, 15, 16, 17, 18, 19, 20, 21, 22, 23, 24, 25, 26, 27, 28, 29, 30, 31, 32, 33] (fun x fr W => (x.1 : Int) = (a0.length : Int) - x.2.1 ∧ 0 ≤ x.2.1 ∧ forN (fun i s => formula_From.b0 a0 i s) x.1 x.2.1 x.2.2 = some o5 ∧ fr 12 = .int .i64 x.2.1 ∧ St A N w W [oT a4 (x.2.2), oT none none] [fS 4 Nd.C s_0 a0]) (fun x => x.1) (((a0.length : Int) - 0).toNat, 0, r1) ⟨(by dsimp only; have hle := Int.natCast_nonneg (a0.length); omega), (Int.le_refl _), (by dsimp only; exact e5), rfl, S⟩ ?_
  rintro ⟨m5, i5, x5_0⟩ g5 u5 ⟨hm5, hl5, e5, q5_i, S⟩
  try dsimp only at hm5
  try dsimp only at hl5
  try dsimp only at e5
  try dsimp only at S
  try dsimp only at q5_i
  refine wc_seq (wc_region (wd (does_lt q5_i rfl) (wl_nil (wc_seq ?_))))
  refine wc_if rfl (fun hc6 => ?_) (fun hc6 => ?_)
  rotate_left
  ·refine wc_exit ?_
   have hge : (a0.length : Int) ≤ i5 := Int.not_lt.1 (of_decide_eq_false hc6)
   obtain rfl : m5 = 0 := by omega
   replace e5 := forN_0 e5
   exact ⟨rfl, ((Dif.self _ _ _).upd rfl _), x5_0, e5, S⟩
  refine wc_skip ?_
  have hlt5 : i5 < (a0.length : Int) := of_decide_eq_true hc6
  obtain ⟨m5, rfl⟩ : ∃ m, m5 = m + 1 := ⟨m5 - 1, by omega⟩
  obtain ⟨q5, H, e5⟩ := forN_s e5
  unfold formula_From.b0 at H
  try dsimp only at H
  have hb5 := (S.len 0)
  refine wc_seq ?_
  refine wc_block (wc_seq (wc_region (wd (does_mv_i q5_i) (wd (does_indexR sl_L_api_Node rfl q5_i (S.rd 0) (And.intro (show 0 ≤ i5 by omega) (show i5 < (a0.length : Int) from hlt5)).1 (And.intro (show 0 ≤ i5 by omega) (show i5 < (a0.length : Int) from hlt5)).2) (wd (does_load_agg ag_Nd rfl ((S.rd 0).at (at_some Nd.z (And.intro (show 0 ≤ i5 by omega) (show i5 < (a0.length : Int) from hlt5)))) (Nd.len _)) ?_)))))
  refine wl_alloc ze_Nd (by decide) fun b9 w8 hw8 => ?_
  replace S := S.new hw8
  refine wd (does_as_i rfl) ?_
  refine wl_store_agg ag_Nd rfl rfl (S.blk 0) (Nd.len _) (by rw [Nd.len]; decide) (Nd.one _) (store_all (Nd.len _)) fun w10 B hw10 zw10 => ?_
  replace S := S.store 0 B hw10
  clear B
  refine wl_nil (wc_seq (wc_region (wd (does_mv_p rfl) (wd (does_load_agg ag_Nd rfl ((S.blk 0).all _ (Nd.len _)) (Nd.len _)) ?_))))
  obtain ⟨r11, er11, H⟩ := bind_ex H
  replace S := S.front 1
  obtain ⟨B13, MB13, SB13, back⟩ := S.calln 1 ((.nil))
  refine wl_call (does_call ca_formula_Table_Put) (by decide) (formula_Table_Put_st SB13 er11) ?_
  rintro _ w12 ⟨rfl, S2⟩
  replace S := back _ _ _ _ S2 rfl
  clear back S2 SB13
  refine wd (does_mv_t rfl) (wd (does_extract rfl rfl) (wd (does_extract rfl rfl) (wd (does_as_i rfl) (wd (does_as_i rfl) (wl_nil (wc_seq (wc_seq (wc_region ?_))))))))
  refine wd (does_mv_i rfl) (wd (does_eq rfl rfl) (wd (does_mv_b rfl) ?_))
  refine wg (fun hg => does_mv_i rfl) ?_
  refine wg (fun hg => does_mv_i rfl) ?_
  refine wg (fun hg => does_ne (gv_yes hg) (gv_yes hg)) (wd (does_and rfl (fun hp => (gv_yes (and_1 hp)))) (wl_nil ?_))
  refine wc_if rfl (fun hc14 => ?_) (fun hc14 => ?_)
  ·replace H := if_t hc14 H
   refine wc_region (wd (does_as_i rfl) (wl_nil (wc_seq (wc_region (wd (does_mv_i rfl) (wd (does_ne rfl rfl) (wl_nil ?_)))))))
   refine wc_if rfl (fun hc15 => ?_) (fun hc15 => ?_)
   ·replace H := if_t hc15 H
    refine wc_seq (wc_region (wd (does_mv_i rfl) ?_))
    replace S := S.add (Ext.refl _) (oT.nil _) (fun _ x => x.elim)
    refine wd (does_as_p rfl) (wd (does_as_i rfl) (wl_nil (wc_ret ?_)))
    refine ⟨_, (rets2 (retOne_tmp rfl) (retOne_tmp rfl)), ?_⟩
    replace S := S.arr [0] []
    obtain rfl := Option.some.inj H
    obtain rfl := e5
    obtain rfl := aft_r Ho5
    exact ⟨none, rfl, S⟩
   replace H := if_f hc15 H
   refine wc_skip (wc_region (wd (does_addc q5_i rfl (c := i5 + 1) rfl (by omega) (by omega)) (wd (does_mv_i rfl) (wl_nil ?_))))
   replace S := S.arr [0, 2] [0]
   obtain rfl := Option.some.inj H
   exact ⟨rfl, (((((((((((((((((((((((((((Dif.self _ _ _).upd rfl _).upd rfl _).upd rfl _).upd rfl _).upd rfl _).upd rfl _).upd rfl _).upd rfl _).upd rfl _).upd rfl _).upd rfl _).upd rfl _).upd rfl _).upd rfl _).upd rfl _).upd rfl _).upd rfl _).upd rfl _).upd rfl _).upd rfl _).upd rfl _).upd rfl _).upd rfl _).upd rfl _).upd rfl _).upd rfl _), (m5, i5 + 1, r11.1), ⟨(by dsimp only; omega), (by dsimp only; omega), e5, rfl, S⟩, by dsimp only; omega⟩
  ·replace H := if_f hc14 H
   refine wc_skip (wc_seq (wc_region (wd (does_mv_i rfl) (wd (does_ne rfl rfl) (wl_nil ?_)))))
   refine wc_if rfl (fun hc16 => ?_) (fun hc16 => ?_)
   ·replace H := if_t hc16 H
    refine wc_seq (wc_region (wd (does_mv_i rfl) ?_))
    replace S := S.add (Ext.refl _) (oT.nil _) (fun _ x => x.elim)
    refine wd (does_as_p rfl) (wd (does_as_i rfl) (wl_nil (wc_ret ?_)))
    refine ⟨_, (rets2 (retOne_tmp rfl) (retOne_tmp rfl)), ?_⟩
    replace S := S.arr [0] []
    obtain rfl := Option.some.inj H
    obtain rfl := e5
    obtain rfl := aft_r Ho5
    exact ⟨none, rfl, S⟩
   replace H := if_f hc16 H
   refine wc_skip (wc_region (wd (does_addc q5_i rfl (c := i5 + 1) rfl (by omega) (by omega)) (wd (does_mv_i rfl) (wl_nil ?_))))
   replace S := S.arr [0, 2] [0]
   obtain rfl := Option.some.inj H
   exact ⟨rfl, ((((((((((((((((((((((((((Dif.self _ _ _).upd rfl _).upd rfl _).upd rfl _).upd rfl _).upd rfl _).upd rfl _).upd rfl _).upd rfl _).upd rfl _).upd rfl _).upd rfl _).upd rfl _).upd rfl _).upd rfl _).upd rfl _).upd rfl _).upd rfl _).upd rfl _).upd rfl _).upd rfl _).upd rfl _).upd rfl _).upd rfl _).upd rfl _).upd rfl _), (m5, i5 + 1, r11.1), ⟨(by dsimp only; omega), (by dsimp only; omega), e5, rfl, S⟩, by dsimp only; omega⟩
 rintro g17 u18 ⟨s5, rfl, S⟩
 have H := Ho5
 dsimp only [aft] at H
 refine wc_seq (wc_region (wd (does_mv_p rfl) (wd (does_as_p rfl) (wd (does_as_i rfl) (wl_nil (wc_ret ?_))))))
 refine ⟨_, (rets2 (retOne_tmp rfl) (retOne_tmp rfl)), ?_⟩
 replace S := S.arr [0] []
 obtain rfl := Option.some.inj H
 exact ⟨a4, rfl, S⟩
end Go.Proofs.YtjjkhjieegmphaaDoor
end
section
namespace Go.Proofs.YtjjkhjieegmphaaDoor
open Gw Go.RowKit
theorem ref03_Ints_st {A : Nat → Prop} {N : Oth} {w : World} {a0 : List Int} {s_0 : SlV} {a1 : List Int} {s_1 : SlV} (S : St A N w w [] [fS 1 IC s_0 a0, fS 1 IC s_1 a1]) {r : Bool} (H : ref03_Ints.f a0 a1 = some r) :
  Calls PP F_ref03_Ints #[s_0.v, s_1.v] w fun e w' => ∃ v, e = .returned v ∧ (v = .bool r ∧ St A N w w' [] []) := by
 unfold ref03_Ints.f at H
 refine calls_of_wc (n := 26) fn_ref03_Ints rfl rfl (by simp) (wc_seq (wc_region (wd (does_as_b rfl) (wl_nil (wc_seq (wc_seq (wc_region (wd (does_mv_l rfl) (wd (does_lenR sl_L_int rfl (S.rd 0)) (wd (does_mv_l rfl) (wd (does_lenR sl_L_int rfl (S.rd 1)) (wd (does_ne rfl rfl) (wl_nil ?_)))))))))))))
 refine wc_if rfl (fun hc1 => ?_) (fun hc1 => ?_)
 ·replace H := if_t hc1 H
  refine wc_seq (wc_region (wd (does_as_b rfl) (wl_nil (wc_ret ?_))))
  refine ⟨_, (rets1 (retOne_tmp rfl)), ?_⟩
  replace S := S.arr [] []
  obtain rfl := Option.some.inj H
  exact ⟨rfl, S⟩
 replace H := if_f hc1 H
 refine wc_skip (wc_seq (wc_seq (wc_region (wd (does_as_i rfl) (wl_nil ?_)))))
 obtain ⟨o2, e2, Ho2⟩ := bind_ex H
 clear H
 refine wc_cutq [4, 5, 11, 12, 13, 14, 15, 16, 17, 18, 19, 20, 21, 22, 23, 24, 25] (fun fr W => ∃ s2 : Unit, o2 = .inl s2 ∧ St A N w W [] [fS 1 IC s_0 a0, fS 1 IC s_1 a1]) ?_ ?_
 ·refine wc_block ?_
  refine wc_loopm (α := Nat × Int × Unit) [4, 5, 11, 12, 13, 14, 15, 16, 17, 18, 19, 20, 21, 22, 23, 24, 25] (fun x fr W => (x.1 : Int) = (a0.length : Int) - x.2.1 ∧ 0 ≤ x.2.1 ∧ forN (fun i s => ref03_Ints.b0 a1 a0 i) x.1 x.2.1 x.2.2 = some o2 ∧ fr 5 = .int .i64 x.2.1 ∧ St A N w W [] [fS 1 IC s_0 a0, fS 1 IC s_1 a1]) (fun x => x.1) (((a0.length : Int) - 0).toNat, 0, ()) ⟨(by dsimp only; have hle := Int.natCast_nonneg (a0.length); omega), (Int.le_refl _), (by dsimp only; exact e2), rfl, S⟩ ?_
  rintro ⟨m2, i2, _⟩ g2 u2 ⟨hm2, hl2, e2, q2_i, S⟩
  try dsimp only at hm2
  try dsimp only at hl2
  try dsimp only at e2
  try dsimp only at S
  try dsimp only at q2_i
  refine wc_seq (wc_seq (wc_region (wd (does_mv_i q2_i) (wd (does_mv_l rfl) (wd (does_lenR sl_L_int rfl (S.rd 0)) (wd (does_lt rfl rfl) (wl_nil ?_)))))))
  refine wc_if rfl (fun hc3 => ?_) (fun hc3 => ?_)
  rotate_left
  ·refine wc_exit ?_
   have hge : (a0.length : Int) ≤ i2 := Int.not_lt.1 (of_decide_eq_false hc3)
   obtain rfl : m2 = 0 := by omega
   replace e2 := forN_0 e2
   exact ⟨rfl, (((((Dif.self _ _ _).upd rfl _).upd rfl _).upd rfl _).upd rfl _), (), e2, S⟩
  refine wc_skip ?_
  have hlt2 : i2 < (a0.length : Int) := of_decide_eq_true hc3
  obtain ⟨m2, rfl⟩ : ∃ m, m2 = m + 1 := ⟨m2 - 1, by omega⟩
  obtain ⟨q2, H, e2⟩ := forN_s e2
  unfold ref03_Ints.b0 at H
  try dsimp only at H
  have hb2 := (S.len 0)
  refine wc_seq ?_
  refine wc_block (wc_seq ?_)
  refine wc_quiet 8 (Ext u2) hmix (by kernel_rfl) (by kernel_rfl) (Ext.drawn _) (wq_does (fun v K => does_mv_l rfl) (wq_does (fun v K => does_mv_i q2_i) (wq_does (fun v K => does_indexR sl_L_int rfl rfl ((S.ext K).rd 0) (And.intro (show 0 ≤ i2 by omega) (show i2 < (a0.length : Int) from hlt2)).1 (And.intro (show 0 ≤ i2 by omega) (show i2 < (a0.length : Int) from hlt2)).2) (wq_does (fun v K => does_load on_int rfl (((S.ext K).rd 0).one (at_some (0 : Int) (And.intro (show 0 ≤ i2 by omega) (show i2 < (a0.length : Int) from hlt2))) rfl)) (wq_does (fun v K => does_mv_l rfl) (wq_does (fun v K => does_mv_i q2_i) ?_))))))
  obtain ⟨hi5, H⟩ := chk_ex H
  refine wq_does (fun v K => does_indexR sl_L_int rfl rfl ((S.ext K).rd 1) (inb_ex hi5).1 (inb_ex hi5).2) (wq_does (fun v K => does_load on_int rfl (((S.ext K).rd 1).one (at_some (0 : Int) (inb_ex hi5)) rfl)) ?_)
  refine wq_nil fun w6 K => ?_
  replace S := S.ext K
  clear K
  refine wd (does_ne rfl rfl) (wl_nil ?_)
  refine wc_if rfl (fun hc7 => ?_) (fun hc7 => ?_)
  ·replace H := if_t hc7 H
   refine wc_seq (wc_region (wd (does_as_b rfl) (wl_nil (wc_ret ?_))))
   refine ⟨_, (rets1 (retOne_tmp rfl)), ?_⟩
   replace S := S.arr [] []
   obtain rfl := Option.some.inj H
   obtain rfl := e2
   obtain rfl := aft_r Ho2
   exact ⟨rfl, S⟩
  replace H := if_f hc7 H
  refine wc_skip (wc_region (wd (does_mv_i q2_i) (wd (does_addc rfl rfl (c := i2 + 1) rfl (by omega) (by omega)) (wd (does_as_i rfl) (wl_nil ?_)))))
  obtain rfl := Option.some.inj H
  exact ⟨rfl, (((((((((((((((((Dif.self _ _ _).upd rfl _).upd rfl _).upd rfl _).upd rfl _).upd rfl _).upd rfl _).upd rfl _).upd rfl _).upd rfl _).upd rfl _).upd rfl _).upd rfl _).upd rfl _).upd rfl _).upd rfl _).upd rfl _), (m2, i2 + 1, ()), ⟨(by dsimp only; omega), (by dsimp only; omega), e2, rfl, S⟩, by dsimp only; omega⟩
 rintro g8 u9 ⟨s2, rfl, S⟩
 have H := Ho2
 dsimp only [aft] at H
 refine wc_seq (wc_region (wd (does_as_b rfl) (wl_nil (wc_ret ?_))))
 refine ⟨_, (rets1 (retOne_tmp rfl)), ?_⟩
 replace S := S.arr [] []
 obtain rfl := Option.some.inj H
 exact ⟨rfl, S⟩
theorem ref03_Same_st {A : Nat → Prop} {N : Oth} {w : World} {a0 : List Nd} {s_0 : SlV} {a1 : List Nd} {s_1 : SlV} (S : St A N w w [] [fS 4 Nd.C s_0 a0, fS 4 Nd.C s_1 a1]) {r : Bool} (H : ref03_Same.f a0 a1 = some r) :
  Calls PP F_ref03_Same #[s_0.v, s_1.v] w fun e w' => ∃ v, e = .returned v ∧ (v = .bool r ∧ St A N w w' [] []) := by
 unfold ref03_Same.f at H
 refine calls_of_wc (n := 26) fn_ref03_Same rfl rfl (by simp) (wc_seq (wc_region (wd (does_as_b rfl) (wl_nil (wc_seq (wc_seq (wc_region (wd (does_mv_l rfl) (wd (does_lenR sl_L_api_Node rfl (S.rd 0)) (wd (does_mv_l rfl) (wd (does_lenR sl_L_api_Node rfl (S.rd 1)) (wd (does_ne rfl rfl) (wl_nil ?_)))))))))))))
 refine wc_if rfl (fun hc1 => ?_) (fun hc1 => ?_)
 ·replace H := if_t hc1 H
  refine wc_seq (wc_region (wd (does_as_b rfl) (wl_nil (wc_ret ?_))))
  refine ⟨_, (rets1 (retOne_tmp rfl)), ?_⟩
  replace S := S.arr [] []
  obtain rfl := Option.some.inj H
  exact ⟨rfl, S⟩
 replace H := if_f hc1 H
 refine wc_skip (wc_seq (wc_seq (wc_region (wd (does_as_i rfl) (wl_nil ?_)))))
 obtain ⟨o2, e2, Ho2⟩ := bind_ex H
 clear H
 refine wc_cutq [4, 5, 11, 12, 13, 14, 15, 16, 17, 18, 19, 20, 21, 22, 23, 24, 25] (fun fr W => ∃ s2 : Unit, o2 = .inl s2 ∧ St A N w W [] [fS 4 Nd.C s_0 a0, fS 4 Nd.C s_1 a1]) ?_ ?_
 ·refine wc_block ?_
  refine wc_loopm (α := Nat × Int × Unit) [4, 5, 11, 12, 13, 14, 15, 16, 17, 18, 19, 20, 21, 22, 23, 24, 25] (fun x fr W => (x.1 : Int) = (a0.length : Int) - x.2.1 ∧ 0 ≤ x.2.1 ∧ forN (fun i s => ref03_Same.b0 a1 a0 i) x.1 x.2.1 x.2.2 = some o2 ∧ fr 5 = .int .i64 x.2.1 ∧ St A N w W [] [fS 4 Nd.C s_0 a0, fS 4 Nd.C s_1 a1]) (fun x => x.1) (((a0.length : Int) - 0).toNat, 0, ()) ⟨(by dsimp only; have hle := Int.natCast_nonneg (a0.length); omega), (Int.le_refl _), (by dsimp only; exact e2), rfl, S⟩ ?_
  rintro ⟨m2, i2, _⟩ g2 u2 ⟨hm2, hl2, e2, q2_i, S⟩
  try dsimp only at hm2
  try dsimp only at hl2
  try dsimp only at e2
  try dsimp only at S
  try dsimp only at q2_i
  refine wc_seq (wc_seq (wc_region (wd (does_mv_i q2_i) (wd (does_mv_l rfl) (wd (does_lenR sl_L_api_Node rfl (S.rd 0)) (wd (does_lt rfl rfl) (wl_nil ?_)))))))
  refine wc_if rfl (fun hc3 => ?_) (fun hc3 => ?_)
  rotate_left
  ·refine wc_exit ?_
   have hge : (a0.length : Int) ≤ i2 := Int.not_lt.1 (of_decide_eq_false hc3)
   obtain rfl : m2 = 0 := by omega
   replace e2 := forN_0 e2
   exact ⟨rfl, (((((Dif.self _ _ _).upd rfl _).upd rfl _).upd rfl _).upd rfl _), (), e2, S⟩
  refine wc_skip ?_
  have hlt2 : i2 < (a0.length : Int) := of_decide_eq_true hc3
  obtain ⟨m2, rfl⟩ : ∃ m, m2 = m + 1 := ⟨m2 - 1, by omega⟩
  obtain ⟨q2, H, e2⟩ := forN_s e2
  unfold ref03_Same.b0 at H
  try dsimp only at H
  have hb2 := (S.len 0)
  refine wc_seq ?_
  refine wc_block (wc_seq ?_)
  refine wc_quiet 8 (Ext u2) hmix (by kernel_rfl) (by kernel_rfl) (Ext.drawn _) (wq_does (fun v K => does_mv_l rfl) (wq_does (fun v K => does_mv_i q2_i) (wq_does (fun v K => does_indexR sl_L_api_Node rfl rfl ((S.ext K).rd 0) (And.intro (show 0 ≤ i2 by omega) (show i2 < (a0.length : Int) from hlt2)).1 (And.intro (show 0 ≤ i2 by omega) (show i2 < (a0.length : Int) from hlt2)).2) (wq_does (fun v K => does_load_agg ag_Nd rfl (((S.ext K).rd 0).at (at_some Nd.z (And.intro (show 0 ≤ i2 by omega) (show i2 < (a0.length : Int) from hlt2)))) (Nd.len _)) (wq_does (fun v K => does_mv_l rfl) (wq_does (fun v K => does_mv_i q2_i) ?_))))))
  obtain ⟨hi5, H⟩ := chk_ex H
  refine wq_does (fun v K => does_indexR sl_L_api_Node rfl rfl ((S.ext K).rd 1) (inb_ex hi5).1 (inb_ex hi5).2) (wq_does (fun v K => does_load_agg ag_Nd rfl (((S.ext K).rd 1).at (at_some Nd.z (inb_ex hi5))) (Nd.len _)) ?_)
  refine wq_nil fun w6 K => ?_
  replace S := S.ext K
  clear K
  refine wd (does_nev eg_Nd (eq_Nd _ _) (by decide) rfl rfl) (wl_nil ?_)
  refine wc_if rfl (fun hc7 => ?_) (fun hc7 => ?_)
  ·replace H := if_t hc7 H
   refine wc_seq (wc_region (wd (does_as_b rfl) (wl_nil (wc_ret ?_))))
   refine ⟨_, (rets1 (retOne_tmp rfl)), ?_⟩
   replace S := S.arr [] []
   obtain rfl := Option.some.inj H
   obtain rfl := e2
   obtain rfl := aft_r Ho2
   exact ⟨rfl, S⟩
  replace H := if_f hc7 H
  refine wc_skip (wc_region (wd (does_mv_i q2_i) (wd (does_addc rfl rfl (c := i2 + 1) rfl (by omega) (by omega)) (wd (does_as_i rfl) (wl_nil ?_)))))
  obtain rfl := Option.some.inj H
  exact ⟨rfl, (((((((((((((((((Dif.self _ _ _).upd rfl _).upd rfl _).upd rfl _).upd rfl _).upd rfl _).upd rfl _).upd rfl _).upd rfl _).upd rfl _).upd rfl _).upd rfl _).upd rfl _).upd rfl _).upd rfl _).upd rfl _).upd rfl _), (m2, i2 + 1, ()), ⟨(by dsimp only; omega), (by dsimp only; omega), e2, rfl, S⟩, by dsimp only; omega⟩
 rintro g8 u9 ⟨s2, rfl, S⟩
 have H := Ho2
 dsimp only [aft] at H
 refine wc_seq (wc_region (wd (does_as_b rfl) (wl_nil (wc_ret ?_))))
 refine ⟨_, (rets1 (retOne_tmp rfl)), ?_⟩
 replace S := S.arr [] []
 obtain rfl := Option.some.inj H
 exact ⟨rfl, S⟩
theorem ref03_T_Has_st {A : Nat → Prop} {N : Oth} {w : World} {a0 : Tb} {a_0 : Option Addr} {a1 : Int} (S : St A N w w [] [oR a_0 a0]) {r : Bool} (H : ref03_T_Has.f a0 a1 = some r) :
  Calls PP F_ref03_T_Has #[.pointer a_0, .int .i64 a1] w fun e w' => ∃ v, e = .returned v ∧ (v = .bool r ∧ St A N w w' [] []) := by
 unfold ref03_T_Has.f at H
 refine calls_of_wc (n := 16) fn_ref03_T_Has rfl rfl (by simp) (wc_seq (wc_region (wd (does_as_b rfl) (wl_nil (wc_seq (wc_region (wd (does_mv_i rfl) (wd (does_ge rfl rfl) (wd (does_mv_b rfl) (wg (fun hg => does_mv_i rfl) (wg (fun hg => does_mv_p rfl) ?_)))))))))))
 obtain ⟨ht1, H⟩ := chk_ex H
 obtain ⟨p2, s3, hp4, S⟩ := S.seeR 0 ht1
 replace S := S
 refine wg (fun hg => does_nilCheck (((gv_yes hg) : _ = Value.pointer a_0).trans (congrArg Value.pointer hp4))) (wg (fun hg => does_fieldAddr fl_RTab_n (gv_yes hg) (o' := 0) rfl) (wg (fun hg => does_load on_L_api_Node (gv_yes hg) ((S.blkZ 0).cell (RTab.get_n _))) (wg (fun hg => does_lenR sl_L_api_Node (gv_yes hg) (S.rd 1)) (wg (fun hg => does_lt (gv_yes hg) (gv_yes hg)) (wd (does_and rfl (fun hp => (gv_yes (and_1 hp)))) (wd (does_as_b rfl) ?_))))))
 replace S := S.zs [2]
 refine wl_nil (wc_ret ?_)
 refine ⟨_, (rets1 (retOne_tmp rfl)), ?_⟩
 replace S := S.arr [] []
 obtain rfl := Option.some.inj H
 exact ⟨rfl, S⟩
theorem ref03_T_Find_st {A : Nat → Prop} {N : Oth} {w : World} {a0 : Tb} {a_0 : Option Addr} {a1 : Nd} (S : St A N w w [] [oR a_0 a0]) {r : Int × Bool} (H : ref03_T_Find.f a0 a1 = some r) :
  Calls PP F_ref03_T_Find #[.pointer a_0, .agg (Nd.C a1).toArray] w fun e w' => ∃ v, e = .returned v ∧ (v = .tuple #[.int .i64 r.1, .bool r.2] ∧ St A N w w' [] []) := by
 unfold ref03_T_Find.f at H
 refine calls_of_wc (n := 26) fn_ref03_T_Find rfl rfl (by simp) (wc_seq (wc_region ?_))
 refine wl_box_agg rfl (by decide) fun b2 w1 hw1 => ?_
 replace S := S.new hw1
 refine wd (does_as_i rfl) (wd (does_as_b rfl) (wl_nil (wc_seq (wc_seq (wc_region (wd (does_as_i rfl) (wl_nil ?_)))))))
 obtain ⟨ht3, H⟩ := chk_ex H
 obtain ⟨o4, e4, Ho4⟩ := bind_ex H
 clear H
 refine wc_cutq [4, 5, 6, 7, 8, 9, 10, 11, 12, 13, 14, 15, 16, 17, 18, 19, 20, 21, 22, 23, 24, 25] (fun fr W => ∃ s4 : Unit, o4 = .inl s4 ∧ St A N w W [oB b2 T_Nd (Nd.C a1)] [oR a_0 a0]) ?_ ?_
 ·refine wc_block ?_
  refine wc_loopm (α := Nat × Int × Unit) [4, 5, 6, 7, 8, 9, 10, 11, 12, 13, 14, 15, 16, 17, 18, 19, 20, 21, 22, 23, 24, 25] (fun x fr W => (x.1 : Int) = ((a0.getD []).length : Int) - x.2.1 ∧ 0 ≤ x.2.1 ∧ forN (fun i s => ref03_T_Find.b0 a0 a1 i) x.1 x.2.1 x.2.2 = some o4 ∧ fr 6 = .int .i64 x.2.1 ∧ St A N w W [oB b2 T_Nd (Nd.C a1)] [oR a_0 a0]) (fun x => x.1) ((((a0.getD []).length : Int) - 0).toNat, 0, ()) ⟨(by dsimp only; have hle := Int.natCast_nonneg ((a0.getD []).length); omega), (Int.le_refl _), (by dsimp only; exact e4), rfl, S⟩ ?_
  rintro ⟨m4, i4, _⟩ g4 u4 ⟨hm4, hl4, e4, q4_i, S⟩
  try dsimp only at hm4
  try dsimp only at hl4
  try dsimp only at e4
  try dsimp only at S
  try dsimp only at q4_i
  refine wc_seq (wc_seq (wc_region (wd (does_mv_i q4_i) (wd (does_mv_p rfl) ?_))))
  obtain ⟨p5, s6, hp7, S⟩ := S.seeR 0 ht3
  replace S := S
  refine wd (does_nilCheck (congrArg Value.pointer hp7)) (wd (does_fieldAddr fl_RTab_n rfl (o' := 0) rfl) (wd (does_load on_L_api_Node rfl ((S.blkZ 0).cell (RTab.get_n _))) (wd (does_lenR sl_L_api_Node rfl (S.rd 1)) (wd (does_lt rfl rfl) ?_))))
  replace S := S.zs [2]
  refine wl_nil ?_
  refine wc_if rfl (fun hc8 => ?_) (fun hc8 => ?_)
  rotate_left
  ·refine wc_exit ?_
   have hge : ((a0.getD []).length : Int) ≤ i4 := Int.not_lt.1 (of_decide_eq_false hc8)
   obtain rfl : m4 = 0 := by omega
   replace e4 := forN_0 e4
   exact ⟨rfl, ((((((((Dif.self _ _ _).upd rfl _).upd rfl _).upd rfl _).upd rfl _).upd rfl _).upd rfl _).upd rfl _), (), e4, S⟩
  refine wc_skip ?_
  have hlt4 : i4 < ((a0.getD []).length : Int) := of_decide_eq_true hc8
  obtain ⟨m4, rfl⟩ : ∃ m, m4 = m + 1 := ⟨m4 - 1, by omega⟩
  obtain ⟨q4, H, e4⟩ := forN_s e4
  unfold ref03_T_Find.b0 at H
  try dsimp only at H
  have hb4 := (S.lenRZ 0)
  refine wc_seq ?_
  refine wc_block (wc_seq ?_)
  refine wc_quiet 8 (Ext u4) hmix (by kernel_rfl) (by kernel_rfl) (Ext.drawn _) (wq_does (fun v K => does_mv_p rfl) ?_)
  obtain ⟨p9, s10, hp11, S⟩ := S.seeR 0 ht3
  replace S := S
  refine wq_does (fun v K => does_nilCheck (congrArg Value.pointer hp11)) (wq_does (fun v K => does_fieldAddr fl_RTab_n rfl (o' := 0) rfl) (wq_does (fun v K => does_load on_L_api_Node rfl (((S.ext K).blkZ 0).cell (RTab.get_n _))) (wq_does (fun v K => does_mv_i q4_i) (wq_does (fun v K => does_indexR sl_L_api_Node rfl rfl ((S.ext K).rd 1) (And.intro (show 0 ≤ i4 by omega) (show i4 < ((a0.getD []).length : Int) from hlt4)).1 (And.intro (show 0 ≤ i4 by omega) (show i4 < ((a0.getD []).length : Int) from hlt4)).2) (wq_does (fun v K => does_load_agg ag_Nd rfl (((S.ext K).rd 1).at (at_some Nd.z (And.intro (show 0 ≤ i4 by omega) (show i4 < ((a0.getD []).length : Int) from hlt4)))) (Nd.len _)) (wq_does (fun v K => does_load_agg ag_Nd rfl (((S.ext K).blk 0).all _ (Nd.len _)) (Nd.len _)) ?_))))))
  refine wq_nil fun w13 K => ?_
  replace S := S.ext K
  clear K
  refine wd (does_eqv eg_Nd (eq_Nd _ _) (by decide) rfl rfl) ?_
  replace S := S.zs [2]
  refine wl_nil ?_
  refine wc_if rfl (fun hc14 => ?_) (fun hc14 => ?_)
  ·replace H := if_t hc14 H
   refine wc_seq (wc_region (wd (does_mv_i q4_i) (wd (does_as_i rfl) (wd (does_as_b rfl) (wl_nil (wc_ret ?_))))))
   refine ⟨_, (rets2 (retOne_tmp rfl) (retOne_tmp rfl)), ?_⟩
   replace S := S.arr [] []
   obtain rfl := Option.some.inj H
   obtain rfl := e4
   obtain rfl := aft_r Ho4
   exact ⟨rfl, S⟩
  replace H := if_f hc14 H
  refine wc_skip (wc_region (wd (does_mv_i q4_i) (wd (does_addc rfl rfl (c := i4 + 1) rfl (by omega) (by omega)) (wd (does_as_i rfl) (wl_nil ?_)))))
  obtain rfl := Option.some.inj H
  exact ⟨rfl, ((((((((((((((((((((Dif.self _ _ _).upd rfl _).upd rfl _).upd rfl _).upd rfl _).upd rfl _).upd rfl _).upd rfl _).upd rfl _).upd rfl _).upd rfl _).upd rfl _).upd rfl _).upd rfl _).upd rfl _).upd rfl _).upd rfl _).upd rfl _).upd rfl _).upd rfl _), (m4, i4 + 1, ()), ⟨(by dsimp only; omega), (by dsimp only; omega), e4, rfl, S⟩, by dsimp only; omega⟩
 rintro g15 u16 ⟨s4, rfl, S⟩
 have H := Ho4
 dsimp only [aft] at H
 refine wc_seq (wc_region (wd (does_as_i rfl) (wd (does_as_b rfl) (wl_nil (wc_ret ?_)))))
 refine ⟨_, (rets2 (retOne_tmp rfl) (retOne_tmp rfl)), ?_⟩
 replace S := S.arr [] []
 obtain rfl := Option.some.inj H
 exact ⟨rfl, S⟩
theorem ref03_T_Put_st {A : Nat → Prop} {N : Oth} {w : World} {a0 : Tb} {a_0 : Option Addr} {a1 : Nd} (S : St A N w w [oR a_0 a0] []) {r : Tb × Int × Int} (H : ref03_T_Put.f a0 a1 = some r) :
  Calls PP F_ref03_T_Put #[.pointer a_0, .agg (Nd.C a1).toArray] w fun e w' => ∃ v, e = .returned v ∧ (v = .tuple #[.int .i64 r.2.1, .int .i64 r.2.2] ∧ St A N w w' [oR a_0 r.1] []) := by
 unfold ref03_T_Put.f at H
 refine calls_of_wc (n := 90) fn_ref03_T_Put rfl rfl (by simp) (wc_seq (wc_region ?_))
 refine wl_box_agg rfl (by decide) fun b2 w1 hw1 => ?_
 replace S := S.new hw1
 refine wd (does_as_i rfl) (wd (does_as_i rfl) (wl_nil (wc_seq (wc_seq (wc_region (wd (does_fieldAddr fl_Nd_kind rfl (o' := 0) rfl) (wd (does_load on_api_Kind rfl ((S.blk 0).cell (Nd.get_kind _))) (wl_nil ?_))))))))
 obtain ⟨o3, e3, Ho3⟩ := bind_ex H
 replace H := e3; clear e3
 refine wc_cutq [4, 5, 10, 11, 12, 13, 14, 15, 16, 17, 18, 19, 20, 21, 22, 23, 24, 25, 26, 27, 28, 29, 30, 31, 32, 33, 34, 35, 36, 37, 38, 39, 40, 41, 42, 43, 44, 45, 46, 47, 48, 49, 50, 51, 52, 53, 54, 55, 56, 57, 58, 59] (fun fr W => ∃ s3 : Tb, o3 = .inl s3 ∧ St A N w W [oB b2 T_Nd (Nd.C a1), oR a_0 s3] []) ?_ ?_
 ·refine wc_block (wc_seq (wc_region (wd (does_eq rfl rfl) (wd (does_as_b rfl) (wl_nil ?_)))))
  refine wc_if rfl (fun hc4 => ?_) (fun hc4 => ?_)
  ·replace H := if_t hc4 H
   refine wc_seq (wc_seq (wc_region (wd (does_fieldAddr fl_Nd_l rfl (o' := 2) rfl) (wd (does_load on_int rfl ((S.blk 0).cell (Nd.get_l _))) (wd (does_ne rfl rfl) (wd (does_mv_b rfl) (wg (fun hg => does_fieldAddr fl_Nd_r rfl (o' := 3) rfl) (wg (fun hg => does_load on_int (gv_yes hg) ((S.blk 0).cell (Nd.get_r _))) (wg (fun hg => does_ne (gv_yes hg) rfl) (wd (does_or rfl (fun hp => (gv_yes (and_1 hp)))) (wl_nil ?_)))))))))))
   refine wc_if rfl (fun hc5 => ?_) (fun hc5 => ?_)
   ·replace H := if_t hc5 H
    refine wc_seq (wc_region (wd (does_as_i rfl) (wd (does_as_i rfl) (wl_nil (wc_ret ?_)))))
    refine ⟨_, (rets2 (retOne_tmp rfl) (retOne_tmp rfl)), ?_⟩
    replace S := S.arr [1] []
    obtain rfl := Option.some.inj H
    obtain rfl := aft_r Ho3
    exact ⟨rfl, S⟩
   replace H := if_f hc5 H
   refine wc_skip (wc_seq (wc_region (wd (does_fieldAddr fl_Nd_name rfl (o' := 1) rfl) (wd (does_load on_string rfl ((S.blk 0).cell (Nd.get_name _))) ?_))))
   obtain ⟨r6, er6, H⟩ := bind_ex H
   obtain ⟨B8, MB8, SB8, back⟩ := S.calln 0 ((.nil))
   refine wl_call (does_call ca_ref03_Word) (by decide) (ref03_Word_st SB8 er6) ?_
   rintro _ w7 ⟨rfl, S2⟩
   replace S := back _ _ _ _ S2 rfl
   clear back S2 SB8
   refine wd (does_not rfl) (wl_nil ?_)
   refine wc_if rfl (fun hc9 => ?_) (fun hc9 => ?_)
   ·replace H := if_t hc9 H
    refine wc_seq (wc_region (wd (does_as_i rfl) (wd (does_as_i rfl) (wl_nil (wc_ret ?_)))))
    refine ⟨_, (rets2 (retOne_tmp rfl) (retOne_tmp rfl)), ?_⟩
    replace S := S.arr [1] []
    obtain rfl := Option.some.inj H
    obtain rfl := aft_r Ho3
    exact ⟨rfl, S⟩
   replace H := if_f hc9 H
   refine wc_skip ?_
   obtain rfl := Option.some.inj H
   exact ⟨rfl, (((((((((((((((Dif.refl _ _).upd rfl _).upd rfl _).upd rfl _).upd rfl _).upd rfl _).upd rfl _).upd rfl _).upd rfl _).upd rfl _).upd rfl _).upd rfl _).upd rfl _).upd rfl _).upd rfl _), a0, rfl, S⟩
  ·replace H := if_f hc4 H
   refine wc_seq (wc_region (wd (does_eq rfl rfl) (wd (does_as_b rfl) (wl_nil ?_))))
   refine wc_if rfl (fun hc10 => ?_) (fun hc10 => ?_)
   ·replace H := if_t hc10 H
    refine wc_seq (wc_region (wd (does_fieldAddr fl_Nd_name rfl (o' := 1) rfl) (wd (does_load on_string rfl ((S.blk 0).cell (Nd.get_name _))) (wd (does_nes rfl rfl) (wd (does_mv_b rfl) (wg (fun hg => does_fieldAddr fl_Nd_l rfl (o' := 2) rfl) (wg (fun hg => does_load on_int (gv_yes hg) ((S.blk 0).cell (Nd.get_l _))) (wg (fun hg => does_ne (gv_yes hg) rfl) (wd (does_or rfl (fun hp => (gv_yes (and_1 hp)))) (wd (does_mv_b rfl) (wg (fun hg => does_fieldAddr fl_Nd_r rfl (o' := 3) rfl) (wg (fun hg => does_load on_int (gv_yes hg) ((S.blk 0).cell (Nd.get_r _))) (wg (fun hg => does_ne (gv_yes hg) rfl) (wd (does_or rfl (fun hp => (gv_yes (and_1 hp)))) (wl_nil ?_)))))))))))))))
    refine wc_if rfl (fun hc11 => ?_) (fun hc11 => ?_)
    ·replace H := if_t hc11 H
     refine wc_seq (wc_region (wd (does_as_i rfl) (wd (does_as_i rfl) (wl_nil (wc_ret ?_)))))
     refine ⟨_, (rets2 (retOne_tmp rfl) (retOne_tmp rfl)), ?_⟩
     replace S := S.arr [1] []
     obtain rfl := Option.some.inj H
     obtain rfl := aft_r Ho3
     exact ⟨rfl, S⟩
    replace H := if_f hc11 H
    refine wc_skip ?_
    obtain rfl := Option.some.inj H
    exact ⟨rfl, ((((((((((((((((((Dif.refl _ _).upd rfl _).upd rfl _).upd rfl _).upd rfl _).upd rfl _).upd rfl _).upd rfl _).upd rfl _).upd rfl _).upd rfl _).upd rfl _).upd rfl _).upd rfl _).upd rfl _).upd rfl _).upd rfl _).upd rfl _), a0, rfl, S⟩
   ·replace H := if_f hc10 H
    refine wc_seq (wc_seq (wc_region (wd (does_eq rfl rfl) (wd (does_as_b rfl) (wl_nil ?_)))))
    obtain ⟨o12, e12, Ho12⟩ := bind_ex H
    replace H := e12; clear e12
    refine wc_cutq [39, 41, 42] (fun fr W => fr 39 = .bool o12 ∧ St A N w W [oB b2 T_Nd (Nd.C a1), oR a_0 a0] []) ?_ ?_
    ·refine wc_if rfl (fun hc13 => ?_) (fun hc13 => ?_)
     ·replace H := if_t hc13 H
      refine wc_skip ?_
      obtain rfl := Option.some.inj H
      exact ⟨rfl, (Dif.refl _ _), rfl, S⟩
     ·replace H := if_f hc13 H
      refine wc_seq (wc_region (wd (does_eq rfl rfl) (wd (does_as_b rfl) (wl_nil ?_))))
      refine wc_if rfl (fun hc14 => ?_) (fun hc14 => ?_)
      ·replace H := if_t hc14 H
       refine wc_skip ?_
       obtain rfl := Option.some.inj H
       exact ⟨rfl, (((Dif.refl _ _).upd rfl _).upd rfl _), rfl, S⟩
      ·replace H := if_f hc14 H
       refine wc_region (wd (does_eq rfl rfl) (wd (does_as_b rfl) (wl_nil ?_)))
       obtain rfl := Option.some.inj H
       exact ⟨rfl, (((((Dif.refl _ _).upd rfl _).upd rfl _).upd rfl _).upd rfl _), rfl, S⟩
    rintro g15 u16 ⟨p12_39, S⟩
    have H := Ho12
    refine wc_if p12_39 (fun hc17 => ?_) (fun hc17 => ?_)
    rotate_left
    ·replace H := if_f hc17 H
     refine wc_seq (wc_region (wd (does_as_i rfl) (wd (does_as_i rfl) (wl_nil (wc_ret ?_)))))
     refine ⟨_, (rets2 (retOne_tmp rfl) (retOne_tmp rfl)), ?_⟩
     replace S := S.arr [1] []
     obtain rfl := Option.some.inj H
     obtain rfl := aft_r Ho3
     exact ⟨rfl, S⟩
    replace H := if_t hc17 H
    refine wc_seq (wc_region (wd (does_fieldAddr fl_Nd_name rfl (o' := 1) rfl) (wd (does_load on_string rfl ((S.blk 0).cell (Nd.get_name _))) (wd (does_nes rfl rfl) (wd (does_mv_b rfl) (wg (fun hg => does_mv_p rfl) (wg (fun hg => does_fieldAddr fl_Nd_l rfl (o' := 2) rfl) (wg (fun hg => does_load on_int (gv_yes hg) ((S.blk 0).cell (Nd.get_l _))) ?_))))))))
    obtain ⟨r18, er18, H⟩ := bind_ex H
    refine wl_gcall (j := 3) (pol := false) rfl rfl rfl (by decide) (fun hg => does_callg ca_ref03_T_Has (cons2 (gv_yes hg) (cons2 (gv_yes hg) rfl))) (by decide) (fun hg => (have ⟨M, SS⟩ := S.lend ((.o 1 rfl .nil)); quiet (ref03_T_Has_st SS (if_t (by simpa using hg) er18)) (fun v w' h => ⟨h.1, _, _, h.2⟩))) fun w19 hw19 => ?_
    replace S := S.ext hw19
    refine wg (fun hg => does_not (gv_yes hg)) (wd (does_or rfl (fun hp => (gv_yes (and_1 hp)))) (wd (does_mv_b rfl) (wg (fun hg => does_mv_p rfl) (wg (fun hg => does_fieldAddr fl_Nd_r rfl (o' := 3) rfl) (wg (fun hg => does_load on_int (gv_yes hg) ((S.blk 0).cell (Nd.get_r _))) ?_)))))
    obtain ⟨r20, er20, H⟩ := bind_ex H
    refine wl_gcall (j := 10) (pol := false) rfl rfl rfl (by decide) (fun hg => does_callg ca_ref03_T_Has (cons2 (gv_yes hg) (cons2 (gv_yes hg) rfl))) (by decide) (fun hg => (have ⟨M, SS⟩ := S.lend ((.o 1 rfl .nil)); quiet (ref03_T_Has_st SS (if_t (by simpa using hg) er20)) (fun v w' h => ⟨h.1, _, _, h.2⟩))) fun w21 hw21 => ?_
    replace S := S.ext hw21
    refine wg (fun hg => does_not (gv_yes hg)) (wd (does_or rfl (fun hp => (gv_yes (and_1 hp)))) (wl_nil ?_))
    refine wc_if rfl (fun hc22 => ?_) (fun hc22 => ?_)
    ·replace H := if_t hc22 H
     refine wc_seq (wc_region (wd (does_as_i rfl) (wd (does_as_i rfl) (wl_nil (wc_ret ?_)))))
     refine ⟨_, (rets2 (retOne_tmp rfl) (retOne_tmp rfl)), ?_⟩
     replace S := S.arr [1] []
     obtain rfl := Option.some.inj H
     obtain rfl := aft_r Ho3
     exact ⟨rfl, S⟩
    replace H := if_f hc22 H
    refine wc_skip ?_
    obtain rfl := Option.some.inj H
    exact ⟨rfl, (((((((((((((((((((((((((Dif.refl _ _).upd rfl _).upd rfl _).upd rfl _).upd rfl _).upd rfl _).upd rfl _).mask rfl _).upd rfl _).upd rfl _).upd rfl _).upd rfl _).upd rfl _).upd rfl _).upd rfl _).upd rfl _).upd rfl _).upd rfl _).upd rfl _).upd rfl _).upd rfl _).upd rfl _).upd rfl _).upd rfl _).upd rfl _), a0, rfl, S⟩
 rintro g23 u24 ⟨s3, rfl, S⟩
 have H := Ho3
 dsimp only [aft] at H
 refine wc_seq (wc_region (wd (does_mv_p rfl) (wd (does_load_agg ag_Nd rfl ((S.blk 0).all _ (Nd.len _)) (Nd.len _)) ?_)))
 obtain ⟨r25, er25, H⟩ := bind_ex H
 obtain ⟨B27, MB27, SB27, back⟩ := S.calln 0 ((.o 1 rfl .nil))
 refine wl_call (does_call ca_ref03_T_Find) (by decide) (ref03_T_Find_st SB27 er25) ?_
 rintro _ w26 ⟨rfl, S2⟩
 replace S := back _ _ _ _ S2 rfl
 clear back S2 SB27
 refine wd (does_mv_t rfl) (wd (does_extract rfl rfl) (wd (does_extract rfl rfl) (wd (does_as_i rfl) (wd (does_as_b rfl) (wl_nil (wc_seq (wc_seq (wc_region (wd (does_mv_b rfl) (wl_nil ?_))))))))))
 refine wc_if rfl (fun hc28 => ?_) (fun hc28 => ?_)
 ·replace H := if_t hc28 H
  refine wc_seq (wc_region (wd (does_mv_i rfl) (wd (does_as_i rfl) (wd (does_as_i rfl) (wl_nil (wc_ret ?_))))))
  refine ⟨_, (rets2 (retOne_tmp rfl) (retOne_tmp rfl)), ?_⟩
  replace S := S.arr [1] []
  obtain rfl := Option.some.inj H
  exact ⟨rfl, S⟩
 replace H := if_f hc28 H
 refine wc_skip (wc_seq (wc_seq (wc_region (wd (does_mv_p rfl) ?_))))
 obtain ⟨ht29, H⟩ := chk_ex H
 obtain ⟨p30, s31, hp32, S⟩ := S.openR 1 ht29
 replace S := S
 refine wd (does_nilCheck (congrArg Value.pointer hp32)) (wd (does_fieldAddr fl_RTab_n rfl (o' := 0) rfl) (wd (does_load on_L_api_Node rfl ((S.blk 0).cell (RTab.get_n _))) (wd (does_lenR sl_L_api_Node rfl (S.rdO 1)) (wd (does_ge rfl rfl) ?_))))
 replace S := ((S.front 1).front 1).shutR hp32
 refine wl_nil ?_
 refine wc_if rfl (fun hc33 => ?_) (fun hc33 => ?_)
 ·replace H := if_t hc33 H
  refine wc_seq (wc_region (wd (does_as_i rfl) (wd (does_as_i rfl) (wl_nil (wc_ret ?_)))))
  refine ⟨_, (rets2 (retOne_tmp rfl) (retOne_tmp rfl)), ?_⟩
  replace S : St A N w w26 [oR a_0 (some (s3.getD []))] [] := S.arr [0] []
  obtain rfl := Option.some.inj H
  exact ⟨rfl, S⟩
 replace H := if_f hc33 H
 refine wc_skip (wc_seq ?_)
 obtain ⟨p34, s35, hp36, S⟩ := S.openR 0 rfl
 replace S : St A N w w26 [oB p34 T_RTab (RTab.C ⟨s35⟩), oS T_Nd 4 Nd.C s35 (s3.getD []), oB b2 T_Nd (Nd.C a1)] [] := S
 obtain ⟨ha37, H⟩ := chk_ex H
 have ha37 := of_decide_eq_true ha37
 have hSO := S.sl 1
 have hSlt := hSO.lt
 have SH : ∀ v, Chg s35.fp w26 v → St A (N.or s35.fp) w v [oB p34 T_RTab (RTab.C ⟨s35⟩), oB b2 T_Nd (Nd.C a1)] [] := fun v hc => S.away 1 (hc := hc)
 refine wc_draw 8 ⟨fun L v => Chg s35.fp w26 v ∧ (L 7 = false → Ext w26 v), fun L a b => Chg s35.fp a b ∧ (L 7 = true → Ext a b), fun i v u => match i with
  | 0 => v = Value.pointer a_0
  | 1 => v = Value.pointer a_0
  | 2 => v = Value.pointer (some ⟨p34, 0, none⟩)
  | 3 => v = Value.pointer (some ⟨p34, 0, none⟩)
  | 4 => v = s35.v
  | 5 => v = Value.agg (Nd.C a1).toArray
  | 6 => ∃ b sl, v = SlV.v sl ∧ sl = ⟨some ⟨b, 0, none⟩, 1, 1⟩ ∧ Blk u b T_Nd (Nd.C a1) ∧ ¬ s35.fp b
  | 7 => ∃ s', v = SlV.v s' ∧ Own u 0 T_Nd 4 s' (((s3.getD []) ++ [a1]).map Nd.C) ∧ ∀ i, s'.fp i → s35.fp i ∨ w26.heap.size ≤ i
  | _ => True⟩ hmix (by kernel_rfl) ?_ ⟨(Ext.drawn _).mono (fun _ _ x => x.elim), fun _ => Ext.drawn _⟩ ⟨?_, ?_, ?_, ?_, ?_, ?_, ?_, ?_, trivial⟩ ?_
 ·intro L i v a b hLi hle hv
  match i, hLi, hv with
  | 0, _, hv => exact hv
  | 1, _, hv => exact hv
  | 2, _, hv => exact hv
  | 3, _, hv => exact hv
  | 4, _, hv => exact hv
  | 5, _, hv => exact hv
  | 6, _, ⟨b, sl, e1, e2, hb, hn⟩ => exact ⟨b, sl, e1, e2, hb.chg hle.1 hn, hn⟩
  | 7, hLi, ⟨s', e1, ho, hg⟩ => exact ⟨s', e1, ho.ext (hle.2 hLi), hg⟩
  | _ + 8, _, _ => exact trivial
 ·rintro L g v hL hT 
  refine wd (does_mv_p rfl) (wl_nil (ob ⟨hT.1, fun h => hT.2 h⟩ ⟨Chg.refl _ _, fun _ => Ext.refl _⟩ rfl))
 ·rintro L g v hL hT 
  refine wd (does_mv_p rfl) (wl_nil (ob ⟨hT.1, fun h => hT.2 h⟩ ⟨Chg.refl _ _, fun _ => Ext.refl _⟩ rfl))
 ·rintro L g v hL hT hv1
  refine wd (does_nilCheck ((hv1 : _ = Value.pointer a_0).trans (congrArg Value.pointer hp36))) (wl_nil (ob ⟨hT.1, fun h => hT.2 h⟩ ⟨Chg.refl _ _, fun _ => Ext.refl _⟩ rfl))
 ·rintro L g v hL hT hv2
  refine wd (does_fieldAddr fl_RTab_n hv2 (o' := 0) rfl) (wl_nil (ob ⟨hT.1, fun h => hT.2 h⟩ ⟨Chg.refl _ _, fun _ => Ext.refl _⟩ rfl))
 ·rintro L g v hL hT hv3
  refine wd (does_load on_L_api_Node hv3 (((SH v hT.1).blk 0).cell (RTab.get_n _))) (wl_nil (ob ⟨hT.1, fun h => hT.2 h⟩ ⟨Chg.refl _ _, fun _ => Ext.refl _⟩ rfl))
 ·rintro L g v hL hT 
  refine wd (does_load_agg ag_Nd rfl (((SH v hT.1).blk 1).all _ (Nd.len _)) (Nd.len _)) (wl_nil (ob ⟨hT.1, fun h => hT.2 h⟩ ⟨Chg.refl _ _, fun _ => Ext.refl _⟩ rfl))
 ·rintro L g v hL hT hv5
  refine wl_lit1 sl_L_api_Node el_Nd.zero hv5 rfl (Nd.len _) (by decide) (by decide) fun b v' sl hn hq => wl_nil (ob ⟨hT.1.thenExt hn.ext, fun h => (hT.2 h).trans hn.ext⟩ ⟨hn.ext.mono (fun _ _ x => x.elim), fun _ => hn.ext⟩ ⟨b, sl, rfl, hq, hn.blk, fun e => by have := hSlt _ e; have := hn.at_; have := hT.1.size; omega⟩)
 ·rintro L g v hL hT hv4 ⟨b, sl, hv6, hq, hb, hnb⟩
  refine wl_push (C := Nd.C) sl_L_api_Node el_Nd hv4 hv6 (hSO.ext (hT.2 hL)) hb hq (Nd.len _) (Nd.one _) ha37 (by omega) (by decide) fun s' v' ho hc hg => wl_nil (ob ⟨hT.1.trans hc, fun h => (by cases h)⟩ ⟨hc, fun h => (by rw [hL] at h; cases h)⟩ ⟨s', rfl, ho, fun i e => (hg i e).imp id (fun h => Nat.le_trans hT.1.size h)⟩)
 rintro L g w38 hLm hT hv40_0 hv40_1 hv40_2 hv40_3 hv40_4 hv40_5 ⟨b, sl, hv40_6, hq, hb, hnb⟩ ⟨s39, hv40_7, O, gO⟩
 replace S := S.push 1 O (by rw [List.length_append, List.length_singleton]; omega) hT.1 gO
 clear O gO SH hSO hSlt
 refine wd (does_nilCheck ((hv40_0 : _ = Value.pointer a_0).trans (congrArg Value.pointer hp36))) (wd (does_fieldAddr fl_RTab_n rfl (o' := 0) rfl) ?_)
 refine wl_store on_L_api_Node rfl hv40_7 (S.blk 1) (by rw [RTab.len]; decide) (SlV.one _ _ rfl) (RTab.set_n _ _) fun w41 B hw41 zw41 => ?_
 replace S := S.store 1 B hw41
 clear B
 replace S := ((S.front 1).front 1).shutR hp36
 refine wl_nil (wc_seq (wc_region (wd (does_mv_p rfl) ?_)))
 obtain ⟨p42, s43, hp44, S⟩ := S.openR 0 rfl
 replace S := S
 refine wd (does_nilCheck (congrArg Value.pointer hp44)) (wd (does_fieldAddr fl_RTab_n rfl (o' := 0) rfl) (wd (does_load on_L_api_Node rfl ((S.blk 0).cell (RTab.get_n _))) (wd (does_lenR sl_L_api_Node rfl (S.rdO 1)) (wd (does_sub rfl rfl) (wd (does_as_i rfl) (wd (does_as_i rfl) ?_))))))
 replace S := ((S.front 1).front 1).shutR hp44
 refine wl_nil (wc_ret ?_)
 refine ⟨_, (rets2 (retOne_tmp rfl) (retOne_tmp rfl)), ?_⟩
 replace S := S.arr [0] []
 obtain rfl := Option.some.inj H
 exact ⟨rfl, S⟩
theorem ref09_kind_st {A : Nat → Prop} {N : Oth} {w : World} {a0 : Tb} {a_0 : Option Addr} {a1 : Int} (S : St A N w w [] [oR a_0 a0]) {r : Int} (H : ref09_kind.f a0 a1 = some r) :
  Calls PP F_ref09_kind #[.pointer a_0, .int .i64 a1] w fun e w' => ∃ v, e = .returned v ∧ (v = .int .i64 r ∧ St A N w w' [] []) := by
 unfold ref09_kind.f at H
 refine calls_of_wc (n := 13) fn_ref09_kind rfl rfl (by simp) (wc_seq (wc_region (wd (does_as_i rfl) (wl_nil (wc_seq (wc_region (wd (does_mv_p rfl) ?_)))))))
 obtain ⟨ht1, H⟩ := chk_ex H
 obtain ⟨p2, s3, hp4, S⟩ := S.seeR 0 ht1
 replace S := S
 refine wd (does_nilCheck (congrArg Value.pointer hp4)) (wd (does_fieldAddr fl_RTab_n rfl (o' := 0) rfl) (wd (does_load on_L_api_Node rfl ((S.blkZ 0).cell (RTab.get_n _))) (wd (does_mv_i rfl) ?_)))
 obtain ⟨hi5, H⟩ := chk_ex H
 refine wd (does_indexR sl_L_api_Node rfl rfl (S.rd 1) (inb_ex hi5).1 (inb_ex hi5).2) (wd (does_fieldAddr fl_Nd_kind rfl (o' := _) rfl) (wd (does_load on_api_Kind rfl (((S.rd 1).at (at_some Nd.z (inb_ex hi5))).get (Nd.get_kind _))) (wd (does_as_i rfl) ?_)))
 replace S := S.zs [2]
 refine wl_nil (wc_ret ?_)
 refine ⟨_, (rets1 (retOne_tmp rfl)), ?_⟩
 replace S := S.arr [] []
 obtain rfl := Option.some.inj H
 exact ⟨rfl, S⟩
theorem ref09_Fits_st {A : Nat → Prop} {N : Oth} {w : World} {a0 : Tb} {a_0 : Option Addr} {a1 : Sq} {a2 : Int} {a3 : Int} (S : St A N w w [] [oR a_0 a0]) {r : Bool} (H : ref09_Fits.f a0 a1 a2 a3 = some r) :
  Calls PP F_ref09_Fits #[.pointer a_0, .agg (Sq.C a1).toArray, .int .i64 a2, .int .i64 a3] w fun e w' => ∃ v, e = .returned v ∧ (v = .bool r ∧ St A N w w' [] []) := by
 unfold ref09_Fits.f at H
 refine calls_of_wc (n := 151) fn_ref09_Fits rfl rfl (by simp) (wc_seq (wc_region ?_))
 refine wl_box_agg rfl (by decide) fun b2 w1 hw1 => ?_
 replace S := S.new hw1
 refine wd (does_as_b rfl) (wl_nil (wc_seq (wc_seq (wc_region (wd (does_mv_p rfl) (wd (does_mv_i rfl) ?_))))))
 obtain ⟨r3, er3, H⟩ := bind_ex H
 obtain ⟨B5, MB5, SB5, back⟩ := S.calln 0 ((.z 0 rfl .nil))
 refine wl_call (does_call ca_ref03_T_Has) (by decide) (ref03_T_Has_st SB5 er3) ?_
 rintro _ w4 ⟨rfl, S2⟩
 replace S := back _ _ _ _ S2 rfl
 clear back S2 SB5
 refine wd (does_not rfl) (wl_nil ?_)
 refine wc_if rfl (fun hc6 => ?_) (fun hc6 => ?_)
 ·replace H := if_t hc6 H
  refine wc_seq (wc_region (wd (does_as_b rfl) (wl_nil (wc_ret ?_))))
  refine ⟨_, (rets1 (retOne_tmp rfl)), ?_⟩
  replace S := S.arr [] []
  obtain rfl := Option.some.inj H
  exact ⟨rfl, S⟩
 replace H := if_f hc6 H
 refine wc_skip (wc_seq (wc_region (wd (does_mv_p rfl) ?_)))
 obtain ⟨ht7, H⟩ := chk_ex H
 obtain ⟨p8, s9, hp10, S⟩ := S.seeR 0 ht7
 replace S := S
 refine wd (does_nilCheck (congrArg Value.pointer hp10)) (wd (does_fieldAddr fl_RTab_n rfl (o' := 0) rfl) (wd (does_load on_L_api_Node rfl ((S.blkZ 0).cell (RTab.get_n _))) (wd (does_mv_i rfl) ?_)))
 obtain ⟨hi11, H⟩ := chk_ex H
 refine wd (does_indexR sl_L_api_Node rfl rfl (S.rd 1) (inb_ex hi11).1 (inb_ex hi11).2) (wd (does_load_agg ag_Nd rfl ((S.rd 1).at (at_some Nd.z (inb_ex hi11))) (Nd.len _)) ?_)
 refine wl_alloc ze_Nd (by decide) fun b13 w12 hw12 => ?_
 replace S := S.new hw12
 refine wl_store_agg ag_Nd rfl rfl (S.blk 0) (Nd.len _) (by rw [Nd.len]; decide) (Nd.one _) (store_all (Nd.len _)) fun w14 B hw14 zw14 => ?_
 replace S := S.store 0 B hw14
 clear B
 replace S := S.zs [2]
 refine wl_nil (wc_seq (wc_region (wd (does_fieldAddr fl_Sq_left rfl (o' := 0) rfl) (wd (does_load_agg ag_Bits rfl ((S.blk 1).cells (Sq.sub_left _)) (Bits.len _)) (wd (does_mv_i rfl) ?_)))))
 obtain ⟨r15, er15, H⟩ := bind_ex H
 obtain ⟨B17, MB17, SB17, back⟩ := S.calln 0 ((.nil))
 refine wl_call (does_call ca_ref05_Has) (by decide) (ref05_Has_st SB17 er15) ?_
 rintro _ w16 ⟨rfl, S2⟩
 replace S := back _ _ _ _ S2 rfl
 clear back S2 SB17
 refine wd (does_as_b rfl) (wl_nil (wc_seq (wc_region (wd (does_mv_i rfl) (wd (does_fieldAddr fl_Sq_goal rfl (o' := 16) rfl) (wd (does_load on_int rfl ((S.blk 1).cell (Sq.get_goal _))) (wd (does_eq rfl rfl) (wd (does_as_b rfl) (wl_nil (wc_seq (wc_region (wd (does_mv_b rfl) (wd (does_mv_b rfl) (wg (fun hg => does_fieldAddr fl_Nd_kind rfl (o' := 0) rfl) (wg (fun hg => does_load on_api_Kind (gv_yes hg) ((S.blk 0).cell (Nd.get_kind _))) (wg (fun hg => does_eq (gv_yes hg) rfl) (wd (does_and rfl (fun hp => (gv_yes (and_1 hp)))) (wd (does_as_b rfl) (wl_nil (wc_seq (wc_seq (wc_region (wd (does_mv_i rfl) (wl_nil ?_))))))))))))))))))))))))
 refine wc_block (wc_seq (wc_region (wd (does_eq rfl rfl) (wd (does_as_b rfl) (wl_nil ?_)))))
 refine wc_if rfl (fun hc18 => ?_) (fun hc18 => ?_)
 ·replace H := if_t hc18 H
  refine wc_seq (wc_region (wd (does_mv_b rfl) (wd (does_mv_b rfl) (wg (fun hg => does_fieldAddr fl_Nd_kind rfl (o' := 0) rfl) (wg (fun hg => does_load on_api_Kind (gv_yes hg) ((S.blk 0).cell (Nd.get_kind _))) (wg (fun hg => does_eq (gv_yes hg) rfl) (wd (does_and rfl (fun hp => (gv_yes (and_1 hp)))) (wd (does_as_b rfl) (wl_nil (wc_ret ?_))))))))))
  refine ⟨_, (rets1 (retOne_tmp rfl)), ?_⟩
  replace S := S.arr [] []
  obtain rfl := Option.some.inj H
  exact ⟨rfl, S⟩
 replace H := if_f hc18 H
 refine wc_seq (wc_region (wd (does_eq rfl rfl) (wd (does_as_b rfl) (wl_nil ?_))))
 refine wc_if rfl (fun hc19 => ?_) (fun hc19 => ?_)
 ·replace H := if_t hc19 H
  refine wc_seq (wc_region (wd (does_mv_b rfl) (wd (does_mv_b rfl) (wg (fun hg => does_mv_b rfl) (wd (does_and rfl (fun hp => (gv_yes (and_1 hp)))) (wd (does_as_b rfl) (wl_nil (wc_ret ?_))))))))
  refine ⟨_, (rets1 (retOne_tmp rfl)), ?_⟩
  replace S := S.arr [] []
  obtain rfl := Option.some.inj H
  exact ⟨rfl, S⟩
 replace H := if_f hc19 H
 refine wc_seq (wc_region (wd (does_eq rfl rfl) (wd (does_as_b rfl) (wl_nil ?_))))
 refine wc_if rfl (fun hc20 => ?_) (fun hc20 => ?_)
 ·replace H := if_t hc20 H
  refine wc_seq (wc_region (wd (does_mv_b rfl) (wd (does_mv_b rfl) (wg (fun hg => does_fieldAddr fl_Nd_kind rfl (o' := 0) rfl) (wg (fun hg => does_load on_api_Kind (gv_yes hg) ((S.blk 0).cell (Nd.get_kind _))) (wg (fun hg => does_eq (gv_yes hg) rfl) (wd (does_and rfl (fun hp => (gv_yes (and_1 hp)))) (wd (does_as_b rfl) (wl_nil (wc_ret ?_))))))))))
  refine ⟨_, (rets1 (retOne_tmp rfl)), ?_⟩
  replace S := S.arr [] []
  obtain rfl := Option.some.inj H
  exact ⟨rfl, S⟩
 replace H := if_f hc20 H
 refine wc_seq (wc_region (wd (does_eq rfl rfl) (wd (does_as_b rfl) (wl_nil ?_))))
 refine wc_if rfl (fun hc21 => ?_) (fun hc21 => ?_)
 ·replace H := if_t hc21 H
  refine wc_seq (wc_region (wd (does_mv_b rfl) (wd (does_mv_b rfl) (wg (fun hg => does_mv_p rfl) (wg (fun hg => does_fieldAddr fl_Nd_l rfl (o' := 2) rfl) (wg (fun hg => does_load on_int (gv_yes hg) ((S.blk 0).cell (Nd.get_l _))) ?_))))))
  obtain ⟨r22, er22, H⟩ := bind_ex H
  refine wl_gcall (j := 1) (pol := true) rfl rfl rfl (by decide) (fun hg => does_callg ca_ref09_kind (cons2 (gv_yes hg) (cons2 (gv_yes hg) rfl))) (by decide) (fun hg => (have ⟨M, SS⟩ := S.lend ((.z 0 rfl .nil)); quiet (ref09_kind_st SS (if_t (by simpa using hg) er22)) (fun v w' h => ⟨h.1, _, _, h.2⟩))) fun w23 hw23 => ?_
  replace S := S.ext hw23
  refine wg (fun hg => does_eq (gv_yes hg) rfl) (wd (does_and rfl (fun hp => (gv_yes (and_1 hp)))) (wd (does_mv_b rfl) (wg (fun hg => does_fieldAddr fl_Sq_left rfl (o' := 0) rfl) (wg (fun hg => does_load_agg ag_Bits (gv_yes hg) ((S.blk 1).cells (Sq.sub_left _)) (Bits.len _)) (wg (fun hg => does_fieldAddr fl_Nd_l rfl (o' := 2) rfl) (wg (fun hg => does_load on_int (gv_yes hg) ((S.blk 0).cell (Nd.get_l _))) ?_))))))
  obtain ⟨r24, er24, H⟩ := bind_ex H
  refine wl_gcall (j := 8) (pol := true) rfl rfl rfl (by decide) (fun hg => does_callg ca_ref05_Has (cons2 (gv_yes hg) (cons2 (gv_yes hg) rfl))) (by decide) (fun hg => (have ⟨M, SS⟩ := S.lend ((.nil)); quiet (ref05_Has_st SS (if_t (by simpa using hg) er24)) (fun v w' h => ⟨h.1, _, _, h.2⟩))) fun w25 hw25 => ?_
  replace S := S.ext hw25
  refine wd (does_and rfl (fun hp => (gv_yes (and_1 hp)))) (wd (does_as_b rfl) (wl_nil (wc_ret ?_)))
  refine ⟨_, (rets1 (retOne_tmp rfl)), ?_⟩
  replace S := S.arr [] []
  obtain rfl := Option.some.inj H
  exact ⟨rfl, S⟩
 replace H := if_f hc21 H
 refine wc_seq (wc_region (wd (does_eq rfl rfl) (wd (does_as_b rfl) (wl_nil ?_))))
 refine wc_if rfl (fun hc26 => ?_) (fun hc26 => ?_)
 ·replace H := if_t hc26 H
  refine wc_seq (wc_region (wd (does_mv_b rfl) (wd (does_mv_b rfl) (wg (fun hg => does_mv_p rfl) (wg (fun hg => does_fieldAddr fl_Nd_l rfl (o' := 2) rfl) (wg (fun hg => does_load on_int (gv_yes hg) ((S.blk 0).cell (Nd.get_l _))) ?_))))))
  obtain ⟨r27, er27, H⟩ := bind_ex H
  refine wl_gcall (j := 1) (pol := true) rfl rfl rfl (by decide) (fun hg => does_callg ca_ref09_kind (cons2 (gv_yes hg) (cons2 (gv_yes hg) rfl))) (by decide) (fun hg => (have ⟨M, SS⟩ := S.lend ((.z 0 rfl .nil)); quiet (ref09_kind_st SS (if_t (by simpa using hg) er27)) (fun v w' h => ⟨h.1, _, _, h.2⟩))) fun w28 hw28 => ?_
  replace S := S.ext hw28
  refine wg (fun hg => does_eq (gv_yes hg) rfl) (wd (does_and rfl (fun hp => (gv_yes (and_1 hp)))) (wd (does_as_b rfl) (wl_nil (wc_ret ?_))))
  refine ⟨_, (rets1 (retOne_tmp rfl)), ?_⟩
  replace S := S.arr [] []
  obtain rfl := Option.some.inj H
  exact ⟨rfl, S⟩
 replace H := if_f hc26 H
 refine wc_seq (wc_region (wd (does_eq rfl rfl) (wd (does_as_b rfl) (wl_nil ?_))))
 refine wc_if rfl (fun hc29 => ?_) (fun hc29 => ?_)
 ·replace H := if_t hc29 H
  refine wc_seq (wc_region (wd (does_mv_b rfl) (wd (does_mv_b rfl) (wg (fun hg => does_mv_p rfl) (wg (fun hg => does_fieldAddr fl_Nd_l rfl (o' := 2) rfl) (wg (fun hg => does_load on_int (gv_yes hg) ((S.blk 0).cell (Nd.get_l _))) ?_))))))
  obtain ⟨r30, er30, H⟩ := bind_ex H
  refine wl_gcall (j := 1) (pol := true) rfl rfl rfl (by decide) (fun hg => does_callg ca_ref09_kind (cons2 (gv_yes hg) (cons2 (gv_yes hg) rfl))) (by decide) (fun hg => (have ⟨M, SS⟩ := S.lend ((.z 0 rfl .nil)); quiet (ref09_kind_st SS (if_t (by simpa using hg) er30)) (fun v w' h => ⟨h.1, _, _, h.2⟩))) fun w31 hw31 => ?_
  replace S := S.ext hw31
  refine wg (fun hg => does_eq (gv_yes hg) rfl) (wd (does_and rfl (fun hp => (gv_yes (and_1 hp)))) (wd (does_as_b rfl) (wl_nil (wc_ret ?_))))
  refine ⟨_, (rets1 (retOne_tmp rfl)), ?_⟩
  replace S := S.arr [] []
  obtain rfl := Option.some.inj H
  exact ⟨rfl, S⟩
 replace H := if_f hc29 H
 refine wc_seq (wc_region (wd (does_eq rfl rfl) (wd (does_as_b rfl) (wl_nil ?_))))
 refine wc_if rfl (fun hc32 => ?_) (fun hc32 => ?_)
 ·replace H := if_t hc32 H
  refine wc_seq (wc_region (wd (does_mv_b rfl) (wd (does_mv_b rfl) (wg (fun hg => does_mv_p rfl) (wg (fun hg => does_fieldAddr fl_Nd_l rfl (o' := 2) rfl) (wg (fun hg => does_load on_int (gv_yes hg) ((S.blk 0).cell (Nd.get_l _))) ?_))))))
  obtain ⟨r33, er33, H⟩ := bind_ex H
  refine wl_gcall (j := 1) (pol := true) rfl rfl rfl (by decide) (fun hg => does_callg ca_ref09_kind (cons2 (gv_yes hg) (cons2 (gv_yes hg) rfl))) (by decide) (fun hg => (have ⟨M, SS⟩ := S.lend ((.z 0 rfl .nil)); quiet (ref09_kind_st SS (if_t (by simpa using hg) er33)) (fun v w' h => ⟨h.1, _, _, h.2⟩))) fun w34 hw34 => ?_
  replace S := S.ext hw34
  refine wg (fun hg => does_eq (gv_yes hg) rfl) (wd (does_and rfl (fun hp => (gv_yes (and_1 hp)))) (wd (does_as_b rfl) (wl_nil (wc_ret ?_))))
  refine ⟨_, (rets1 (retOne_tmp rfl)), ?_⟩
  replace S := S.arr [] []
  obtain rfl := Option.some.inj H
  exact ⟨rfl, S⟩
 replace H := if_f hc32 H
 refine wc_seq (wc_region (wd (does_eq rfl rfl) (wd (does_as_b rfl) (wl_nil ?_))))
 refine wc_if rfl (fun hc35 => ?_) (fun hc35 => ?_)
 ·replace H := if_t hc35 H
  refine wc_seq (wc_region (wd (does_mv_b rfl) (wd (does_mv_b rfl) (wg (fun hg => does_fieldAddr fl_Nd_kind rfl (o' := 0) rfl) (wg (fun hg => does_load on_api_Kind (gv_yes hg) ((S.blk 0).cell (Nd.get_kind _))) (wg (fun hg => does_eq (gv_yes hg) rfl) (wd (does_and rfl (fun hp => (gv_yes (and_1 hp)))) (wd (does_as_b rfl) (wl_nil (wc_ret ?_))))))))))
  refine ⟨_, (rets1 (retOne_tmp rfl)), ?_⟩
  replace S := S.arr [] []
  obtain rfl := Option.some.inj H
  exact ⟨rfl, S⟩
 replace H := if_f hc35 H
 refine wc_seq (wc_region (wd (does_eq rfl rfl) (wd (does_as_b rfl) (wl_nil ?_))))
 refine wc_if rfl (fun hc36 => ?_) (fun hc36 => ?_)
 ·replace H := if_t hc36 H
  refine wc_seq (wc_region (wd (does_mv_b rfl) (wd (does_mv_b rfl) (wg (fun hg => does_fieldAddr fl_Nd_kind rfl (o' := 0) rfl) (wg (fun hg => does_load on_api_Kind (gv_yes hg) ((S.blk 0).cell (Nd.get_kind _))) (wg (fun hg => does_eq (gv_yes hg) rfl) (wd (does_and rfl (fun hp => (gv_yes (and_1 hp)))) (wd (does_as_b rfl) (wl_nil (wc_ret ?_))))))))))
  refine ⟨_, (rets1 (retOne_tmp rfl)), ?_⟩
  replace S := S.arr [] []
  obtain rfl := Option.some.inj H
  exact ⟨rfl, S⟩
 replace H := if_f hc36 H
 refine wc_seq (wc_region (wd (does_eq rfl rfl) (wd (does_as_b rfl) (wl_nil ?_))))
 refine wc_if rfl (fun hc37 => ?_) (fun hc37 => ?_)
 ·replace H := if_t hc37 H
  refine wc_seq (wc_region (wd (does_mv_b rfl) (wd (does_mv_b rfl) (wg (fun hg => does_fieldAddr fl_Nd_kind rfl (o' := 0) rfl) (wg (fun hg => does_load on_api_Kind (gv_yes hg) ((S.blk 0).cell (Nd.get_kind _))) (wg (fun hg => does_eq (gv_yes hg) rfl) (wd (does_and rfl (fun hp => (gv_yes (and_1 hp)))) (wd (does_as_b rfl) (wl_nil (wc_ret ?_))))))))))
  refine ⟨_, (rets1 (retOne_tmp rfl)), ?_⟩
  replace S := S.arr [] []
  obtain rfl := Option.some.inj H
  exact ⟨rfl, S⟩
 replace H := if_f hc37 H
 refine wc_seq (wc_seq (wc_region (wd (does_eq rfl rfl) (wd (does_as_b rfl) (wl_nil ?_)))))
 obtain ⟨o38, e38, Ho38⟩ := bind_ex H
 replace H := e38; clear e38
 refine wc_cutq [132, 134] (fun fr W => fr 132 = .bool o38 ∧ St A N w W [oB b13 T_Nd (Nd.C (at_ Nd.z (a0.getD []) a3)), oB b2 T_Sq (Sq.C a1)] [oR a_0 a0]) ?_ ?_
 ·refine wc_if rfl (fun hc39 => ?_) (fun hc39 => ?_)
  ·replace H := if_t hc39 H
   refine wc_skip ?_
   obtain rfl := Option.some.inj H
   exact ⟨rfl, (Dif.refl _ _), rfl, S⟩
  ·replace H := if_f hc39 H
   refine wc_region (wd (does_eq rfl rfl) (wd (does_as_b rfl) (wl_nil ?_)))
   obtain rfl := Option.some.inj H
   exact ⟨rfl, (((Dif.refl _ _).upd rfl _).upd rfl _), rfl, S⟩
 rintro g40 u41 ⟨p38_132, S⟩
 have H := Ho38
 refine wc_if p38_132 (fun hc42 => ?_) (fun hc42 => ?_)
 ·replace H := if_t hc42 H
  refine wc_seq (wc_region (wd (does_mv_b rfl) (wd (does_mv_b rfl) (wg (fun hg => does_fieldAddr fl_Nd_kind rfl (o' := 0) rfl) (wg (fun hg => does_load on_api_Kind (gv_yes hg) ((S.blk 0).cell (Nd.get_kind _))) (wg (fun hg => does_eq (gv_yes hg) rfl) (wd (does_and rfl (fun hp => (gv_yes (and_1 hp)))) (wd (does_as_b rfl) (wl_nil (wc_ret ?_))))))))))
  refine ⟨_, (rets1 (retOne_tmp rfl)), ?_⟩
  replace S := S.arr [] []
  obtain rfl := Option.some.inj H
  exact ⟨rfl, S⟩
 replace H := if_f hc42 H
 refine wc_seq (wc_region (wd (does_eq rfl rfl) (wd (does_as_b rfl) (wl_nil ?_))))
 refine wc_if rfl (fun hc43 => ?_) (fun hc43 => ?_)
 ·replace H := if_t hc43 H
  refine wc_seq (wc_region (wd (does_mv_b rfl) (wd (does_mv_b rfl) (wg (fun hg => does_mv_p rfl) (wg (fun hg => does_fieldAddr fl_Nd_l rfl (o' := 2) rfl) (wg (fun hg => does_load on_int (gv_yes hg) ((S.blk 0).cell (Nd.get_l _))) ?_))))))
  obtain ⟨r44, er44, H⟩ := bind_ex H
  refine wl_gcall (j := 1) (pol := true) rfl rfl rfl (by decide) (fun hg => does_callg ca_ref09_kind (cons2 (gv_yes hg) (cons2 (gv_yes hg) rfl))) (by decide) (fun hg => (have ⟨M, SS⟩ := S.lend ((.z 0 rfl .nil)); quiet (ref09_kind_st SS (if_t (by simpa using hg) er44)) (fun v w' h => ⟨h.1, _, _, h.2⟩))) fun w45 hw45 => ?_
  replace S := S.ext hw45
  refine wg (fun hg => does_eq (gv_yes hg) rfl) (wd (does_and rfl (fun hp => (gv_yes (and_1 hp)))) (wd (does_as_b rfl) (wl_nil (wc_ret ?_))))
  refine ⟨_, (rets1 (retOne_tmp rfl)), ?_⟩
  replace S := S.arr [] []
  obtain rfl := Option.some.inj H
  exact ⟨rfl, S⟩
 replace H := if_f hc43 H
 refine wc_skip (wc_seq (wc_region (wd (does_as_b rfl) (wl_nil (wc_ret ?_)))))
 refine ⟨_, (rets1 (retOne_tmp rfl)), ?_⟩
 replace S := S.arr [] []
 obtain rfl := Option.some.inj H
 exact ⟨rfl, S⟩
theorem ref09_Right_st {A : Nat → Prop} {N : Oth} {w : World} {a0 : Tb} {a_0 : Option Addr} {a1 : Sq} (S : St A N w w [] [oR a_0 a0]) {r : Bool} (H : ref09_Right.f a0 a1 = some r) :
  Calls PP F_ref09_Right #[.pointer a_0, .agg (Sq.C a1).toArray] w fun e w' => ∃ v, e = .returned v ∧ (v = .bool r ∧ St A N w w' [] []) := by
 unfold ref09_Right.f at H
 refine calls_of_wc (n := 27) fn_ref09_Right rfl rfl (by simp) (wc_seq (wc_region ?_))
 refine wl_box_agg rfl (by decide) fun b2 w1 hw1 => ?_
 replace S := S.new hw1
 refine wd (does_as_b rfl) (wl_nil (wc_seq (wc_region (wd (does_fieldAddr fl_Sq_left rfl (o' := 0) rfl) (wd (does_load_agg ag_Bits rfl ((S.blk 0).cells (Sq.sub_left _)) (Bits.len _)) ?_)))))
 obtain ⟨r3, er3, H⟩ := bind_ex H
 obtain ⟨B5, MB5, SB5, back⟩ := S.calln 0 ((.nil))
 refine wl_call (does_call ca_ref05_List) (by decide) (ref05_List_st SB5 er3) ?_
 rintro _ w4 ⟨s6, rfl, S2⟩
 replace S := back _ _ _ _ S2 rfl
 clear back S2 SB5
 refine wd (does_as_l rfl) (wl_nil (wc_seq (wc_seq (wc_region (wd (does_as_i rfl) (wl_nil ?_))))))
 obtain ⟨o7, e7, Ho7⟩ := bind_ex H
 clear H
 refine wc_cutq [4, 6, 10, 11, 12, 13, 14, 15, 16, 17, 18, 19, 20, 21, 22] (fun fr W => ∃ s7 : Unit, o7 = .inl s7 ∧ St A N w W [oS T_int 1 IC s6 r3, oB b2 T_Sq (Sq.C a1)] [oR a_0 a0]) ?_ ?_
 ·refine wc_block ?_
  refine wc_loopm (α := Nat × Int × Unit) [4, 6, 10, 11, 12, 13, 14, 15, 16, 17, 18, 19, 20, 21, 22] (fun x fr W => (x.1 : Int) = (r3.length : Int) - x.2.1 ∧ 0 ≤ x.2.1 ∧ forN (fun i s => ref09_Right.b0 a0 r3 i) x.1 x.2.1 x.2.2 = some o7 ∧ fr 6 = .int .i64 x.2.1 ∧ St A N w W [oS T_int 1 IC s6 r3, oB b2 T_Sq (Sq.C a1)] [oR a_0 a0]) (fun x => x.1) (((r3.length : Int) - 0).toNat, 0, ()) ⟨(by dsimp only; have hle := Int.natCast_nonneg (r3.length); omega), (Int.le_refl _), (by dsimp only; exact e7), rfl, S⟩ ?_
  rintro ⟨m7, i7, _⟩ g7 u7 ⟨hm7, hl7, e7, q7_i, S⟩
  try dsimp only at hm7
  try dsimp only at hl7
  try dsimp only at e7
  try dsimp only at S
  try dsimp only at q7_i
  refine wc_seq (wc_seq (wc_region (wd (does_mv_i q7_i) (wd (does_mv_l rfl) (wd (does_lenR sl_L_int rfl (S.rdO 0)) (wd (does_lt rfl rfl) (wl_nil ?_)))))))
  refine wc_if rfl (fun hc8 => ?_) (fun hc8 => ?_)
  rotate_left
  ·refine wc_exit ?_
   have hge : (r3.length : Int) ≤ i7 := Int.not_lt.1 (of_decide_eq_false hc8)
   obtain rfl : m7 = 0 := by omega
   replace e7 := forN_0 e7
   exact ⟨rfl, (((((Dif.self _ _ _).upd rfl _).upd rfl _).upd rfl _).upd rfl _), (), e7, S⟩
  refine wc_skip ?_
  have hlt7 : i7 < (r3.length : Int) := of_decide_eq_true hc8
  obtain ⟨m7, rfl⟩ : ∃ m, m7 = m + 1 := ⟨m7 - 1, by omega⟩
  obtain ⟨q7, H, e7⟩ := forN_s e7
  unfold ref09_Right.b0 at H
  try dsimp only at H
  have hb7 := (S.lenO 0)
  refine wc_seq ?_
  refine wc_block (wc_seq (wc_region (wd (does_mv_p rfl) (wd (does_mv_l rfl) (wd (does_mv_i q7_i) (wd (does_indexR sl_L_int rfl rfl (S.rdO 0) (And.intro (show 0 ≤ i7 by omega) (show i7 < (r3.length : Int) from hlt7)).1 (And.intro (show 0 ≤ i7 by omega) (show i7 < (r3.length : Int) from hlt7)).2) (wd (does_load on_int rfl ((S.rdO 0).one (at_some (0 : Int) (And.intro (show 0 ≤ i7 by omega) (show i7 < (r3.length : Int) from hlt7))) rfl)) ?_)))))))
  obtain ⟨r10, er10, H⟩ := bind_ex H
  obtain ⟨B12, MB12, SB12, back⟩ := S.calln 0 ((.z 0 rfl .nil))
  refine wl_call (does_call ca_ref03_T_Has) (by decide) (ref03_T_Has_st SB12 er10) ?_
  rintro _ w11 ⟨rfl, S2⟩
  replace S := back _ _ _ _ S2 rfl
  clear back S2 SB12
  refine wd (does_not rfl) (wl_nil ?_)
  refine wc_if rfl (fun hc13 => ?_) (fun hc13 => ?_)
  ·replace H := if_t hc13 H
   refine wc_seq (wc_region (wd (does_as_b rfl) (wl_nil (wc_ret ?_))))
   refine ⟨_, (rets1 (retOne_tmp rfl)), ?_⟩
   replace S := S.arr [] []
   obtain rfl := Option.some.inj H
   obtain rfl := e7
   obtain rfl := aft_r Ho7
   exact ⟨rfl, S⟩
  replace H := if_f hc13 H
  refine wc_skip (wc_region (wd (does_mv_i q7_i) (wd (does_addc rfl rfl (c := i7 + 1) rfl (by omega) (by omega)) (wd (does_as_i rfl) (wl_nil ?_)))))
  obtain rfl := Option.some.inj H
  exact ⟨rfl, (((((((((((((((Dif.self _ _ _).upd rfl _).upd rfl _).upd rfl _).upd rfl _).upd rfl _).upd rfl _).upd rfl _).upd rfl _).upd rfl _).upd rfl _).upd rfl _).upd rfl _).upd rfl _).upd rfl _), (m7, i7 + 1, ()), ⟨(by dsimp only; omega), (by dsimp only; omega), e7, rfl, S⟩, by dsimp only; omega⟩
 rintro g14 u15 ⟨s7, rfl, S⟩
 have H := Ho7
 dsimp only [aft] at H
 refine wc_seq (wc_region (wd (does_mv_p rfl) (wd (does_fieldAddr fl_Sq_goal rfl (o' := 16) rfl) (wd (does_load on_int rfl ((S.blk 1).cell (Sq.get_goal _))) ?_))))
 obtain ⟨r16, er16, H⟩ := bind_ex H
 obtain ⟨B18, MB18, SB18, back⟩ := S.calln 0 ((.z 0 rfl .nil))
 refine wl_call (does_call ca_ref03_T_Has) (by decide) (ref03_T_Has_st SB18 er16) ?_
 rintro _ w17 ⟨rfl, S2⟩
 replace S := back _ _ _ _ S2 rfl
 clear back S2 SB18
 refine wd (does_as_b rfl) (wl_nil (wc_ret ?_))
 refine ⟨_, (rets1 (retOne_tmp rfl)), ?_⟩
 replace S := S.arr [] []
 obtain rfl := Option.some.inj H
 exact ⟨rfl, S⟩
theorem ref09_first_st {A : Nat → Prop} {N : Oth} {w : World} {a0 : Tb} {a_0 : Option Addr} {a1 : Sq} {a2 : List Int} {s_2 : SlV} (S : St A N w w [] [oR a_0 a0, fS 1 IC s_2 a2]) {r : Int × Int × Bool} (H : ref09_first.f a0 a1 a2 = some r) :
  Calls PP F_ref09_first #[.pointer a_0, .agg (Sq.C a1).toArray, s_2.v] w fun e w' => ∃ v, e = .returned v ∧ (v = .tuple #[.int .i64 r.1, .int .i64 r.2.1, .bool r.2.2] ∧ St A N w w' [] []) := by
 unfold ref09_first.f at H
 refine calls_of_wc (n := 39) fn_ref09_first rfl rfl (by simp) (wc_seq (wc_region ?_))
 refine wl_box_agg rfl (by decide) fun b2 w1 hw1 => ?_
 replace S := S.new hw1
 refine wd (does_as_i rfl) (wd (does_as_i rfl) (wd (does_as_b rfl) (wl_nil (wc_seq (wc_seq (wc_region (wd (does_as_i rfl) (wl_nil ?_))))))))
 obtain ⟨ht3, H⟩ := chk_ex H
 obtain ⟨o4, e4, Ho4⟩ := bind_ex H
 clear H
 refine wc_cutq [6, 7, 8, 9, 10, 11, 12, 13, 14, 15, 16, 17, 18, 19, 20, 21, 22, 23, 24, 25, 26, 27, 28, 29, 30, 31, 32, 33, 34, 35, 36, 37, 38] (fun fr W => ∃ s4 : Unit, o4 = .inl s4 ∧ St A N w W [oB b2 T_Sq (Sq.C a1)] [oR a_0 a0, fS 1 IC s_2 a2]) ?_ ?_
 ·refine wc_block ?_
  refine wc_loopm (α := Nat × Int × Unit) [6, 7, 8, 9, 10, 11, 12, 13, 14, 15, 16, 17, 18, 19, 20, 21, 22, 23, 24, 25, 26, 27, 28, 29, 30, 31, 32, 33, 34, 35, 36, 37, 38] (fun x fr W => (x.1 : Int) = ((a0.getD []).length : Int) - x.2.1 ∧ 0 ≤ x.2.1 ∧ forN (fun i s => ref09_first.b0 a0 a1 a2 i) x.1 x.2.1 x.2.2 = some o4 ∧ fr 9 = .int .i64 x.2.1 ∧ St A N w W [oB b2 T_Sq (Sq.C a1)] [oR a_0 a0, fS 1 IC s_2 a2]) (fun x => x.1) ((((a0.getD []).length : Int) - 0).toNat, 0, ()) ⟨(by dsimp only; have hle := Int.natCast_nonneg ((a0.getD []).length); omega), (Int.le_refl _), (by dsimp only; exact e4), rfl, S⟩ ?_
  rintro ⟨m4, i4, _⟩ g4 u4 ⟨hm4, hl4, e4, q4_i, S⟩
  try dsimp only at hm4
  try dsimp only at hl4
  try dsimp only at e4
  try dsimp only at S
  try dsimp only at q4_i
  refine wc_seq (wc_seq (wc_region (wd (does_mv_i q4_i) (wd (does_mv_p rfl) ?_))))
  obtain ⟨p5, s6, hp7, S⟩ := S.seeR 0 ht3
  replace S := S
  refine wd (does_nilCheck (congrArg Value.pointer hp7)) (wd (does_fieldAddr fl_RTab_n rfl (o' := 0) rfl) (wd (does_load on_L_api_Node rfl ((S.blkZ 0).cell (RTab.get_n _))) (wd (does_lenR sl_L_api_Node rfl (S.rd 1)) (wd (does_lt rfl rfl) ?_))))
  replace S := S.zs [2, 3]
  refine wl_nil ?_
  refine wc_if rfl (fun hc8 => ?_) (fun hc8 => ?_)
  rotate_left
  ·refine wc_exit ?_
   have hge : ((a0.getD []).length : Int) ≤ i4 := Int.not_lt.1 (of_decide_eq_false hc8)
   obtain rfl : m4 = 0 := by omega
   replace e4 := forN_0 e4
   exact ⟨rfl, ((((((((Dif.self _ _ _).upd rfl _).upd rfl _).upd rfl _).upd rfl _).upd rfl _).upd rfl _).upd rfl _), (), e4, S⟩
  refine wc_skip ?_
  have hlt4 : i4 < ((a0.getD []).length : Int) := of_decide_eq_true hc8
  obtain ⟨m4, rfl⟩ : ∃ m, m4 = m + 1 := ⟨m4 - 1, by omega⟩
  obtain ⟨q4, H, e4⟩ := forN_s e4
  unfold ref09_first.b0 at H
  try dsimp only at H
  have hb4 := (S.lenRZ 0)
  refine wc_seq ?_
  refine wc_block (wc_seq (wc_region (wd (does_as_i rfl) (wl_nil ?_))))
  obtain ⟨o9, e9, Ho9⟩ := bind_ex H
  clear H
  refine wc_cutq [6, 7, 8, 10, 20, 21, 22, 23, 24, 25, 26, 27, 28, 29, 30, 31, 32, 33, 34, 35, 36, 37, 38] (fun fr W => ∃ s9 : Unit, o9 = .inl s9 ∧ St A N w W [oB b2 T_Sq (Sq.C a1)] [oR a_0 a0, fS 1 IC s_2 a2]) ?_ ?_
  ·refine wc_block ?_
   refine wc_loopm (α := Nat × Int × Unit) [6, 7, 8, 10, 20, 21, 22, 23, 24, 25, 26, 27, 28, 29, 30, 31, 32, 33, 34, 35, 36, 37, 38] (fun x fr W => (x.1 : Int) = (a2.length : Int) - x.2.1 ∧ 0 ≤ x.2.1 ∧ forN (fun i s => ref09_first.b1 a0 a1 a2 i4 i) x.1 x.2.1 x.2.2 = some o9 ∧ fr 10 = .int .i64 x.2.1 ∧ St A N w W [oB b2 T_Sq (Sq.C a1)] [oR a_0 a0, fS 1 IC s_2 a2]) (fun x => x.1) (((a2.length : Int) - 0).toNat, 0, ()) ⟨(by dsimp only; have hle := Int.natCast_nonneg (a2.length); omega), (Int.le_refl _), (by dsimp only; exact e9), rfl, S⟩ ?_
   rintro ⟨m9, i9, _⟩ g9 u9 ⟨hm9, hl9, e9, q9_i, S⟩
   try dsimp only at hm9
   try dsimp only at hl9
   try dsimp only at e9
   try dsimp only at S
   try dsimp only at q9_i
   refine wc_seq (wc_seq (wc_region (wd (does_mv_i q9_i) (wd (does_mv_l rfl) (wd (does_lenR sl_L_api_Rule rfl (S.rd 1)) (wd (does_lt rfl rfl) (wl_nil ?_)))))))
   refine wc_if rfl (fun hc10 => ?_) (fun hc10 => ?_)
   rotate_left
   ·refine wc_exit ?_
    have hge : (a2.length : Int) ≤ i9 := Int.not_lt.1 (of_decide_eq_false hc10)
    obtain rfl : m9 = 0 := by omega
    replace e9 := forN_0 e9
    exact ⟨rfl, (((((Dif.self _ _ _).upd rfl _).upd rfl _).upd rfl _).upd rfl _), (), e9, S⟩
   refine wc_skip ?_
   have hlt9 : i9 < (a2.length : Int) := of_decide_eq_true hc10
   obtain ⟨m9, rfl⟩ : ∃ m, m9 = m + 1 := ⟨m9 - 1, by omega⟩
   obtain ⟨q9, H, e9⟩ := forN_s e9
   unfold ref09_first.b1 at H
   try dsimp only at H
   have hb9 := (S.len 1)
   refine wc_seq ?_
   refine wc_block (wc_seq ?_)
   refine wc_quiet 7 (Ext u9) hmix (by kernel_rfl) (by kernel_rfl) (Ext.drawn _) (wq_does (fun v K => does_mv_p rfl) (wq_does (fun v K => does_load_agg ag_Sq rfl (((S.ext K).blk 0).all _ (Sq.len _)) (Sq.len _)) (wq_does (fun v K => does_mv_l rfl) (wq_does (fun v K => does_mv_i q9_i) (wq_does (fun v K => does_indexR sl_L_api_Rule rfl rfl ((S.ext K).rd 1) (And.intro (show 0 ≤ i9 by omega) (show i9 < (a2.length : Int) from hlt9)).1 (And.intro (show 0 ≤ i9 by omega) (show i9 < (a2.length : Int) from hlt9)).2) (wq_does (fun v K => does_load on_api_Rule rfl (((S.ext K).rd 1).one (at_some (0 : Int) (And.intro (show 0 ≤ i9 by omega) (show i9 < (a2.length : Int) from hlt9))) rfl)) (wq_does (fun v K => does_mv_i q4_i) ?_)))))))
   refine wq_nil fun w12 K => ?_
   replace S := S.ext K
   clear K
   obtain ⟨r13, er13, H⟩ := bind_ex H
   obtain ⟨B15, MB15, SB15, back⟩ := S.calln 0 ((.z 0 rfl .nil))
   refine wl_call (does_call ca_ref09_Fits) (by decide) (ref09_Fits_st SB15 er13) ?_
   rintro _ w14 ⟨rfl, S2⟩
   replace S := back _ _ _ _ S2 rfl
   clear back S2 SB15
   refine wl_nil ?_
   refine wc_if rfl (fun hc16 => ?_) (fun hc16 => ?_)
   ·replace H := if_t hc16 H
    refine wc_seq (wc_region (wd (does_mv_l rfl) (wd (does_mv_i q9_i) (wd (does_indexR sl_L_api_Rule rfl rfl (S.rd 1) (And.intro (show 0 ≤ i9 by omega) (show i9 < (a2.length : Int) from hlt9)).1 (And.intro (show 0 ≤ i9 by omega) (show i9 < (a2.length : Int) from hlt9)).2) (wd (does_load on_api_Rule rfl ((S.rd 1).one (at_some (0 : Int) (And.intro (show 0 ≤ i9 by omega) (show i9 < (a2.length : Int) from hlt9))) rfl)) (wd (does_mv_i q4_i) (wd (does_as_i rfl) (wd (does_as_i rfl) (wd (does_as_b rfl) (wl_nil (wc_ret ?_)))))))))))
    refine ⟨_, (rets3 (retOne_tmp rfl) (retOne_tmp rfl) (retOne_tmp rfl)), ?_⟩
    replace S := S.arr [] []
    obtain rfl := Option.some.inj H
    obtain rfl := e9
    obtain rfl := aft_r Ho9
    obtain rfl := e4
    obtain rfl := aft_r Ho4
    exact ⟨rfl, S⟩
   replace H := if_f hc16 H
   refine wc_skip (wc_region (wd (does_mv_i q9_i) (wd (does_addc rfl rfl (c := i9 + 1) rfl (by omega) (by omega)) (wd (does_as_i rfl) (wl_nil ?_)))))
   obtain rfl := Option.some.inj H
   exact ⟨rfl, ((((((((((((((((Dif.self _ _ _).upd rfl _).upd rfl _).upd rfl _).upd rfl _).upd rfl _).upd rfl _).upd rfl _).upd rfl _).upd rfl _).upd rfl _).upd rfl _).upd rfl _).upd rfl _).upd rfl _).upd rfl _), (m9, i9 + 1, ()), ⟨(by dsimp only; omega), (by dsimp only; omega), e9, rfl, S⟩, by dsimp only; omega⟩
  rintro g18 u19 ⟨s9, rfl, S⟩
  have H := Ho9
  dsimp only [aft] at H
  refine wc_region (wd (does_mv_i q4_i) (wd (does_addc rfl rfl (c := i4 + 1) rfl (by omega) (by omega)) (wd (does_as_i rfl) (wl_nil ?_))))
  obtain rfl := Option.some.inj H
  exact ⟨rfl, (((((((((((((Dif.self _ _ _).upd rfl _).upd rfl _).upd rfl _).upd rfl _).upd rfl _).upd rfl _).upd rfl _).upd rfl _).mask rfl _).upd rfl _).upd rfl _).upd rfl _), (m4, i4 + 1, ()), ⟨(by dsimp only; omega), (by dsimp only; omega), e4, rfl, S⟩, by dsimp only; omega⟩
 rintro g20 u21 ⟨s4, rfl, S⟩
 have H := Ho4
 dsimp only [aft] at H
 refine wc_seq (wc_region (wd (does_as_i rfl) (wd (does_as_i rfl) (wd (does_as_b rfl) (wl_nil (wc_ret ?_))))))
 refine ⟨_, (rets3 (retOne_tmp rfl) (retOne_tmp rfl) (retOne_tmp rfl)), ?_⟩
 replace S := S.arr [] []
 obtain rfl := Option.some.inj H
 exact ⟨rfl, S⟩
theorem ref09_Apply_st {A : Nat → Prop} {N : Oth} {w : World} {a0 : Tb} {a_0 : Option Addr} {a1 : Sq} (S : St A N w w [] [oR a_0 a0]) {r : Int × Int} (H : ref09_Apply.f a0 a1 = some r) :
  Calls PP F_ref09_Apply #[.pointer a_0, .agg (Sq.C a1).toArray] w fun e w' => ∃ v, e = .returned v ∧ (v = .tuple #[.int .i64 r.1, .int .i64 r.2] ∧ St A N w w' [] []) := by
 unfold ref09_Apply.f at H
 refine calls_of_wc (n := 38) fn_ref09_Apply rfl rfl (by simp) (wc_seq (wc_region ?_))
 refine wl_box_agg rfl (by decide) fun b2 w1 hw1 => ?_
 replace S := S.new hw1
 refine wd (does_as_i rfl) (wd (does_as_i rfl) (wl_nil (wc_seq (wc_region ?_))))
 refine wl_lits (C := IC) (l := [1]) (vs := [.int .i64 1]) sl_L_api_Rule el_api_Rule.zero rfl rfl (fun _ _ => rfl) (by decide) rfl (by decide) fun b4 w3 s5 hBw3 hw3 => ?_
 replace S := S.lit hBw3 hw3 (by simp)
 refine wl_lits (C := IC) (l := [2]) (vs := [.int .i64 2]) sl_L_api_Rule el_api_Rule.zero rfl rfl (fun _ _ => rfl) (by decide) rfl (by decide) fun b7 w6 s8 hBw6 hw6 => ?_
 replace S := S.lit hBw6 hw6 (by simp)
 refine wl_lits (C := IC) (l := [3, 4, 5, 6, 7]) (vs := [.int .i64 3, .int .i64 4, .int .i64 5, .int .i64 6, .int .i64 7]) sl_L_api_Rule el_api_Rule.zero rfl rfl (fun _ _ => rfl) (by decide) rfl (by decide) fun b10 w9 s11 hBw9 hw9 => ?_
 replace S := S.lit hBw9 hw9 (by simp)
 refine wl_lits (C := IC) (l := [8]) (vs := [.int .i64 8]) sl_L_api_Rule el_api_Rule.zero rfl rfl (fun _ _ => rfl) (by decide) rfl (by decide) fun b13 w12 s14 hBw12 hw12 => ?_
 replace S := S.lit hBw12 hw12 (by simp)
 refine wl_lits (C := IC) (l := [9]) (vs := [.int .i64 9]) sl_L_api_Rule el_api_Rule.zero rfl rfl (fun _ _ => rfl) (by decide) rfl (by decide) fun b16 w15 s17 hBw15 hw15 => ?_
 replace S := S.lit hBw15 hw15 (by simp)
 refine wl_lits (C := IC) (l := [10]) (vs := [.int .i64 10]) sl_L_api_Rule el_api_Rule.zero rfl rfl (fun _ _ => rfl) (by decide) rfl (by decide) fun b19 w18 s20 hBw18 hw18 => ?_
 replace S := S.lit hBw18 hw18 (by simp)
 refine wl_lits (C := LC) (l := [s5, s8, s11, s14, s17, s20]) (vs := [s5.v, s8.v, s11.v, s14.v, s17.v, s20.v]) sl_L_L_api_Rule el_L_api_Rule.zero rfl (by simp only [List.map_cons, List.map_nil, SlV.cells, LC]) (fun _ _ => rfl) (by decide) rfl (by decide) fun b22 w21 s23 hBw21 hw21 => ?_
 replace S := S.lit hBw21 hw21 (by simp)
 refine wd (does_as_l rfl) (wl_nil (wc_seq (wc_seq (wc_region (wd (does_as_i rfl) (wl_nil ?_))))))
 refine wc_block ?_
 refine wc_rounds 7 ?_
 refine rounds_s (wc_seq (wc_seq (wc_region (wd (does_mv_i rfl) (wd (does_mv_l rfl) (wd (does_lenR sl_L_L_api_Rule rfl (S.rdO 0)) (wd (does_lt rfl rfl) (wl_nil ?_))))))))
 refine wc_true rfl (wc_skip (wc_seq ?_))
 refine wc_block (wc_seq ?_)
 refine wc_quiet 13 (Ext w21) hmix (by kernel_rfl) (by kernel_rfl) (Ext.drawn _) (wq_does (fun v K => does_mv_p rfl) (wq_does (fun v K => does_load_agg ag_Sq rfl (((S.ext K).blk 7).all _ (Sq.len _)) (Sq.len _)) (wq_does (fun v K => does_mv_l rfl) (wq_does (fun v K => does_mv_i rfl) (wq_does (fun v K => does_indexR sl_L_L_api_Rule rfl rfl ((S.ext K).rdO 0) (by decide) (by simp)) (wq_does (fun v K => does_load on_L_api_Rule rfl (((S.ext K).rdO 0).one (at_some SlV.nil (And.intro (by decide) (by simp))) rfl)) ?_))))))
 obtain ⟨r26, er26, H⟩ := bind_ex H
 refine wq_call (fun v => does_call ca_ref09_first) (fun v K => (have ⟨M, SS⟩ := (S.ext K).lend ((.z 0 rfl (.s 6 rfl .nil))); quiet (ref09_first_st SS er26) (fun v w' h => ⟨h.1, _, _, h.2⟩))) (fun v v' K h => K.thenExt h) (wq_does (fun v K => does_mv_t rfl) (wq_does (fun v K => does_extract rfl rfl) (wq_does (fun v K => does_extract rfl rfl) (wq_does (fun v K => does_extract rfl rfl) (wq_does (fun v K => does_as_i rfl) (wq_does (fun v K => does_as_i rfl) ?_))))))
 refine wq_nil fun w27 K => ?_
 replace S := S.ext K
 clear K
 refine wd (does_as_b rfl) (wl_nil (wc_seq (wc_region (wd (does_mv_b rfl) (wl_nil ?_)))))
 refine wc_if rfl (fun hc28 => ?_) (fun hc28 => ?_)
 ·replace H := if_t hc28 H
  refine wc_seq (wc_region (wd (does_mv_i rfl) (wd (does_mv_i rfl) (wd (does_as_i rfl) (wd (does_as_i rfl) (wl_nil (wc_ret ?_)))))))
  refine ⟨_, (rets2 (retOne_tmp rfl) (retOne_tmp rfl)), ?_⟩
  replace S := S.arr [] []
  obtain rfl := Option.some.inj H
  exact ⟨rfl, S⟩
 replace H := if_f hc28 H
 refine wc_skip (wc_region (wd (does_mv_i rfl) (wd (does_addc rfl rfl (c := 1) rfl (by decide) (by decide)) (wd (does_as_i rfl) (wl_nil ?_)))))
 refine ⟨rfl, ?_⟩
 refine rounds_s (wc_seq (wc_seq (wc_region (wd (does_mv_i rfl) (wd (does_mv_l rfl) (wd (does_lenR sl_L_L_api_Rule rfl (S.rdO 0)) (wd (does_lt rfl rfl) (wl_nil ?_))))))))
 refine wc_true rfl (wc_skip (wc_seq ?_))
 refine wc_block (wc_seq ?_)
 refine wc_quiet 13 (Ext w27) hmix (by kernel_rfl) (by kernel_rfl) (Ext.drawn _) (wq_does (fun v K => does_mv_p rfl) (wq_does (fun v K => does_load_agg ag_Sq rfl (((S.ext K).blk 7).all _ (Sq.len _)) (Sq.len _)) (wq_does (fun v K => does_mv_l rfl) (wq_does (fun v K => does_mv_i rfl) (wq_does (fun v K => does_indexR sl_L_L_api_Rule rfl rfl ((S.ext K).rdO 0) (by decide) (by simp)) (wq_does (fun v K => does_load on_L_api_Rule rfl (((S.ext K).rdO 0).one (at_some SlV.nil (And.intro (by decide) (by simp))) rfl)) ?_))))))
 obtain ⟨r31, er31, H⟩ := bind_ex H
 refine wq_call (fun v => does_call ca_ref09_first) (fun v K => (have ⟨M, SS⟩ := (S.ext K).lend ((.z 0 rfl (.s 5 rfl .nil))); quiet (ref09_first_st SS er31) (fun v w' h => ⟨h.1, _, _, h.2⟩))) (fun v v' K h => K.thenExt h) (wq_does (fun v K => does_mv_t rfl) (wq_does (fun v K => does_extract rfl rfl) (wq_does (fun v K => does_extract rfl rfl) (wq_does (fun v K => does_extract rfl rfl) (wq_does (fun v K => does_as_i rfl) (wq_does (fun v K => does_as_i rfl) ?_))))))
 refine wq_nil fun w32 K => ?_
 replace S := S.ext K
 clear K
 refine wd (does_as_b rfl) (wl_nil (wc_seq (wc_region (wd (does_mv_b rfl) (wl_nil ?_)))))
 refine wc_if rfl (fun hc33 => ?_) (fun hc33 => ?_)
 ·replace H := if_t hc33 H
  refine wc_seq (wc_region (wd (does_mv_i rfl) (wd (does_mv_i rfl) (wd (does_as_i rfl) (wd (does_as_i rfl) (wl_nil (wc_ret ?_)))))))
  refine ⟨_, (rets2 (retOne_tmp rfl) (retOne_tmp rfl)), ?_⟩
  replace S := S.arr [] []
  obtain rfl := Option.some.inj H
  exact ⟨rfl, S⟩
 replace H := if_f hc33 H
 refine wc_skip (wc_region (wd (does_mv_i rfl) (wd (does_addc rfl rfl (c := 2) rfl (by decide) (by decide)) (wd (does_as_i rfl) (wl_nil ?_)))))
 refine ⟨rfl, ?_⟩
 refine rounds_s (wc_seq (wc_seq (wc_region (wd (does_mv_i rfl) (wd (does_mv_l rfl) (wd (does_lenR sl_L_L_api_Rule rfl (S.rdO 0)) (wd (does_lt rfl rfl) (wl_nil ?_))))))))
 refine wc_true rfl (wc_skip (wc_seq ?_))
 refine wc_block (wc_seq ?_)
 refine wc_quiet 13 (Ext w32) hmix (by kernel_rfl) (by kernel_rfl) (Ext.drawn _) (wq_does (fun v K => does_mv_p rfl) (wq_does (fun v K => does_load_agg ag_Sq rfl (((S.ext K).blk 7).all _ (Sq.len _)) (Sq.len _)) (wq_does (fun v K => does_mv_l rfl) (wq_does (fun v K => does_mv_i rfl) (wq_does (fun v K => does_indexR sl_L_L_api_Rule rfl rfl ((S.ext K).rdO 0) (by decide) (by simp)) (wq_does (fun v K => does_load on_L_api_Rule rfl (((S.ext K).rdO 0).one (at_some SlV.nil (And.intro (by decide) (by simp))) rfl)) ?_))))))
 obtain ⟨r36, er36, H⟩ := bind_ex H
 refine wq_call (fun v => does_call ca_ref09_first) (fun v K => (have ⟨M, SS⟩ := (S.ext K).lend ((.z 0 rfl (.s 4 rfl .nil))); quiet (ref09_first_st SS er36) (fun v w' h => ⟨h.1, _, _, h.2⟩))) (fun v v' K h => K.thenExt h) (wq_does (fun v K => does_mv_t rfl) (wq_does (fun v K => does_extract rfl rfl) (wq_does (fun v K => does_extract rfl rfl) (wq_does (fun v K => does_extract rfl rfl) (wq_does (fun v K => does_as_i rfl) (wq_does (fun v K => does_as_i rfl) ?_))))))
 refine wq_nil fun w37 K => ?_
 replace S := S.ext K
 clear K
 refine wd (does_as_b rfl) (wl_nil (wc_seq (wc_region (wd (does_mv_b rfl) (wl_nil ?_)))))
 refine wc_if rfl (fun hc38 => ?_) (fun hc38 => ?_)
 ·replace H := if_t hc38 H
  refine wc_seq (wc_region (wd (does_mv_i rfl) (wd (does_mv_i rfl) (wd (does_as_i rfl) (wd (does_as_i rfl) (wl_nil (wc_ret ?_)))))))
  refine ⟨_, (rets2 (retOne_tmp rfl) (retOne_tmp rfl)), ?_⟩
  replace S := S.arr [] []
  obtain rfl := Option.some.inj H
  exact ⟨rfl, S⟩
 replace H := if_f hc38 H
 refine wc_skip (wc_region (wd (does_mv_i rfl) (wd (does_addc rfl rfl (c := 3) rfl (by decide) (by decide)) (wd (does_as_i rfl) (wl_nil ?_)))))
 refine ⟨rfl, ?_⟩
 refine rounds_s (wc_seq (wc_seq (wc_region (wd (does_mv_i rfl) (wd (does_mv_l rfl) (wd (does_lenR sl_L_L_api_Rule rfl (S.rdO 0)) (wd (does_lt rfl rfl) (wl_nil ?_))))))))
 refine wc_true rfl (wc_skip (wc_seq ?_))
 refine wc_block (wc_seq ?_)
 refine wc_quiet 13 (Ext w37) hmix (by kernel_rfl) (by kernel_rfl) (Ext.drawn _) (wq_does (fun v K => does_mv_p rfl) (wq_does (fun v K => does_load_agg ag_Sq rfl (((S.ext K).blk 7).all _ (Sq.len _)) (Sq.len _)) (wq_does (fun v K => does_mv_l rfl) (wq_does (fun v K => does_mv_i rfl) (wq_does (fun v K => does_indexR sl_L_L_api_Rule rfl rfl ((S.ext K).rdO 0) (by decide) (by simp)) (wq_does (fun v K => does_load on_L_api_Rule rfl (((S.ext K).rdO 0).one (at_some SlV.nil (And.intro (by decide) (by simp))) rfl)) ?_))))))
 obtain ⟨r41, er41, H⟩ := bind_ex H
 refine wq_call (fun v => does_call ca_ref09_first) (fun v K => (have ⟨M, SS⟩ := (S.ext K).lend ((.z 0 rfl (.s 3 rfl .nil))); quiet (ref09_first_st SS er41) (fun v w' h => ⟨h.1, _, _, h.2⟩))) (fun v v' K h => K.thenExt h) (wq_does (fun v K => does_mv_t rfl) (wq_does (fun v K => does_extract rfl rfl) (wq_does (fun v K => does_extract rfl rfl) (wq_does (fun v K => does_extract rfl rfl) (wq_does (fun v K => does_as_i rfl) (wq_does (fun v K => does_as_i rfl) ?_))))))
 refine wq_nil fun w42 K => ?_
 replace S := S.ext K
 clear K
 refine wd (does_as_b rfl) (wl_nil (wc_seq (wc_region (wd (does_mv_b rfl) (wl_nil ?_)))))
 refine wc_if rfl (fun hc43 => ?_) (fun hc43 => ?_)
 ·replace H := if_t hc43 H
  refine wc_seq (wc_region (wd (does_mv_i rfl) (wd (does_mv_i rfl) (wd (does_as_i rfl) (wd (does_as_i rfl) (wl_nil (wc_ret ?_)))))))
  refine ⟨_, (rets2 (retOne_tmp rfl) (retOne_tmp rfl)), ?_⟩
  replace S := S.arr [] []
  obtain rfl := Option.some.inj H
  exact ⟨rfl, S⟩
 replace H := if_f hc43 H
 refine wc_skip (wc_region (wd (does_mv_i rfl) (wd (does_addc rfl rfl (c := 4) rfl (by decide) (by decide)) (wd (does_as_i rfl) (wl_nil ?_)))))
 refine ⟨rfl, ?_⟩
 refine rounds_s (wc_seq (wc_seq (wc_region (wd (does_mv_i rfl) (wd (does_mv_l rfl) (wd (does_lenR sl_L_L_api_Rule rfl (S.rdO 0)) (wd (does_lt rfl rfl) (wl_nil ?_))))))))
 refine wc_true rfl (wc_skip (wc_seq ?_))
 refine wc_block (wc_seq ?_)
 refine wc_quiet 13 (Ext w42) hmix (by kernel_rfl) (by kernel_rfl) (Ext.drawn _) (wq_does (fun v K => does_mv_p rfl) (wq_does (fun v K => does_load_agg ag_Sq rfl (((S.ext K).blk 7).all _ (Sq.len _)) (Sq.len _)) (wq_does (fun v K => does_mv_l rfl) (wq_does (fun v K => does_mv_i rfl) (wq_does (fun v K => does_indexR sl_L_L_api_Rule rfl rfl ((S.ext K).rdO 0) (by decide) (by simp)) (wq_does (fun v K => does_load on_L_api_Rule rfl (((S.ext K).rdO 0).one (at_some SlV.nil (And.intro (by decide) (by simp))) rfl)) ?_))))))
 obtain ⟨r46, er46, H⟩ := bind_ex H
 refine wq_call (fun v => does_call ca_ref09_first) (fun v K => (have ⟨M, SS⟩ := (S.ext K).lend ((.z 0 rfl (.s 2 rfl .nil))); quiet (ref09_first_st SS er46) (fun v w' h => ⟨h.1, _, _, h.2⟩))) (fun v v' K h => K.thenExt h) (wq_does (fun v K => does_mv_t rfl) (wq_does (fun v K => does_extract rfl rfl) (wq_does (fun v K => does_extract rfl rfl) (wq_does (fun v K => does_extract rfl rfl) (wq_does (fun v K => does_as_i rfl) (wq_does (fun v K => does_as_i rfl) ?_))))))
 refine wq_nil fun w47 K => ?_
 replace S := S.ext K
 clear K
 refine wd (does_as_b rfl) (wl_nil (wc_seq (wc_region (wd (does_mv_b rfl) (wl_nil ?_)))))
 refine wc_if rfl (fun hc48 => ?_) (fun hc48 => ?_)
 ·replace H := if_t hc48 H
  refine wc_seq (wc_region (wd (does_mv_i rfl) (wd (does_mv_i rfl) (wd (does_as_i rfl) (wd (does_as_i rfl) (wl_nil (wc_ret ?_)))))))
  refine ⟨_, (rets2 (retOne_tmp rfl) (retOne_tmp rfl)), ?_⟩
  replace S := S.arr [] []
  obtain rfl := Option.some.inj H
  exact ⟨rfl, S⟩
 replace H := if_f hc48 H
 refine wc_skip (wc_region (wd (does_mv_i rfl) (wd (does_addc rfl rfl (c := 5) rfl (by decide) (by decide)) (wd (does_as_i rfl) (wl_nil ?_)))))
 refine ⟨rfl, ?_⟩
 refine rounds_s (wc_seq (wc_seq (wc_region (wd (does_mv_i rfl) (wd (does_mv_l rfl) (wd (does_lenR sl_L_L_api_Rule rfl (S.rdO 0)) (wd (does_lt rfl rfl) (wl_nil ?_))))))))
 refine wc_true rfl (wc_skip (wc_seq ?_))
 refine wc_block (wc_seq ?_)
 refine wc_quiet 13 (Ext w47) hmix (by kernel_rfl) (by kernel_rfl) (Ext.drawn _) (wq_does (fun v K => does_mv_p rfl) (wq_does (fun v K => does_load_agg ag_Sq rfl (((S.ext K).blk 7).all _ (Sq.len _)) (Sq.len _)) (wq_does (fun v K => does_mv_l rfl) (wq_does (fun v K => does_mv_i rfl) (wq_does (fun v K => does_indexR sl_L_L_api_Rule rfl rfl ((S.ext K).rdO 0) (by decide) (by simp)) (wq_does (fun v K => does_load on_L_api_Rule rfl (((S.ext K).rdO 0).one (at_some SlV.nil (And.intro (by decide) (by simp))) rfl)) ?_))))))
 obtain ⟨r51, er51, H⟩ := bind_ex H
 refine wq_call (fun v => does_call ca_ref09_first) (fun v K => (have ⟨M, SS⟩ := (S.ext K).lend ((.z 0 rfl (.s 1 rfl .nil))); quiet (ref09_first_st SS er51) (fun v w' h => ⟨h.1, _, _, h.2⟩))) (fun v v' K h => K.thenExt h) (wq_does (fun v K => does_mv_t rfl) (wq_does (fun v K => does_extract rfl rfl) (wq_does (fun v K => does_extract rfl rfl) (wq_does (fun v K => does_extract rfl rfl) (wq_does (fun v K => does_as_i rfl) (wq_does (fun v K => does_as_i rfl) ?_))))))
 refine wq_nil fun w52 K => ?_
 replace S := S.ext K
 clear K
 refine wd (does_as_b rfl) (wl_nil (wc_seq (wc_region (wd (does_mv_b rfl) (wl_nil ?_)))))
 refine wc_if rfl (fun hc53 => ?_) (fun hc53 => ?_)
 ·replace H := if_t hc53 H
  refine wc_seq (wc_region (wd (does_mv_i rfl) (wd (does_mv_i rfl) (wd (does_as_i rfl) (wd (does_as_i rfl) (wl_nil (wc_ret ?_)))))))
  refine ⟨_, (rets2 (retOne_tmp rfl) (retOne_tmp rfl)), ?_⟩
  replace S := S.arr [] []
  obtain rfl := Option.some.inj H
  exact ⟨rfl, S⟩
 replace H := if_f hc53 H
 refine wc_skip (wc_region (wd (does_mv_i rfl) (wd (does_addc rfl rfl (c := 6) rfl (by decide) (by decide)) (wd (does_as_i rfl) (wl_nil ?_)))))
 refine ⟨rfl, ?_⟩
 refine rounds_s (wc_seq (wc_seq (wc_region (wd (does_mv_i rfl) (wd (does_mv_l rfl) (wd (does_lenR sl_L_L_api_Rule rfl (S.rdO 0)) (wd (does_lt rfl rfl) (wl_nil ?_))))))))
 refine wc_false rfl ?_
 refine wc_exit (wc_seq (wc_region (wd (does_as_i rfl) (wd (does_as_i rfl) (wl_nil (wc_ret ?_))))))
 refine ⟨_, (rets2 (retOne_tmp rfl) (retOne_tmp rfl)), ?_⟩
 replace S := S.arr [] []
 obtain rfl := Option.some.inj H
 exact ⟨rfl, S⟩
theorem ref09_Choices_st {A : Nat → Prop} {N : Oth} {w : World} {a0 : Tb} {a_0 : Option Addr} {a1 : Sq} (S : St A N w w [] [oR a_0 a0]) {r : List Int × List Int} (H : ref09_Choices.f a0 a1 = some r) :
  Calls PP F_ref09_Choices #[.pointer a_0, .agg (Sq.C a1).toArray] w fun e w' => ∃ v, e = .returned v ∧ (∃ so0 : SlV, ∃ so1 : SlV, v = .tuple #[so0.v, so1.v] ∧ St A N w w' [oS T_api_Rule 1 IC so0 r.1, oS T_int 1 IC so1 r.2] []) := by
 unfold ref09_Choices.f at H
 refine calls_of_wc (n := 56) fn_ref09_Choices rfl rfl (by simp) (wc_seq (wc_region ?_))
 refine wl_box_agg rfl (by decide) fun b2 w1 hw1 => ?_
 replace S := S.new hw1
 refine wd (does_as_nil) (wd (does_as_nil) (wl_nil (wc_seq (wc_region (wd (does_mv_p rfl) (wd (does_load_agg ag_Sq rfl ((S.blk 0).all _ (Sq.len _)) (Sq.len _)) ?_))))))
 obtain ⟨r3, er3, H⟩ := bind_ex H
 obtain ⟨B5, MB5, SB5, back⟩ := S.calln 0 ((.z 0 rfl .nil))
 refine wl_call (does_call ca_ref09_Apply) (by decide) (ref09_Apply_st SB5 er3) ?_
 rintro _ w4 ⟨rfl, S2⟩
 replace S := back _ _ _ _ S2 rfl
 clear back S2 SB5
 refine wd (does_mv_t rfl) (wd (does_extract rfl rfl) (wd (does_extract rfl rfl) (wd (does_as_i rfl) (wd (does_as_i rfl) (wl_nil (wc_seq (wc_seq (wc_region (wd (does_mv_i rfl) (wd (does_ne rfl rfl) (wl_nil ?_)))))))))))
 refine wc_if rfl (fun hc6 => ?_) (fun hc6 => ?_)
 ·replace H := if_t hc6 H
  refine wc_seq (wc_region (wd (does_as_nil) (wd (does_as_nil) (wl_nil (wc_ret ?_)))))
  replace S := (S.nil T_api_Rule 1 IC).nil T_int 1 IC
  refine ⟨_, (rets2 (retOne_tmp rfl) (retOne_tmp rfl)), ?_⟩
  replace S := S.arr [1, 0] []
  obtain rfl := Option.some.inj H
  exact ⟨SlV.nil, SlV.nil, rfl, S⟩
 replace H := if_f hc6 H
 refine wc_skip (wc_seq (wc_region (wd (does_as_nil) (wl_nil (wc_seq (wc_region (wd (does_as_nil) (wl_nil (wc_seq (wc_seq (wc_region (wd (does_mv_p rfl) (wd (does_fieldAddr fl_Sq_goal rfl (o' := 16) rfl) (wd (does_load on_int rfl ((S.blk 0).cell (Sq.get_goal _))) ?_))))))))))))))
 obtain ⟨r7, er7, H⟩ := bind_ex H
 obtain ⟨B9, MB9, SB9, back⟩ := S.calln 0 ((.z 0 rfl .nil))
 refine wl_call (does_call ca_ref09_kind) (by decide) (ref09_kind_st SB9 er7) ?_
 rintro _ w8 ⟨rfl, S2⟩
 replace S := back _ _ _ _ S2 rfl
 clear back S2 SB9
 refine wd (does_eq rfl rfl) (wl_nil ?_)
 replace S := (S.nil T_api_Rule 1 IC).nil T_int 1 IC
 obtain ⟨o10, e10, Ho10⟩ := bind_ex H
 replace H := e10; clear e10
 refine wc_cutq [8, 9, 24, 25, 26, 27, 28, 29, 30, 31, 32, 33] (fun fr W => ∃ s11 : SlV, ∃ s12 : SlV, fr 8 = s11.v ∧ fr 9 = s12.v ∧ St A N w W [oS T_int 1 IC s12 o10.2, oS T_api_Rule 1 IC s11 o10.1, oB b2 T_Sq (Sq.C a1)] [oR a_0 a0]) ?_ ?_
 ·refine wc_if rfl (fun hc13 => ?_) (fun hc13 => ?_)
  ·replace H := if_t hc13 H
   refine wc_seq (wc_region (wd (does_mv_l rfl) ?_))
   refine wl_lits (C := IC) (l := [11, 12]) (vs := [.int .i64 11, .int .i64 12]) sl_L_api_Rule el_api_Rule.zero rfl rfl (fun _ _ => rfl) (by decide) rfl (by decide) fun b15 w14 s16 hBw14 hw14 => ?_
   replace S := S.lit hBw14 hw14 (by simp)
   obtain ⟨ha19, H⟩ := chk_ex H
   have ha19 := of_decide_eq_true ha19
   refine wl_appends (C := IC) sl_L_api_Rule el_api_Rule rfl rfl (S.sl 2) (S.rdO 0) (by simp) (fun a _ v hv => by rw [List.mem_singleton.1 hv]; rfl) ha19 (by omega) (by decide) fun s18 w17 O hw17 gw17 => ?_
   replace S := S.push 2 O (by first | (simp; done) | (simp; omega)) hw17 gw17
   clear O
   refine wd (does_as_l rfl) (wl_nil (wc_region (wd (does_mv_l rfl) (wd (does_fieldAddr fl_Sq_goal rfl (o' := 16) rfl) (wd (does_load on_int rfl ((S.blk 3).cell (Sq.get_goal _))) (wd (does_fieldAddr fl_Sq_goal rfl (o' := 16) rfl) (wd (does_load on_int rfl ((S.blk 3).cell (Sq.get_goal _))) ?_)))))))
   refine wl_lits (C := IC) (l := [a1.goal, a1.goal]) (vs := [.int .i64 a1.goal, .int .i64 a1.goal]) sl_L_int el_int.zero rfl rfl (fun _ _ => rfl) (by decide) rfl (by decide) fun b21 w20 s22 hBw20 hw20 => ?_
   replace S := S.lit hBw20 hw20 (by simp)
   obtain ⟨ha25, H⟩ := chk_ex H
   have ha25 := of_decide_eq_true ha25
   refine wl_appends (C := IC) sl_L_int el_int rfl rfl (S.sl 3) (S.rdO 0) (by simp) (fun a _ v hv => by rw [List.mem_singleton.1 hv]; rfl) ha25 (by omega) (by decide) fun s24 w23 O hw23 gw23 => ?_
   replace S := S.push 3 O (by first | (simp; done) | (simp; omega)) hw23 gw23
   clear O
   refine wd (does_as_l rfl) (wl_nil ?_)
   replace S := S.arr [0, 2, 4] [0]
   obtain rfl := Option.some.inj H
   exact ⟨rfl, (((((((((((((Dif.refl _ _).upd rfl _).upd rfl _).upd rfl _).upd rfl _).upd rfl _).upd rfl _).upd rfl _).upd rfl _).upd rfl _).upd rfl _).upd rfl _).upd rfl _), s18, s24, rfl, rfl, S⟩
  ·replace H := if_f hc13 H
   refine wc_skip ?_
   obtain rfl := Option.some.inj H
   exact ⟨rfl, (Dif.refl _ _), SlV.nil, SlV.nil, rfl, rfl, S⟩
 rintro g26 u27 ⟨s11, s12, p10_8, p10_9, S⟩
 have H := Ho10
 refine wc_seq (wc_seq (wc_region (wd (does_as_i rfl) (wl_nil ?_))))
 obtain ⟨ht28, H⟩ := chk_ex H
 obtain ⟨o29, e29, Ho29⟩ := bind_ex H
 clear H
 refine wc_cutq [8, 9, 10, 34, 35, 36, 37, 38, 39, 40, 41, 42, 43, 44, 45, 46, 47, 48, 49, 50, 51, 52, 53] (fun fr W => ∃ s30 : SlV, ∃ s31 : SlV, fr 8 = s30.v ∧ fr 9 = s31.v ∧ St A N w W [oS T_int 1 IC s31 o29.2, oS T_api_Rule 1 IC s30 o29.1, oB b2 T_Sq (Sq.C a1)] [oR a_0 a0]) ?_ ?_
 ·refine wc_block ?_
  refine wc_loopm (α := Nat × Int × (List Int × List Int)) [8, 9, 10, 34, 35, 36, 37, 38, 39, 40, 41, 42, 43, 44, 45, 46, 47, 48, 49, 50, 51, 52, 53] (fun x fr W => (x.1 : Int) = ((a0.getD []).length : Int) - x.2.1 ∧ 0 ≤ x.2.1 ∧ forS (fun i s => ref09_Choices.b0 a0 a1 i s.1 s.2) x.1 x.2.1 x.2.2 = some o29 ∧ ∃ s32 : SlV, ∃ s33 : SlV, fr 10 = .int .i64 x.2.1 ∧ fr 8 = s32.v ∧ fr 9 = s33.v ∧ St A N w W [oS T_int 1 IC s33 (x.2.2.2), oS T_api_Rule 1 IC s32 (x.2.2.1), oB b2 T_Sq (Sq.C a1)] [oR a_0 a0]) (fun x => x.1) ((((a0.getD []).length : Int) - 0).toNat, 0, (o10.1, o10.2)) ⟨(by dsimp only; have hle := Int.natCast_nonneg ((a0.getD []).length); omega), (Int.le_refl _), (by dsimp only; exact e29), s11, s12, rfl, p10_8, p10_9, S⟩ ?_
  rintro ⟨m29, i29, ⟨x29_0, x29_1⟩⟩ g29 u29 ⟨hm29, hl29, e29, s34, s35, q29_i, q29_8, q29_9, S⟩
  try dsimp only at hm29
  try dsimp only at hl29
  try dsimp only at e29
  try dsimp only at S
  try dsimp only at q29_i
  try dsimp only at q29_8
  try dsimp only at q29_9
  refine wc_seq (wc_seq (wc_region (wd (does_mv_i q29_i) (wd (does_mv_p rfl) ?_))))
  obtain ⟨p36, s37, hp38, S⟩ := S.seeR 0 ht28
  replace S := S
  refine wd (does_nilCheck (congrArg Value.pointer hp38)) (wd (does_fieldAddr fl_RTab_n rfl (o' := 0) rfl) (wd (does_load on_L_api_Node rfl ((S.blkZ 0).cell (RTab.get_n _))) (wd (does_lenR sl_L_api_Node rfl (S.rd 1)) (wd (does_lt rfl rfl) ?_))))
  replace S := S.zs [2]
  refine wl_nil ?_
  refine wc_if rfl (fun hc39 => ?_) (fun hc39 => ?_)
  rotate_left
  ·refine wc_exit ?_
   have hge : ((a0.getD []).length : Int) ≤ i29 := Int.not_lt.1 (of_decide_eq_false hc39)
   obtain rfl : m29 = 0 := by omega
   replace e29 := forS_0 e29
   obtain rfl := e29
   exact ⟨rfl, ((((((((Dif.self _ _ _).upd rfl _).upd rfl _).upd rfl _).upd rfl _).upd rfl _).upd rfl _).upd rfl _), s34, s35, q29_8, q29_9, S⟩
  refine wc_skip ?_
  have hlt29 : i29 < ((a0.getD []).length : Int) := of_decide_eq_true hc39
  obtain ⟨m29, rfl⟩ : ∃ m, m29 = m + 1 := ⟨m29 - 1, by omega⟩
  obtain ⟨q29, H, e29⟩ := forS_s e29
  unfold ref09_Choices.b0 at H
  try dsimp only at H
  have hb29 := (S.lenRZ 0)
  refine wc_seq ?_
  refine wc_block (wc_seq (wc_region (wd (does_mv_p rfl) (wd (does_load_agg ag_Sq rfl ((S.blk 2).all _ (Sq.len _)) (Sq.len _)) (wd (does_mv_i q29_i) ?_)))))
  obtain ⟨r40, er40, H⟩ := bind_ex H
  obtain ⟨B42, MB42, SB42, back⟩ := S.calln 0 ((.z 0 rfl .nil))
  refine wl_call (does_call ca_ref09_Fits) (by decide) (ref09_Fits_st SB42 er40) ?_
  rintro _ w41 ⟨rfl, S2⟩
  replace S := back _ _ _ _ S2 rfl
  clear back S2 SB42
  refine wl_nil ?_
  refine wc_if rfl (fun hc43 => ?_) (fun hc43 => ?_)
  ·replace H := if_t hc43 H
   refine wc_seq (wc_region (wd (does_mv_l q29_8) ?_))
   refine wl_lits (C := IC) (l := [13]) (vs := [.int .i64 13]) sl_L_api_Rule el_api_Rule.zero rfl rfl (fun _ _ => rfl) (by decide) rfl (by decide) fun b45 w44 s46 hBw44 hw44 => ?_
   replace S := S.lit hBw44 hw44 (by simp)
   obtain ⟨ha49, H⟩ := chk_ex H
   have ha49 := of_decide_eq_true ha49
   refine wl_appends (C := IC) sl_L_api_Rule el_api_Rule rfl rfl (S.sl 2) (S.rdO 0) (by simp) (fun a _ v hv => by rw [List.mem_singleton.1 hv]; rfl) ha49 (by omega) (by decide) fun s48 w47 O hw47 gw47 => ?_
   replace S := S.push 2 O (by first | (simp; done) | (simp; omega)) hw47 gw47
   clear O
   refine wd (does_as_l rfl) (wl_nil (wc_region (wd (does_mv_l q29_9) (wd (does_mv_i q29_i) ?_))))
   refine wl_lits (C := IC) (l := [i29]) (vs := [.int .i64 i29]) sl_L_int el_int.zero rfl rfl (fun _ _ => rfl) (by decide) rfl (by decide) fun b51 w50 s52 hBw50 hw50 => ?_
   replace S := S.lit hBw50 hw50 (by simp)
   obtain ⟨ha55, H⟩ := chk_ex H
   have ha55 := of_decide_eq_true ha55
   refine wl_appends (C := IC) sl_L_int el_int rfl rfl (S.sl 3) (S.rdO 0) (by simp) (fun a _ v hv => by rw [List.mem_singleton.1 hv]; rfl) ha55 (by omega) (by decide) fun s54 w53 O hw53 gw53 => ?_
   replace S := S.push 3 O (by first | (simp; done) | (simp; omega)) hw53 gw53
   clear O
   refine wd (does_as_l rfl) (wl_nil (wc_region (wd (does_mv_i q29_i) (wd (does_addc rfl rfl (c := i29 + 1) rfl (by omega) (by omega)) (wd (does_as_i rfl) (wl_nil ?_))))))
   replace S := S.arr [0, 2, 4] [0]
   obtain rfl := Option.some.inj H
   exact ⟨rfl, ((((((((((((((((((((((((Dif.self _ _ _).upd rfl _).upd rfl _).upd rfl _).upd rfl _).upd rfl _).upd rfl _).upd rfl _).upd rfl _).upd rfl _).upd rfl _).upd rfl _).upd rfl _).upd rfl _).upd rfl _).upd rfl _).upd rfl _).upd rfl _).upd rfl _).upd rfl _).upd rfl _).upd rfl _).upd rfl _).upd rfl _), (m29, i29 + 1, (x29_0 ++ [13], x29_1 ++ [i29])), ⟨(by dsimp only; omega), (by dsimp only; omega), e29, s48, s54, rfl, rfl, rfl, S⟩, by dsimp only; omega⟩
  ·replace H := if_f hc43 H
   refine wc_skip (wc_region (wd (does_mv_i q29_i) (wd (does_addc rfl rfl (c := i29 + 1) rfl (by omega) (by omega)) (wd (does_as_i rfl) (wl_nil ?_)))))
   obtain rfl := Option.some.inj H
   exact ⟨rfl, (((((((((((((((Dif.self _ _ _).upd rfl _).upd rfl _).upd rfl _).upd rfl _).upd rfl _).upd rfl _).upd rfl _).upd rfl _).upd rfl _).upd rfl _).upd rfl _).upd rfl _).upd rfl _).upd rfl _), (m29, i29 + 1, (x29_0, x29_1)), ⟨(by dsimp only; omega), (by dsimp only; omega), e29, s34, s35, rfl, q29_8, q29_9, S⟩, by dsimp only; omega⟩
 rintro g56 u57 ⟨s30, s31, p29_8, p29_9, S⟩
 have H := Ho29
 refine wc_seq (wc_region (wd (does_mv_l p29_8) (wd (does_mv_l p29_9) (wd (does_as_l rfl) (wd (does_as_l rfl) (wl_nil (wc_ret ?_)))))))
 refine ⟨_, (rets2 (retOne_tmp rfl) (retOne_tmp rfl)), ?_⟩
 replace S := S.arr [1, 0] []
 obtain rfl := Option.some.inj H
 exact ⟨s30, s31, rfl, S⟩
theorem ref03_From_st {A : Nat → Prop} {N : Oth} {w : World} {a0 : List Nd} {s_0 : SlV} (S : St A N w w [] [fS 4 Nd.C s_0 a0]) {r : Tb × Int} (H : ref03_From.f a0 = some r) :
  Calls PP F_ref03_From #[s_0.v] w fun e w' => ∃ v, e = .returned v ∧ (∃ ao0 : Option Addr, v = .tuple #[.pointer ao0, .int .i64 r.2] ∧ St A N w w' [oR ao0 r.1] []) := by
 unfold ref03_From.f at H
 refine calls_of_wc (n := 32) fn_ref03_From rfl rfl (by simp) (wc_seq (wc_region ?_))
 replace S := S.add (Ext.refl _) (oR.nil _) (fun _ x => x.elim)
 refine wd (does_as_p rfl) (wd (does_as_i rfl) (wl_nil (wc_seq (wc_region (wd (does_build bu_RTab Bld.nil) ?_)))))
 refine wl_box_agg rfl (by decide) fun b2 w1 hw1 => ?_
 replace S : St A N w w1 [oR (some ⟨b2, 0, none⟩) (some []), oR none none] [fS 4 Nd.C s_0 a0] := ((S.nil T_Nd 4 Nd.C).new hw1).shutR rfl
 refine wd (does_as_p rfl) (wl_nil (wc_seq (wc_seq (wc_region (wd (does_as_i rfl) (wl_nil ?_))))))
 obtain ⟨o3, e3, Ho3⟩ := bind_ex H
 clear H
 refine wc_cutq [2, 3, 5, 6, 7, 10, 11, 12, 13, 14, 15, 16, 17, 18, 19, 20, 21, 22, 23, 24, 25, 26, 27, 28, 29, 30] (fun fr W => ∃ s3 : Tb, o3 = .inl s3 ∧ St A N w W [oR (some ⟨b2, 0, none⟩) s3, oR none none] [fS 4 Nd.C s_0 a0]) ?_ ?_
 ·refine wc_block ?_
  refine wc_loopm (α := Nat × Int × Tb) [2, 3, 5, 6, 7, 10, 11, 12, 13, 14, 15, 16, 17, 18, 19, 20, 21, 22, 23, 24, 25, 26, 27, 28, 29, 30] (fun x fr W => (x.1 : Int) = (a0.length : Int) - x.2.1 ∧ 0 ≤ x.2.1 ∧ forN (fun i s => ref03_From.b0 a0 i s) x.1 x.2.1 x.2.2 = some o3 ∧ fr 5 = .int .i64 x.2.1 ∧ St A N w W [oR (some ⟨b2, 0, none⟩) (x.2.2), oR none none] [fS 4 Nd.C s_0 a0]) (fun x => x.1) (((a0.length : Int) - 0).toNat, 0, (some [])) ⟨(by dsimp only; have hle := Int.natCast_nonneg (a0.length); omega), (Int.le_refl _), (by dsimp only; exact e3), rfl, S⟩ ?_
  rintro ⟨m3, i3, x3_0⟩ g3 u3 ⟨hm3, hl3, e3, q3_i, S⟩
  try dsimp only at hm3
  try dsimp only at hl3
  try dsimp only at e3
  try dsimp only at S
  try dsimp only at q3_i
  refine wc_seq (wc_seq (wc_region (wd (does_mv_i q3_i) (wd (does_mv_l rfl) (wd (does_lenR sl_L_api_Node rfl (S.rd 0)) (wd (does_lt rfl rfl) (wl_nil ?_)))))))
  refine wc_if rfl (fun hc4 => ?_) (fun hc4 => ?_)
  rotate_left
  ·refine wc_exit ?_
   have hge : (a0.length : Int) ≤ i3 := Int.not_lt.1 (of_decide_eq_false hc4)
   obtain rfl : m3 = 0 := by omega
   replace e3 := forN_0 e3
   exact ⟨rfl, (((((Dif.self _ _ _).upd rfl _).upd rfl _).upd rfl _).upd rfl _), x3_0, e3, S⟩
  refine wc_skip ?_
  have hlt3 : i3 < (a0.length : Int) := of_decide_eq_true hc4
  obtain ⟨m3, rfl⟩ : ∃ m, m3 = m + 1 := ⟨m3 - 1, by omega⟩
  obtain ⟨q3, H, e3⟩ := forN_s e3
  unfold ref03_From.b0 at H
  try dsimp only at H
  have hb3 := (S.len 0)
  refine wc_seq ?_
  refine wc_block (wc_seq (wc_region (wd (does_mv_p rfl) (wd (does_mv_l rfl) (wd (does_mv_i q3_i) (wd (does_indexR sl_L_api_Node rfl rfl (S.rd 0) (And.intro (show 0 ≤ i3 by omega) (show i3 < (a0.length : Int) from hlt3)).1 (And.intro (show 0 ≤ i3 by omega) (show i3 < (a0.length : Int) from hlt3)).2) (wd (does_load_agg ag_Nd rfl ((S.rd 0).at (at_some Nd.z (And.intro (show 0 ≤ i3 by omega) (show i3 < (a0.length : Int) from hlt3)))) (Nd.len _)) ?_)))))))
  obtain ⟨r6, er6, H⟩ := bind_ex H
  obtain ⟨B8, MB8, SB8, back⟩ := S.calln 1 ((.nil))
  refine wl_call (does_call ca_ref03_T_Put) (by decide) (ref03_T_Put_st SB8 er6) ?_
  rintro _ w7 ⟨rfl, S2⟩
  replace S := back _ _ _ _ S2 rfl
  clear back S2 SB8
  refine wd (does_mv_t rfl) (wd (does_extract rfl rfl) (wd (does_extract rfl rfl) (wd (does_as_i rfl) (wd (does_as_i rfl) (wl_nil (wc_seq (wc_seq (wc_region (wd (does_mv_i rfl) (wd (does_ne rfl rfl) (wl_nil ?_)))))))))))
  refine wc_if rfl (fun hc9 => ?_) (fun hc9 => ?_)
  ·replace H := if_t hc9 H
   refine wc_seq (wc_region (wd (does_mv_i rfl) ?_))
   replace S := S.add (Ext.refl _) (oR.nil _) (fun _ x => x.elim)
   refine wd (does_as_p rfl) (wd (does_as_i rfl) (wl_nil (wc_ret ?_)))
   refine ⟨_, (rets2 (retOne_tmp rfl) (retOne_tmp rfl)), ?_⟩
   replace S := S.arr [0] []
   obtain rfl := Option.some.inj H
   obtain rfl := e3
   obtain rfl := aft_r Ho3
   exact ⟨none, rfl, S⟩
  replace H := if_f hc9 H
  refine wc_skip (wc_seq (wc_region (wd (does_mv_i rfl) (wd (does_mv_i q3_i) (wd (does_ne rfl rfl) (wl_nil ?_))))))
  refine wc_if rfl (fun hc10 => ?_) (fun hc10 => ?_)
  ·replace H := if_t hc10 H
   refine wc_seq (wc_region ?_)
   replace S := S.add (Ext.refl _) (oR.nil _) (fun _ x => x.elim)
   refine wd (does_as_p rfl) (wd (does_as_i rfl) (wl_nil (wc_ret ?_)))
   refine ⟨_, (rets2 (retOne_tmp rfl) (retOne_tmp rfl)), ?_⟩
   replace S := S.arr [0] []
   obtain rfl := Option.some.inj H
   obtain rfl := e3
   obtain rfl := aft_r Ho3
   exact ⟨none, rfl, S⟩
  replace H := if_f hc10 H
  refine wc_skip (wc_region (wd (does_mv_i q3_i) (wd (does_addc rfl rfl (c := i3 + 1) rfl (by omega) (by omega)) (wd (does_as_i rfl) (wl_nil ?_)))))
  obtain rfl := Option.some.inj H
  exact ⟨rfl, ((((((((((((((((((((((((Dif.self _ _ _).upd rfl _).upd rfl _).upd rfl _).upd rfl _).upd rfl _).upd rfl _).upd rfl _).upd rfl _).upd rfl _).upd rfl _).upd rfl _).upd rfl _).upd rfl _).upd rfl _).upd rfl _).upd rfl _).upd rfl _).upd rfl _).upd rfl _).upd rfl _).upd rfl _).upd rfl _).upd rfl _), (m3, i3 + 1, r6.1), ⟨(by dsimp only; omega), (by dsimp only; omega), e3, rfl, S⟩, by dsimp only; omega⟩
 rintro g11 u12 ⟨s3, rfl, S⟩
 have H := Ho3
 dsimp only [aft] at H
 refine wc_seq (wc_region (wd (does_mv_p rfl) (wd (does_as_p rfl) (wd (does_as_i rfl) (wl_nil (wc_ret ?_))))))
 refine ⟨_, (rets2 (retOne_tmp rfl) (retOne_tmp rfl)), ?_⟩
 replace S := S.arr [0] []
 obtain rfl := Option.some.inj H
 exact ⟨(some ⟨b2, 0, none⟩), rfl, S⟩
theorem law03_Like_st {A : Nat → Prop} {N : Oth} {w : World} {a0 : Tb} {a_0 : Option Addr} {a1 : Tb} {a_1 : Option Addr} (S : St A N w w [] [oT a_0 a0, oR a_1 a1]) {r : Bool} (H : law03_Like.f a0 a1 = some r) :
  Calls PP F_law03_Like #[.pointer a_0, .pointer a_1] w fun e w' => ∃ v, e = .returned v ∧ (v = .bool r ∧ St A N w w' [] []) := by
 unfold law03_Like.f at H
 refine calls_of_wc (n := 22) fn_law03_Like rfl rfl (by simp) (wc_seq (wc_region (wd (does_as_b rfl) (wl_nil (wc_seq ?_)))))
 obtain ⟨ht8, H⟩ := chk_ex H
 obtain ⟨p9, s10, hp11, S⟩ := S.seeR 1 ht8
 replace S := S
 refine wc_ws hmix fun w12 K => ?_
 replace S := S.ext K
 clear K
 obtain ⟨r13, er13, H⟩ := bind_ex H
 refine ws_semi 0 6 [1] (by kernel_rfl) (by decide) (by kernel_rfl)
  (V := fun i v u => match i with
  | 1 => ∃ sl, v = SlV.v sl ∧ (Rd u 4 sl (r13.map Nd.C) ∧ r13.length ≤ 140737488355328) ∧ (∀ j, sl.fp j → w12.heap.size ≤ j)
  | _ => True) ?_ ?_
 ·intro i v u u' hi hx hv
  match i, hv with
  | 1, ⟨b, e1, hr, hl⟩ => exact ⟨b, e1, ⟨hr.1.ext hx, hr.2⟩, hl⟩
  | 0, _ => exact trivial
  | _ + 2, _ => exact trivial
 refine wm_does (fun v K => does_mv_p rfl) rfl ?_
 refine wm_newcall (fun g v K G => (have ⟨M, SS⟩ := (S.ext K).lend ((.z 2 rfl .nil)); ⟨_, _, does_callg ca_formula_Table_Rows (cons2 rfl rfl), newc (formula_Table_Rows_st SS er13) fun _ _ ⟨s', hv, h⟩ => ⟨h.frame, s', hv, h.newS.1, fun i hi => by have := h.newS.2 i hi; have := K.size; omega⟩⟩)) rfl (wm_does (fun v K => does_mv_p rfl) rfl (wm_does (fun v K => does_nilCheck (congrArg Value.pointer hp11)) rfl (wm_does (fun v K => does_fieldAddr fl_RTab_n rfl (o' := 0) rfl) rfl (wm_does (fun v K => does_load on_L_api_Node rfl (((S.ext K).blkZ 0).cell (RTab.get_n _))) rfl ?_))))
 refine wm_nil fun g w15 K hV => ?_
 obtain ⟨s14, hv161, hr1, hf1⟩ := hV 1 rfl (by decide)
 replace S := S.addZs K (.s hr1.1 hr1.2 hf1 .nil)
 clear K hV
 refine ws_chain 6 8 (by kernel_rfl) (by decide) ?_
 obtain ⟨r17, er17, H⟩ := bind_ex H
 obtain ⟨B19, MB19, SB19, back⟩ := S.calln 0 ((.z 0 rfl (.z 2 rfl .nil)))
 refine wl_call (does_callg ca_ref03_Same (cons2 hv161 (cons2 rfl rfl))) (by decide) (ref03_Same_st SB19 er17) ?_
 rintro _ w18 ⟨rfl, S2⟩
 replace S := back _ _ _ _ S2 rfl
 clear back S2 SB19
 refine wd (does_mv_b rfl) (wl_nil ⟨rfl, ?_⟩)
 obtain ⟨r20, er20, H⟩ := bind_ex H
 refine ws_semi 8 15 [] (by kernel_rfl) (by decide) (by kernel_rfl)
  (V := fun i v u => match i with
  | _ => True) ?_ ?_
 ·intro i v u u' hi hx hv
  match i, hv with
  | _, _ => exact trivial
 refine wm_guard (j := 7) (pol := true) rfl rfl rfl (fun hg v K => does_mv_p rfl) rfl ?_
 refine wm_gcall (j := 7) (pol := true) rfl rfl rfl (fun hg v => does_callg ca_formula_Table_Len (cons2 (gv_yes hg) rfl)) (fun hg v K => (have ⟨M, SS⟩ := (S.ext K).lend ((.z 3 rfl .nil)); quiet (formula_Table_Len_st SS (if_t (by simpa using hg) er20)) (fun v w' h => ⟨h.1, _, _, h.2⟩))) rfl ?_
 refine wm_guard (j := 7) (pol := true) rfl rfl rfl (fun hg v K => does_mv_p rfl) rfl ?_
 refine wm_guard (j := 7) (pol := true) rfl rfl rfl (fun hg v K => does_nilCheck (((gv_yes hg) : _ = Value.pointer a_1).trans (congrArg Value.pointer hp11))) rfl ?_
 refine wm_guard (j := 7) (pol := true) rfl rfl rfl (fun hg v K => does_fieldAddr fl_RTab_n (gv_yes hg) (o' := 0) rfl) rfl ?_
 refine wm_guard (j := 7) (pol := true) rfl rfl rfl (fun hg v K => does_load on_L_api_Node (gv_yes hg) (((S.ext K).blkZ 1).cell (RTab.get_n _))) rfl ?_
 refine wm_guard (j := 7) (pol := true) rfl rfl rfl (fun hg v K => does_lenR sl_L_api_Node (gv_yes hg) ((S.ext K).rd 2)) rfl ?_
 refine wm_nil fun g w21 K hV => ?_
 replace S := S.ext K
 clear K hV
 refine ws_tail 15 (by kernel_rfl) (by decide) (wg (fun hg => does_eq (gv_yes hg) (gv_yes hg)) (wd (does_and rfl (fun hp => (gv_yes (and_1 hp)))) (wd (does_as_b rfl) ?_)))
 replace S := S.zs [0, 3, 4]
 refine wl_nil (wc_ret ?_)
 refine ⟨_, (rets1 (retOne_tmp rfl)), ?_⟩
 replace S := S.arr [] []
 obtain rfl := Option.some.inj H
 exact ⟨rfl, S⟩
theorem law03_Both_st {A : Nat → Prop} {N : Oth} {w : World} {a0 : List Nd} {s_0 : SlV} (S : St A N w w [] [fS 4 Nd.C s_0 a0]) {r : Tb × Tb × Bool} (H : law03_Both.f a0 = some r) :
  Calls PP F_law03_Both #[s_0.v] w fun e w' => ∃ v, e = .returned v ∧ (∃ ao0 : Option Addr, ∃ ao1 : Option Addr, v = .tuple #[.pointer ao0, .pointer ao1, .bool r.2.2] ∧ St A N w w' [oT ao0 r.1, oR ao1 r.2.1] []) := by
 unfold law03_Both.f at H
 refine calls_of_wc (n := 27) fn_law03_Both rfl rfl (by simp) (wc_seq (wc_region ?_))
 replace S := S.add (Ext.refl _) (oT.nil _) (fun _ x => x.elim)
 refine wd (does_as_p rfl) ?_
 replace S := S.add (Ext.refl _) (oR.nil _) (fun _ x => x.elim)
 refine wd (does_as_p rfl) (wd (does_as_b rfl) (wl_nil (wc_seq (wc_region ?_))))
 refine wl_lits (C := Nd.C) (l := ([] : List Nd)) (vs := []) sl_L_api_Node el_Nd.zero rfl rfl (fun a _ => Nd.len a) (by decide) rfl (by decide) fun b2 w1 s3 hBw1 hw1 => ?_
 replace S := S.lit hBw1 hw1 (by simp)
 refine wd (does_mv_l rfl) ?_
 obtain ⟨ha6, H⟩ := chk_ex H
 have ha6 := of_decide_eq_true ha6
 refine wl_appendm (C := Nd.C) sl_L_api_Node el_Nd rfl rfl (S.sl 0) (S.rd 0) Nd.one ha6 (by omega) (by decide) fun s5 w4 O hw4 gw4 => ?_
 replace S := S.push 0 O (by first | (simp; done) | (simp; omega)) hw4 gw4
 clear O
 refine wd (does_as_l rfl) (wl_nil (wc_seq (wc_region (wd (does_mv_l rfl) ?_))))
 obtain ⟨r7, er7, H⟩ := bind_ex H
 obtain ⟨B9, MB9, SB9, back⟩ := S.calln 0 ((.z 0 rfl .nil))
 refine wl_call (does_call ca_ref03_From) (by decide) (ref03_From_st SB9 er7) ?_
 rintro _ w8 ⟨a10, rfl, S2⟩
 replace S := back _ _ _ _ S2 rfl
 clear back S2 SB9
 refine wd (does_mv_t rfl) (wd (does_extract rfl rfl) (wd (does_extract rfl rfl) (wd (does_as_p rfl) (wd (does_as_i rfl) (wl_nil (wc_seq (wc_seq (wc_region (wd (does_mv_i rfl) (wd (does_ne rfl rfl) (wl_nil ?_)))))))))))
 refine wc_if rfl (fun hc11 => ?_) (fun hc11 => ?_)
 ·replace H := if_t hc11 H
  refine wc_seq (wc_region ?_)
  replace S := S.add (Ext.refl _) (oT.nil _) (fun _ x => x.elim)
  refine wd (does_as_p rfl) ?_
  replace S := S.add (Ext.refl _) (oR.nil _) (fun _ x => x.elim)
  refine wd (does_as_p rfl) (wd (does_as_b rfl) (wl_nil (wc_ret ?_)))
  refine ⟨_, (rets3 (retOne_tmp rfl) (retOne_tmp rfl) (retOne_tmp rfl)), ?_⟩
  replace S := S.arr [1, 0] []
  obtain rfl := Option.some.inj H
  exact ⟨none, none, rfl, S⟩
 replace H := if_f hc11 H
 refine wc_skip (wc_seq (wc_region (wd (does_mv_l rfl) ?_)))
 obtain ⟨r12, er12, H⟩ := bind_ex H
 obtain ⟨B14, MB14, SB14, back⟩ := S.calln 0 ((.s 1 rfl .nil))
 refine wl_call (does_call ca_formula_From) (by decide) (formula_From_st SB14 er12) ?_
 rintro _ w13 ⟨a15, rfl, S2⟩
 replace S := back _ _ _ _ S2 rfl
 clear back S2 SB14
 refine wd (does_mv_t rfl) (wd (does_extract rfl rfl) (wd (does_extract rfl rfl) (wd (does_as_p rfl) (wd (does_as_i rfl) (wl_nil (wc_seq (wc_region (wd (does_mv_p rfl) (wd (does_mv_p rfl) (wd (does_as_p rfl) (wd (does_as_p rfl) (wd (does_as_b rfl) (wl_nil (wc_ret ?_))))))))))))))
 refine ⟨_, (rets3 (retOne_tmp rfl) (retOne_tmp rfl) (retOne_tmp rfl)), ?_⟩
 replace S := S.arr [0, 1] []
 obtain rfl := Option.some.inj H
 exact ⟨a15, a10, rfl, S⟩
end Go.Proofs.YtjjkhjieegmphaaDoor
end
section
namespace Go.Proofs.YtjjkhjieegmphaaDoor
open Gw Go.RowKit
set_option maxHeartbeats 4000000
theorem law11_heads_st {A : Nat → Prop} {N : Oth} {w : World}  (S : St A N w w [] [oTz]) {k : Nat} {r : Bool} (H : law11_heads.f k  = some r) :
  Calls PP F_law11_heads #[] w fun e w' => ∃ v, e = .returned v ∧ (v = .bool r ∧ St A N w w' [] []) := by
 unfold law11_heads.f at H
 refine calls_of_wc (n := 119) fn_law11_heads rfl rfl (by simp) (wc_seq (wc_region (wd (does_as_b rfl) (wl_nil (wc_seq (wc_region (wd (does_build bu_Nd (Bld.one rfl rfl (by rw [Nd.len]; decide) (Nd.set_kind _ _) (Bld.one rfl rfl (by rw [Nd.len]; decide) (Nd.set_name _ _) Bld.nil))) (wd (does_build bu_Nd (Bld.one rfl rfl (by rw [Nd.len]; decide) (Nd.set_kind _ _) (Bld.one rfl rfl (by rw [Nd.len]; decide) (Nd.set_name _ _) Bld.nil))) (wd (does_build bu_Nd (Bld.one rfl rfl (by rw [Nd.len]; decide) (Nd.set_kind _ _) Bld.nil)) (wd (does_build bu_Nd (Bld.one rfl rfl (by rw [Nd.len]; decide) (Nd.set_kind _ _) (Bld.one rfl rfl (by rw [Nd.len]; decide) (Nd.set_l _ _) (Bld.one rfl rfl (by rw [Nd.len]; decide) (Nd.set_r _ _) Bld.nil)))) (wd (does_build bu_Nd (Bld.one rfl rfl (by rw [Nd.len]; decide) (Nd.set_kind _ _) (Bld.one rfl rfl (by rw [Nd.len]; decide) (Nd.set_l _ _) (Bld.one rfl rfl (by rw [Nd.len]; decide) (Nd.set_r _ _) Bld.nil)))) (wd (does_build bu_Nd (Bld.one rfl rfl (by rw [Nd.len]; decide) (Nd.set_kind _ _) (Bld.one rfl rfl (by rw [Nd.len]; decide) (Nd.set_l _ _) (Bld.one rfl rfl (by rw [Nd.len]; decide) (Nd.set_r _ _) Bld.nil)))) ?_))))))))))))
 refine wl_lits (C := Nd.C) (l := [{ Nd.z with kind := 1, name := (⟨#[112]⟩ : ByteArray) }, { Nd.z with kind := 1, name := (⟨#[113]⟩ : ByteArray) }, { Nd.z with kind := 2 }, { Nd.z with kind := 4, l := 0, r := 1 }, { Nd.z with kind := 5, l := 0, r := 2 }, { Nd.z with kind := 4, l := 0, r := 4 }]) (vs := [.agg (Nd.C ({ Nd.z with kind := 1, name := (⟨#[112]⟩ : ByteArray) })).toArray, .agg (Nd.C ({ Nd.z with kind := 1, name := (⟨#[113]⟩ : ByteArray) })).toArray, .agg (Nd.C ({ Nd.z with kind := 2 })).toArray, .agg (Nd.C ({ Nd.z with kind := 4, l := 0, r := 1 })).toArray, .agg (Nd.C ({ Nd.z with kind := 5, l := 0, r := 2 })).toArray, .agg (Nd.C ({ Nd.z with kind := 4, l := 0, r := 4 })).toArray]) sl_L_api_Node el_Nd.zero rfl rfl (fun a _ => Nd.len a) (by decide) rfl (by decide) fun b2 w1 s3 hBw1 hw1 => ?_
 replace S := S.lit hBw1 hw1 (by simp)
 obtain ⟨r4, er4, H⟩ := bind_ex H
 obtain ⟨B6, MB6, SB6, back⟩ := S.calln 0 ((.s 0 rfl .nil))
 refine wl_call (does_call ca_formula_From) (by decide) (formula_From_st SB6 er4) ?_
 rintro _ w5 ⟨a7, rfl, S2⟩
 replace S := back _ _ _ _ S2 rfl
 clear back S2 SB6
 refine wd (does_mv_t rfl) (wd (does_extract rfl rfl) (wd (does_extract rfl rfl) (wd (does_as_p rfl) (wd (does_as_i rfl) (wl_nil (wc_seq (wc_region (wd (does_mv_p rfl) (wd (does_build bu_Sq (Bld.one rfl rfl (by rw [Sq.len]; decide) (Sq.set_goal _ _) Bld.nil)) ?_)))))))))
 obtain ⟨r8, er8, H⟩ := bind_ex H
 obtain ⟨B10, MB10, SB10, back⟩ := S.calln 1 ((.z 0 rfl .nil))
 refine wl_call (does_call ca_search_Run) (by decide) (search_Run_st SB10 er8) ?_
 rintro _ w9 ⟨s11, rfl, S2⟩
 replace S := back _ _ _ _ S2 rfl
 clear back S2 SB10
 refine wd (does_mv_t rfl) (wd (does_extract rfl rfl) (wd (does_extract rfl rfl) ?_))
 refine wl_alloc ze_Found (by decide) fun b13 w12 hw12 => ?_
 replace S := S.new hw12
 refine wl_store_agg ag_Found rfl rfl (S.blk 0) (Found.len _) (by rw [Found.len]; decide) (Found.one _) (store_all (Found.len _)) fun w14 B hw14 zw14 => ?_
 replace S := S.store 0 B hw14
 clear B
 refine wd (does_as_i rfl) (wl_nil (wc_seq (wc_region (wd (does_mv_p rfl) (wd (does_build bu_Sq (Bld.one rfl rfl (by rw [Sq.len]; decide) (Sq.set_goal _ _) Bld.nil)) ?_)))))
 obtain ⟨r15, er15, H⟩ := bind_ex H
 replace S := S.front 1
 obtain ⟨B17, MB17, SB17, back⟩ := S.calln 1 ((.z 0 rfl .nil))
 refine wl_call (does_call ca_search_Run) (by decide) (search_Run_st SB17 er15) ?_
 rintro _ w16 ⟨s18, rfl, S2⟩
 replace S := back _ _ _ _ S2 rfl
 clear back S2 SB17
 refine wd (does_mv_t rfl) (wd (does_extract rfl rfl) (wd (does_extract rfl rfl) ?_))
 refine wl_alloc ze_Found (by decide) fun b20 w19 hw19 => ?_
 replace S := S.new hw19
 refine wl_store_agg ag_Found rfl rfl (S.blk 0) (Found.len _) (by rw [Found.len]; decide) (Found.one _) (store_all (Found.len _)) fun w21 B hw21 zw21 => ?_
 replace S := S.store 0 B hw21
 clear B
 refine wd (does_as_i rfl) (wl_nil (wc_seq (wc_region (wd (does_mv_p rfl) (wd (does_buildc (vs := [(0, .int .u64 1)]) (out := Bits.C (Bits.put Bits.z 0 1)) (consP rfl rfl) (by kernel_rfl)) (wd (does_build bu_Sq (Bld.step rfl (congrArg Value.cells rfl) (Bits.len _) (by rw [Sq.len]; decide) (Sq.put_left _ _) (Bld.one rfl rfl (by rw [Sq.len]; decide) (Sq.set_goal _ _) Bld.nil))) ?_))))))
 obtain ⟨r22, er22, H⟩ := bind_ex H
 replace S := S.front 1
 obtain ⟨B24, MB24, SB24, back⟩ := S.calln 1 ((.z 0 rfl .nil))
 refine wl_call (does_call ca_search_Run) (by decide) (search_Run_st SB24 er22) ?_
 rintro _ w23 ⟨s25, rfl, S2⟩
 replace S := back _ _ _ _ S2 rfl
 clear back S2 SB24
 refine wd (does_mv_t rfl) (wd (does_extract rfl rfl) (wd (does_extract rfl rfl) ?_))
 refine wl_alloc ze_Found (by decide) fun b27 w26 hw26 => ?_
 replace S := S.new hw26
 refine wl_store_agg ag_Found rfl rfl (S.blk 0) (Found.len _) (by rw [Found.len]; decide) (Found.one _) (store_all (Found.len _)) fun w28 B hw28 zw28 => ?_
 replace S := S.store 0 B hw28
 clear B
 refine wd (does_as_i rfl) (wl_nil (wc_seq (wc_seq (wc_region (wd (does_mv_i rfl) (wd (does_ne rfl rfl) (wd (does_mv_b rfl) (wg (fun hg => does_mv_i rfl) (wg (fun hg => does_ne (gv_yes hg) rfl) (wd (does_or rfl (fun hp => (gv_yes (and_1 hp)))) (wd (does_mv_b rfl) (wg (fun hg => does_mv_i rfl) (wg (fun hg => does_ne (gv_yes hg) rfl) (wd (does_or rfl (fun hp => (gv_yes (and_1 hp)))) (wd (does_mv_b rfl) (wg (fun hg => does_mv_i rfl) (wg (fun hg => does_ne (gv_yes hg) rfl) (wd (does_or rfl (fun hp => (gv_yes (and_1 hp)))) (wd (does_mv_b rfl) (wg (fun hg => does_fieldAddr fl_Found_proved rfl (o' := 0) rfl) (wg (fun hg => does_load on_bool (gv_yes hg) ((S.blk 5).cell (Found.get_proved _))) (wd (does_or rfl (fun hp => (gv_yes (and_1 hp)))) (wd (does_mv_b rfl) (wg (fun hg => does_fieldAddr fl_Found_visits rfl (o' := 2) rfl) (wg (fun hg => does_load on_int (gv_yes hg) ((S.blk 5).cell (Found.get_visits _))) (wg (fun hg => does_ne (gv_yes hg) rfl) (wd (does_or rfl (fun hp => (gv_yes (and_1 hp)))) (wd (does_mv_b rfl) (wg (fun hg => does_fieldAddr fl_Found_steps rfl (o' := 1) rfl) (wg (fun hg => does_load on_L_api_Step (gv_yes hg) ((S.blk 5).cell (Found.get_steps _))) (wg (fun hg => does_lenD sl_L_api_Step (gv_yes hg) (S.onO 6)) (wg (fun hg => does_ne (gv_yes hg) rfl) (wd (does_or rfl (fun hp => (gv_yes (and_1 hp)))) (wd (does_mv_b rfl) (wg (fun hg => does_fieldAddr fl_Found_proved rfl (o' := 0) rfl) (wg (fun hg => does_load on_bool (gv_yes hg) ((S.blk 0).cell (Found.get_proved _))) (wg (fun hg => does_not (gv_yes hg)) (wd (does_or rfl (fun hp => (gv_yes (and_1 hp)))) (wd (does_mv_b rfl) (wg (fun hg => does_fieldAddr fl_Found_steps rfl (o' := 1) rfl) (wg (fun hg => does_load on_L_api_Step (gv_yes hg) ((S.blk 0).cell (Found.get_steps _))) (wg (fun hg => does_lenD sl_L_api_Step (gv_yes hg) (S.onO 2)) (wg (fun hg => does_ne (gv_yes hg) rfl) (wd (does_or rfl (fun hp => (gv_yes (and_1 hp)))) (wl_nil ?_)))))))))))))))))))))))))))))))))))))))))))))
 refine wc_if rfl (fun hc29 => ?_) (fun hc29 => ?_)
 ·replace H := if_t hc29 H
  refine wc_seq (wc_region (wd (does_as_b rfl) (wl_nil (wc_ret ?_))))
  refine ⟨_, (rets1 (retOne_tmp rfl)), ?_⟩
  replace S := S.arr [] []
  obtain rfl := Option.some.inj H
  exact ⟨rfl, S⟩
 replace H := if_f hc29 H
 refine wc_skip (wc_seq (wc_region (wd (does_fieldAddr fl_Found_steps rfl (o' := 1) rfl) (wd (does_load on_L_api_Step rfl ((S.blk 5).cell (Found.get_steps _))) ?_))))
 obtain ⟨hi30, H⟩ := chk_ex H
 refine wd (does_indexD sl_L_api_Step rfl rfl (S.onO 6) (inb_ex hi30).1 (inb_ex hi30).2) (wd (does_fieldAddr fl_Step_rule rfl (o' := _) rfl) (wd (does_load on_api_Rule rfl (oD.cell (z := PStep.z) (S.onO 6) (inb_ex hi30) (fun _ => rStep.get_rule))) (wd (does_eq rfl rfl) (wd (does_mv_b rfl) (wg (fun hg => does_fieldAddr fl_Found_steps rfl (o' := 1) rfl) (wg (fun hg => does_load on_L_api_Step (gv_yes hg) ((S.blk 5).cell (Found.get_steps _))) ?_))))))
 obtain ⟨hi31, H⟩ := chk_g H
 refine wg (fun hg => does_indexD sl_L_api_Step (gv_yes hg) rfl (S.onO 6) (inb_ex (hi31 (by simpa using hg))).1 (inb_ex (hi31 (by simpa using hg))).2) (wg (fun hg => does_fieldAddr fl_Step_kids (gv_yes hg) (o' := _) rfl) ?_)
 obtain ⟨hg32, H⟩ := chk_ex H
 refine wl_gon (j := 6) (pol := true) rfl rfl rfl (by decide) (by simpa using hg32) ?_
 replace S := S.frzO 6
 obtain ⟨s33, hc34, S⟩ := S.viewStep 0 (inb_ex (hi31 (by simpa using hg32)))
 replace S := S
 refine wd (does_load on_L_int (gv_yes (by simpa using hg32)) (hc34.get (Step.get_kids _))) ?_
 obtain ⟨hg35, H⟩ := chk_ex H
 refine wl_gon (j := 6) (pol := true) rfl rfl rfl (by decide) (by simpa using hg35) ?_
 refine wl_lits (C := IC) (l := [1]) (vs := [.int .i64 1]) sl_L_int el_int.zero rfl rfl (fun _ _ => rfl) (by decide) rfl (by decide) fun b37 w36 s38 hBw36 hw36 => ?_
 replace S := S.lit hBw36 hw36 (by simp)
 obtain ⟨r39, er39, H⟩ := bind_ex H
 refine wl_gcall (j := 6) (pol := true) rfl rfl rfl (by decide) (fun hg => does_callg ca_ref03_Ints (cons2 rfl (cons2 rfl rfl))) (by decide) (fun hg => (have ⟨M, SS⟩ := S.lend ((.z 0 rfl (.s 0 rfl .nil))); quiet (ref03_Ints_st SS (if_t (by simpa using hg) er39)) (fun v w' h => ⟨h.1, _, _, h.2⟩))) fun w40 hw40 => ?_
 replace S := S.ext hw40
 refine wd (does_and rfl (fun hp => (gv_yes (and_1 hp)))) (wd (does_mv_b rfl) (wg (fun hg => does_fieldAddr fl_Found_steps rfl (o' := 1) rfl) (wg (fun hg => does_load on_L_api_Step (gv_yes hg) ((S.blk 6).cell (Found.get_steps _))) ?_)))
 obtain ⟨hi41, H⟩ := chk_g H
 refine wg (fun hg => does_indexD sl_L_api_Step (gv_yes hg) rfl (S.onZ 1) (inb_ex (hi41 (by simpa using hg))).1 (inb_ex (hi41 (by simpa using hg))).2) (wg (fun hg => does_fieldAddr fl_Step_rule (gv_yes hg) (o' := _) rfl) (wg (fun hg => does_load on_api_Rule (gv_yes hg) (oD.cell (z := PStep.z) (S.onZ 1) (inb_ex (hi41 (by simpa using hg))) (fun _ => rStep.get_rule))) (wg (fun hg => does_eq (gv_yes hg) rfl) (wd (does_and rfl (fun hp => (gv_yes (and_1 hp)))) (wd (does_mv_b rfl) (wg (fun hg => does_fieldAddr fl_Found_steps rfl (o' := 1) rfl) (wg (fun hg => does_load on_L_api_Step (gv_yes hg) ((S.blk 6).cell (Found.get_steps _))) ?_)))))))
 obtain ⟨hi42, H⟩ := chk_g H
 refine wg (fun hg => does_indexD sl_L_api_Step (gv_yes hg) rfl (S.onZ 1) (inb_ex (hi42 (by simpa using hg))).1 (inb_ex (hi42 (by simpa using hg))).2) (wg (fun hg => does_fieldAddr fl_Step_kids (gv_yes hg) (o' := _) rfl) ?_)
 obtain ⟨hg43, H⟩ := chk_ex H
 refine wl_gon (j := 23) (pol := true) rfl rfl rfl (by decide) (by simpa using hg43) ?_
 obtain ⟨s44, hc45, S⟩ := S.viewStep 1 (inb_ex (hi42 (by simpa using hg43)))
 replace S := S
 refine wd (does_load on_L_int (gv_yes (by simpa using hg43)) (hc45.get (Step.get_kids _))) ?_
 obtain ⟨hg46, H⟩ := chk_ex H
 refine wl_gon (j := 23) (pol := true) rfl rfl rfl (by decide) (by simpa using hg46) ?_
 refine wl_lits (C := IC) (l := [0, 2]) (vs := [.int .i64 0, .int .i64 2]) sl_L_int el_int.zero rfl rfl (fun _ _ => rfl) (by decide) rfl (by decide) fun b48 w47 s49 hBw47 hw47 => ?_
 replace S := S.lit hBw47 hw47 (by simp)
 obtain ⟨r50, er50, H⟩ := bind_ex H
 refine wl_gcall (j := 23) (pol := true) rfl rfl rfl (by decide) (fun hg => does_callg ca_ref03_Ints (cons2 rfl (cons2 rfl rfl))) (by decide) (fun hg => (have ⟨M, SS⟩ := S.lend ((.z 0 rfl (.s 0 rfl .nil))); quiet (ref03_Ints_st SS (if_t (by simpa using hg) er50)) (fun v w' h => ⟨h.1, _, _, h.2⟩))) fun w51 hw51 => ?_
 replace S := S.ext hw51
 refine wd (does_and rfl (fun hp => (gv_yes (and_1 hp)))) (wd (does_mv_b rfl) (wg (fun hg => does_fieldAddr fl_Found_steps rfl (o' := 1) rfl) (wg (fun hg => does_load on_L_api_Step (gv_yes hg) ((S.blk 2).cell (Found.get_steps _))) ?_)))
 obtain ⟨hi52, H⟩ := chk_g H
 refine wg (fun hg => does_indexD sl_L_api_Step (gv_yes hg) rfl (S.onO 4) (inb_ex (hi52 (by simpa using hg))).1 (inb_ex (hi52 (by simpa using hg))).2) (wg (fun hg => does_fieldAddr fl_Step_rule (gv_yes hg) (o' := _) rfl) (wg (fun hg => does_load on_api_Rule (gv_yes hg) (oD.cell (z := PStep.z) (S.onO 4) (inb_ex (hi52 (by simpa using hg))) (fun _ => rStep.get_rule))) (wg (fun hg => does_eq (gv_yes hg) rfl) (wd (does_and rfl (fun hp => (gv_yes (and_1 hp)))) (wd (does_as_b rfl) (wl_nil (wc_ret ?_)))))))
 refine ⟨_, (rets1 (retOne_tmp rfl)), ?_⟩
 replace S := S.arr [] []
 obtain rfl := Option.some.inj H
 exact ⟨rfl, S⟩
end Go.Proofs.YtjjkhjieegmphaaDoor
end
section
namespace Go.Proofs.YtjjkhjieegmphaaDoor
open Gw Go.RowKit
theorem ref09_to_st {A : Nat → Prop} {N : Oth} {w : World} {a0 : Sq} {a1 : Int} (S : St A N w w [] []) {r : Sq} (H : ref09_to.f a0 a1 = some r) :
  Calls PP F_ref09_to #[.agg (Sq.C a0).toArray, .int .i64 a1] w fun e w' => ∃ v, e = .returned v ∧ (v = .agg (Sq.C r).toArray ∧ St A N w w' [] []) := by
 unfold ref09_to.f at H
 refine calls_of_wc (n := 8) fn_ref09_to rfl rfl (by simp) (wc_seq (wc_region ?_))
 refine wl_box_agg rfl (by decide) fun b2 w1 hw1 => ?_
 replace S := S.new hw1
 refine wl_alloc ze_Sq (by decide) fun b4 w3 hw3 => ?_
 replace S := S.new hw3
 refine wl_nil (wc_seq (wc_region (wd (does_mv_i rfl) (wd (does_fieldAddr fl_Sq_goal rfl (o' := 16) rfl) ?_))))
 refine wl_store on_int rfl rfl (S.blk 1) (by rw [Sq.len]; decide) rfl (Sq.set_goal _ _) fun w5 B hw5 zw5 => ?_
 replace S := S.store 1 B hw5
 clear B
 refine wl_nil (wc_seq (wc_region (wd (does_load_agg ag_Sq rfl ((S.blk 0).all _ (Sq.len _)) (Sq.len _)) ?_)))
 refine wl_store_agg ag_Sq rfl rfl (S.blk 1) (Sq.len _) (by rw [Sq.len]; decide) (Sq.one _) (store_all (Sq.len _)) fun w6 B hw6 zw6 => ?_
 replace S := S.store 1 B hw6
 clear B
 refine wl_nil (wc_ret ?_)
 refine ⟨_, (rets1 (retOne_agg ag_Sq rfl ((S.blk 0).all _ (Sq.len _)) (Sq.len _))), ?_⟩
 replace S := S.arr [] []
 obtain rfl := Option.some.inj H
 exact ⟨rfl, S⟩
theorem ref09_with_st {A : Nat → Prop} {N : Oth} {w : World} {a0 : Sq} {a1 : Int} {a2 : Int} (S : St A N w w [] []) {r : Sq} (H : ref09_with.f a0 a1 a2 = some r) :
  Calls PP F_ref09_with #[.agg (Sq.C a0).toArray, .int .i64 a1, .int .i64 a2] w fun e w' => ∃ v, e = .returned v ∧ (v = .agg (Sq.C r).toArray ∧ St A N w w' [] []) := by
 unfold ref09_with.f at H
 refine calls_of_wc (n := 15) fn_ref09_with rfl rfl (by simp) (wc_seq (wc_region ?_))
 refine wl_box_agg rfl (by decide) fun b2 w1 hw1 => ?_
 replace S := S.new hw1
 refine wl_alloc ze_Sq (by decide) fun b4 w3 hw3 => ?_
 replace S := S.new hw3
 refine wl_nil (wc_seq (wc_region (wd (does_fieldAddr fl_Sq_left rfl (o' := 0) rfl) (wd (does_load_agg ag_Bits rfl ((S.blk 1).cells (Sq.sub_left _)) (Bits.len _)) (wd (does_mv_i rfl) ?_)))))
 obtain ⟨r5, er5, H⟩ := bind_ex H
 obtain ⟨B7, MB7, SB7, back⟩ := S.calln 0 ((.nil))
 refine wl_call (does_call ca_ref05_With) (by decide) (ref05_With_st SB7 er5) ?_
 rintro _ w6 ⟨rfl, S2⟩
 replace S := back _ _ _ _ S2 rfl
 clear back S2 SB7
 refine wd (does_mv_i rfl) ?_
 obtain ⟨r8, er8, H⟩ := bind_ex H
 obtain ⟨B10, MB10, SB10, back⟩ := S.calln 0 ((.nil))
 refine wl_call (does_call ca_ref05_With) (by decide) (ref05_With_st SB10 er8) ?_
 rintro _ w9 ⟨rfl, S2⟩
 replace S := back _ _ _ _ S2 rfl
 clear back S2 SB10
 refine wd (does_fieldAddr fl_Sq_left rfl (o' := 0) rfl) ?_
 refine wl_store_agg ag_Bits rfl rfl (S.blk 1) (Bits.len _) (by rw [Sq.len]; decide) (Bits.one _) (Sq.put_left _ _) fun w11 B hw11 zw11 => ?_
 replace S := S.store 1 B hw11
 clear B
 refine wl_nil (wc_seq (wc_region (wd (does_load_agg ag_Sq rfl ((S.blk 0).all _ (Sq.len _)) (Sq.len _)) ?_)))
 refine wl_store_agg ag_Sq rfl rfl (S.blk 1) (Sq.len _) (by rw [Sq.len]; decide) (Sq.one _) (store_all (Sq.len _)) fun w12 B hw12 zw12 => ?_
 replace S := S.store 1 B hw12
 clear B
 refine wl_nil (wc_ret ?_)
 refine ⟨_, (rets1 (retOne_agg ag_Sq rfl ((S.blk 0).all _ (Sq.len _)) (Sq.len _))), ?_⟩
 replace S := S.arr [] []
 obtain rfl := Option.some.inj H
 exact ⟨rfl, S⟩
theorem ref03_T_Two_st {A : Nat → Prop} {N : Oth} {w : World} {a0 : Tb} {a_0 : Option Addr} {a1 : Int} {a2 : Int} {a3 : Int} (S : St A N w w [oR a_0 a0] []) {r : Tb × Int × Int} (H : ref03_T_Two.f a0 a1 a2 a3 = some r) :
  Calls PP F_ref03_T_Two #[.pointer a_0, .int .i64 a1, .int .i64 a2, .int .i64 a3] w fun e w' => ∃ v, e = .returned v ∧ (v = .tuple #[.int .i64 r.2.1, .int .i64 r.2.2] ∧ St A N w w' [oR a_0 r.1] []) := by
 unfold ref03_T_Two.f at H
 refine calls_of_wc (n := 18) fn_ref03_T_Two rfl rfl (by simp) (wc_seq (wc_region (wd (does_as_i rfl) (wd (does_as_i rfl) (wl_nil (wc_seq (wc_region (wd (does_mv_p rfl) (wd (does_mv_i rfl) (wd (does_mv_i rfl) (wd (does_mv_i rfl) (wd (does_build bu_Nd (Bld.one rfl rfl (by rw [Nd.len]; decide) (Nd.set_kind _ _) (Bld.one rfl rfl (by rw [Nd.len]; decide) (Nd.set_l _ _) (Bld.one rfl rfl (by rw [Nd.len]; decide) (Nd.set_r _ _) Bld.nil)))) ?_))))))))))))
 obtain ⟨r1, er1, H⟩ := bind_ex H
 obtain ⟨B3, MB3, SB3, back⟩ := S.calln 1 ((.nil))
 refine wl_call (does_call ca_ref03_T_Put) (by decide) (ref03_T_Put_st SB3 er1) ?_
 rintro _ w2 ⟨rfl, S2⟩
 replace S := back _ _ _ _ S2 rfl
 clear back S2 SB3
 refine wd (does_extract rfl rfl) (wd (does_extract rfl rfl) (wd (does_as_i rfl) (wd (does_as_i rfl) (wl_nil (wc_ret ?_)))))
 refine ⟨_, (rets2 (retOne_tmp rfl) (retOne_tmp rfl)), ?_⟩
 obtain rfl := Option.some.inj H
 exact ⟨rfl, S⟩
theorem ref03_T_Imp_st {A : Nat → Prop} {N : Oth} {w : World} {a0 : Tb} {a_0 : Option Addr} {a1 : Int} {a2 : Int} (S : St A N w w [oR a_0 a0] []) {r : Tb × Int × Int} (H : ref03_T_Imp.f a0 a1 a2 = some r) :
  Calls PP F_ref03_T_Imp #[.pointer a_0, .int .i64 a1, .int .i64 a2] w fun e w' => ∃ v, e = .returned v ∧ (v = .tuple #[.int .i64 r.2.1, .int .i64 r.2.2] ∧ St A N w w' [oR a_0 r.1] []) := by
 unfold ref03_T_Imp.f at H
 refine calls_of_wc (n := 14) fn_ref03_T_Imp rfl rfl (by simp) (wc_seq (wc_region (wd (does_as_i rfl) (wd (does_as_i rfl) (wl_nil (wc_seq (wc_region (wd (does_mv_p rfl) (wd (does_mv_i rfl) (wd (does_mv_i rfl) ?_))))))))))
 obtain ⟨r1, er1, H⟩ := bind_ex H
 obtain ⟨B3, MB3, SB3, back⟩ := S.calln 1 ((.nil))
 refine wl_call (does_call ca_ref03_T_Two) (by decide) (ref03_T_Two_st SB3 er1) ?_
 rintro _ w2 ⟨rfl, S2⟩
 replace S := back _ _ _ _ S2 rfl
 clear back S2 SB3
 refine wd (does_extract rfl rfl) (wd (does_extract rfl rfl) (wd (does_as_i rfl) (wd (does_as_i rfl) (wl_nil (wc_ret ?_)))))
 refine ⟨_, (rets2 (retOne_tmp rfl) (retOne_tmp rfl)), ?_⟩
 obtain rfl := Option.some.inj H
 exact ⟨rfl, S⟩
theorem ref03_T_Cut_st {A : Nat → Prop} {N : Oth} {w : World} {a0 : Tb} {a_0 : Option Addr} {a1 : Int} (S : St A N w w [oR a_0 a0] []) {r : Tb × Int} (H : ref03_T_Cut.f a0 a1 = some r) :
  Calls PP F_ref03_T_Cut #[.pointer a_0, .int .i64 a1] w fun e w' => ∃ v, e = .returned v ∧ (v = .int .i64 r.2 ∧ St A N w w' [oR a_0 r.1] []) := by
 unfold ref03_T_Cut.f at H
 refine calls_of_wc (n := 26) fn_ref03_T_Cut rfl rfl (by simp) (wc_seq (wc_region (wd (does_as_i rfl) (wl_nil (wc_seq (wc_seq (wc_region (wd (does_mv_i rfl) (wd (does_lt rfl rfl) (wd (does_mv_b rfl) (wg (fun hg => does_mv_i rfl) (wg (fun hg => does_mv_p rfl) ?_))))))))))))
 obtain ⟨ht1, H⟩ := chk_ex H
 obtain ⟨p2, s3, hp4, S⟩ := S.openR 0 ht1
 replace S := S
 refine wg (fun hg => does_nilCheck (((gv_yes hg) : _ = Value.pointer a_0).trans (congrArg Value.pointer hp4))) (wg (fun hg => does_fieldAddr fl_RTab_n (gv_yes hg) (o' := 0) rfl) (wg (fun hg => does_load on_L_api_Node (gv_yes hg) ((S.blk 0).cell (RTab.get_n _))) (wg (fun hg => does_lenR sl_L_api_Node (gv_yes hg) (S.rdO 1)) (wg (fun hg => does_gt (gv_yes hg) (gv_yes hg)) (wd (does_or rfl (fun hp => (gv_yes (and_1 hp)))) ?_)))))
 replace S := ((S.front 1).front 1).shutR hp4
 refine wl_nil ?_
 refine wc_if rfl (fun hc5 => ?_) (fun hc5 => ?_)
 ·replace H := if_t hc5 H
  refine wc_seq (wc_region (wd (does_as_i rfl) (wl_nil (wc_ret ?_))))
  refine ⟨_, (rets1 (retOne_tmp rfl)), ?_⟩
  obtain rfl := Option.some.inj H
  exact ⟨rfl, S⟩
 replace H := if_f hc5 H
 refine wc_skip (wc_seq (wc_region (wd (does_mv_p rfl) (wd (does_mv_p rfl) ?_))))
 obtain ⟨p6, s7, hp8, S⟩ := S.openR 0 rfl
 replace S : St A N w w [oB p6 T_RTab (RTab.C ⟨s7⟩), oS T_Nd 4 Nd.C s7 (a0.getD [])] [] := S
 refine wd (does_nilCheck (congrArg Value.pointer hp8)) (wd (does_fieldAddr fl_RTab_n rfl (o' := 0) rfl) (wd (does_load on_L_api_Node rfl ((S.blk 0).cell (RTab.get_n _))) (wd (does_mv_i rfl) (wd (does_mv_i rfl) ?_))))
 obtain ⟨hs9, H⟩ := chk_ex H
 have hs9 := of_decide_eq_true hs9
 refine wd (does_clip sl_L_api_Node rfl rfl rfl (S.sl 1) hs9) ?_
 have hlhs9 := S.lenO 1
 replace S : St A N w w [oS T_Nd 4 Nd.C (⟨s7.p, (a1).toNat, (a1).toNat⟩ : SlV) ((a0.getD []).take (a1).toNat), oB p6 T_RTab (RTab.C ⟨s7⟩)] [] := S.push (s := s7) 1 (Own.preL (S.sl 1) hs9 (Nat.le_refl _) (Own.clip (S.sl 1) hs9)) (by simp only [List.length_take]; omega) (Chg.refl _ _) (fun _ hi => .inl hi)
 refine wd (does_nilCheck (congrArg Value.pointer hp8)) (wd (does_fieldAddr fl_RTab_n rfl (o' := 0) rfl) ?_)
 refine wl_store on_L_api_Node rfl rfl (S.blk 1) (by rw [RTab.len]; decide) (SlV.one _ _ rfl) (RTab.set_n _ _) fun w10 B hw10 zw10 => ?_
 replace S := S.store 1 B hw10
 clear B
 replace S := ((S.front 1).front 1).shutR hp8
 refine wl_nil (wc_seq (wc_region (wd (does_as_i rfl) (wl_nil (wc_ret ?_)))))
 refine ⟨_, (rets1 (retOne_tmp rfl)), ?_⟩
 obtain rfl := Option.some.inj H
 exact ⟨rfl, S⟩
theorem ref09_imps_st {A : Nat → Prop} {N : Oth} {w : World} {a0 : Tb} {a_0 : Option Addr} {a1 : Int} {a2 : Int} {a3 : Int} {a4 : Int} (S : St A N w w [oR a_0 a0] []) {r : Tb × Int × Int × Int} (H : ref09_imps.f a0 a1 a2 a3 a4 = some r) :
  Calls PP F_ref09_imps #[.pointer a_0, .int .i64 a1, .int .i64 a2, .int .i64 a3, .int .i64 a4] w fun e w' => ∃ v, e = .returned v ∧ (v = .tuple #[.int .i64 r.2.1, .int .i64 r.2.2.1, .int .i64 r.2.2.2] ∧ St A N w w' [oR a_0 r.1] []) := by
 unfold ref09_imps.f at H
 refine calls_of_wc (n := 53) fn_ref09_imps rfl rfl (by simp) (wc_seq (wc_region (wd (does_as_i rfl) (wd (does_as_i rfl) (wd (does_as_i rfl) (wl_nil (wc_seq (wc_region (wd (does_mv_p rfl) ?_)))))))))
 obtain ⟨ht1, H⟩ := chk_ex H
 obtain ⟨p2, s3, hp4, S⟩ := S.openR 0 ht1
 replace S := S
 refine wd (does_nilCheck (congrArg Value.pointer hp4)) (wd (does_fieldAddr fl_RTab_n rfl (o' := 0) rfl) (wd (does_load on_L_api_Node rfl ((S.blk 0).cell (RTab.get_n _))) (wd (does_lenR sl_L_api_Node rfl (S.rdO 1)) (wd (does_as_i rfl) ?_))))
 replace S := ((S.front 1).front 1).shutR hp4
 refine wl_nil (wc_seq (wc_region (wd (does_mv_p rfl) (wd (does_mv_i rfl) (wd (does_mv_i rfl) ?_)))))
 obtain ⟨r5, er5, H⟩ := bind_ex H
 obtain ⟨B7, MB7, SB7, back⟩ := S.calln 1 ((.nil))
 refine wl_call (does_call ca_ref03_T_Imp) (by decide) (ref03_T_Imp_st SB7 er5) ?_
 rintro _ w6 ⟨rfl, S2⟩
 replace S := back _ _ _ _ S2 rfl
 clear back S2 SB7
 refine wd (does_mv_t rfl) (wd (does_extract rfl rfl) (wd (does_extract rfl rfl) (wd (does_as_i rfl) (wd (does_as_i rfl) (wl_nil (wc_seq (wc_seq (wc_region (wd (does_mv_i rfl) (wd (does_ne rfl rfl) (wl_nil ?_)))))))))))
 refine wc_if rfl (fun hc8 => ?_) (fun hc8 => ?_)
 ·replace H := if_t hc8 H
  refine wc_seq (wc_region (wd (does_mv_i rfl) (wd (does_as_i rfl) (wd (does_as_i rfl) (wd (does_as_i rfl) (wl_nil (wc_ret ?_)))))))
  refine ⟨_, (rets3 (retOne_tmp rfl) (retOne_tmp rfl) (retOne_tmp rfl)), ?_⟩
  obtain rfl := Option.some.inj H
  exact ⟨rfl, S⟩
 replace H := if_f hc8 H
 refine wc_skip (wc_seq (wc_seq (wc_region (wd (does_mv_i rfl) (wd (does_lt rfl rfl) (wl_nil ?_))))))
 obtain ⟨o9, e9, Ho9⟩ := bind_ex H
 replace H := e9; clear e9
 refine wc_cutq [3, 34] (fun fr W => fr 3 = .int .i64 o9.1 ∧ St A N w W [oR a_0 o9.2] []) ?_ ?_
 ·refine wc_if rfl (fun hc10 => ?_) (fun hc10 => ?_)
  ·replace H := if_t hc10 H
   refine wc_region (wd (does_mv_i rfl) (wd (does_as_i rfl) (wl_nil ?_)))
   obtain rfl := Option.some.inj H
   exact ⟨rfl, (((Dif.refl _ _).upd rfl _).upd rfl _), rfl, S⟩
  ·replace H := if_f hc10 H
   refine wc_skip ?_
   obtain rfl := Option.some.inj H
   exact ⟨rfl, (Dif.refl _ _), rfl, S⟩
 rintro g11 u12 ⟨p9_3, S⟩
 have H := Ho9
 refine wc_seq (wc_seq (wc_region (wd (does_mv_i rfl) (wd (does_lt rfl rfl) (wl_nil ?_)))))
 obtain ⟨o13, e13, Ho13⟩ := bind_ex H
 replace H := e13; clear e13
 refine wc_cutq [4, 37] (fun fr W => fr 4 = .int .i64 o13.1 ∧ St A N w W [oR a_0 o13.2] []) ?_ ?_
 ·refine wc_if rfl (fun hc14 => ?_) (fun hc14 => ?_)
  ·replace H := if_t hc14 H
   refine wc_region (wd (does_mv_i rfl) (wd (does_as_i rfl) (wl_nil ?_)))
   obtain rfl := Option.some.inj H
   exact ⟨rfl, (((Dif.refl _ _).upd rfl _).upd rfl _), rfl, S⟩
  ·replace H := if_f hc14 H
   refine wc_skip ?_
   obtain rfl := Option.some.inj H
   exact ⟨rfl, (Dif.refl _ _), rfl, S⟩
 rintro g15 u16 ⟨p13_4, S⟩
 have H := Ho13
 refine wc_seq (wc_region (wd (does_mv_p rfl) (wd (does_mv_i p9_3) (wd (does_mv_i p13_4) ?_))))
 obtain ⟨r17, er17, H⟩ := bind_ex H
 obtain ⟨B19, MB19, SB19, back⟩ := S.calln 1 ((.nil))
 refine wl_call (does_call ca_ref03_T_Imp) (by decide) (ref03_T_Imp_st SB19 er17) ?_
 rintro _ w18 ⟨rfl, S2⟩
 replace S := back _ _ _ _ S2 rfl
 clear back S2 SB19
 refine wd (does_mv_t rfl) (wd (does_extract rfl rfl) (wd (does_extract rfl rfl) (wd (does_as_i rfl) (wd (does_as_i rfl) (wl_nil (wc_seq (wc_seq (wc_region (wd (does_mv_i rfl) (wd (does_ne rfl rfl) (wl_nil ?_)))))))))))
 refine wc_if rfl (fun hc20 => ?_) (fun hc20 => ?_)
 ·replace H := if_t hc20 H
  refine wc_seq (wc_region (wd (does_mv_p rfl) (wd (does_mv_i rfl) ?_)))
  obtain ⟨r21, er21, H⟩ := bind_ex H
  obtain ⟨B23, MB23, SB23, back⟩ := S.calln 1 ((.nil))
  refine wl_call (does_call ca_ref03_T_Cut) (by decide) (ref03_T_Cut_st SB23 er21) ?_
  rintro _ w22 ⟨rfl, S2⟩
  replace S := back _ _ _ _ S2 rfl
  clear back S2 SB23
  refine wl_nil (wc_seq (wc_region (wd (does_mv_i rfl) (wd (does_as_i rfl) (wd (does_as_i rfl) (wd (does_as_i rfl) (wl_nil (wc_ret ?_))))))))
  refine ⟨_, (rets3 (retOne_tmp rfl) (retOne_tmp rfl) (retOne_tmp rfl)), ?_⟩
  obtain rfl := Option.some.inj H
  exact ⟨rfl, S⟩
 replace H := if_f hc20 H
 refine wc_skip (wc_seq (wc_region (wd (does_mv_i rfl) (wd (does_mv_i rfl) (wd (does_as_i rfl) (wd (does_as_i rfl) (wd (does_as_i rfl) (wl_nil (wc_ret ?_)))))))))
 refine ⟨_, (rets3 (retOne_tmp rfl) (retOne_tmp rfl) (retOne_tmp rfl)), ?_⟩
 obtain rfl := Option.some.inj H
 exact ⟨rfl, S⟩
theorem ref09_Premises_st {A : Nat → Prop} {N : Oth} {w : World} {a0 : Tb} {a_0 : Option Addr} {a1 : Sq} {a2 : Int} {a3 : Int} (S : St A N w w [oR a_0 a0] []) {r : Tb × List Sq × Int} (H : ref09_Premises.f a0 a1 a2 a3 = some r) :
  Calls PP F_ref09_Premises #[.pointer a_0, .agg (Sq.C a1).toArray, .int .i64 a2, .int .i64 a3] w fun e w' => ∃ v, e = .returned v ∧ (∃ so0 : SlV, v = .tuple #[so0.v, .int .i64 r.2.2] ∧ St A N w w' [oR a_0 r.1, oS T_Sq 17 Sq.C so0 r.2.1] []) := by
 unfold ref09_Premises.f at H
 refine calls_of_wc (n := 216) fn_ref09_Premises rfl rfl (by simp) (wc_seq (wc_region ?_))
 refine wl_box_agg rfl (by decide) fun b2 w1 hw1 => ?_
 replace S := S.new hw1
 refine wd (does_as_nil) (wd (does_as_i rfl) (wl_nil (wc_seq (wc_seq (wc_region (wd (does_mv_p rfl) (wd (does_load_agg ag_Sq rfl ((S.blk 0).all _ (Sq.len _)) (Sq.len _)) (wd (does_mv_i rfl) (wd (does_mv_i rfl) ?_)))))))))
 obtain ⟨r3, er3, H⟩ := bind_ex H
 obtain ⟨B5, MB5, SB5, back⟩ := S.calln 0 ((.o 1 rfl .nil))
 refine wl_call (does_call ca_ref09_Fits) (by decide) (ref09_Fits_st SB5 er3) ?_
 rintro _ w4 ⟨rfl, S2⟩
 replace S := back _ _ _ _ S2 rfl
 clear back S2 SB5
 refine wd (does_not rfl) (wl_nil ?_)
 refine wc_if rfl (fun hc6 => ?_) (fun hc6 => ?_)
 ·replace H := if_t hc6 H
  refine wc_seq (wc_region (wd (does_as_nil) (wd (does_as_i rfl) (wl_nil (wc_ret ?_)))))
  replace S := S.nil T_Sq 17 Sq.C
  refine ⟨_, (rets2 (retOne_tmp rfl) (retOne_tmp rfl)), ?_⟩
  replace S := S.arr [2, 0] []
  obtain rfl := Option.some.inj H
  exact ⟨SlV.nil, rfl, S⟩
 replace H := if_f hc6 H
 refine wc_skip (wc_seq (wc_region (wd (does_mv_p rfl) ?_)))
 obtain ⟨ht7, H⟩ := chk_ex H
 obtain ⟨p8, s9, hp10, S⟩ := S.openR 1 ht7
 replace S := S
 refine wd (does_nilCheck (congrArg Value.pointer hp10)) (wd (does_fieldAddr fl_RTab_n rfl (o' := 0) rfl) (wd (does_load on_L_api_Node rfl ((S.blk 0).cell (RTab.get_n _))) (wd (does_mv_i rfl) ?_)))
 obtain ⟨hi11, H⟩ := chk_ex H
 refine wd (does_indexR sl_L_api_Node rfl rfl (S.rdO 1) (inb_ex hi11).1 (inb_ex hi11).2) (wd (does_load_agg ag_Nd rfl ((S.rdO 1).at (at_some Nd.z (inb_ex hi11))) (Nd.len _)) ?_)
 refine wl_alloc ze_Nd (by decide) fun b13 w12 hw12 => ?_
 replace S := S.new hw12
 refine wl_store_agg ag_Nd rfl rfl (S.blk 0) (Nd.len _) (by rw [Nd.len]; decide) (Nd.one _) (store_all (Nd.len _)) fun w14 B hw14 zw14 => ?_
 replace S := S.store 0 B hw14
 clear B
 replace S := ((S.front 2).front 2).shutR hp10
 refine wl_nil (wc_seq (wc_region (wd (does_load_agg ag_Sq rfl ((S.blk 2).all _ (Sq.len _)) (Sq.len _)) ?_)))
 refine wl_alloc ze_Sq (by decide) fun b16 w15 hw15 => ?_
 replace S := S.new hw15
 refine wl_store_agg ag_Sq rfl rfl (S.blk 0) (Sq.len _) (by rw [Sq.len]; decide) (Sq.one _) (store_all (Sq.len _)) fun w17 B hw17 zw17 => ?_
 replace S := S.store 0 B hw17
 clear B
 refine wl_nil (wc_seq (wc_region (wd (does_fieldAddr fl_Sq_left rfl (o' := 0) rfl) (wd (does_load_agg ag_Bits rfl ((S.blk 3).cells (Sq.sub_left _)) (Bits.len _)) (wd (does_mv_i rfl) ?_)))))
 obtain ⟨r18, er18, H⟩ := bind_ex H
 obtain ⟨B20, MB20, SB20, back⟩ := S.calln 0 ((.nil))
 refine wl_call (does_call ca_ref05_Drop) (by decide) (ref05_Drop_st SB20 er18) ?_
 rintro _ w19 ⟨rfl, S2⟩
 replace S := back _ _ _ _ S2 rfl
 clear back S2 SB20
 refine wd (does_fieldAddr fl_Sq_left rfl (o' := 0) rfl) ?_
 refine wl_store_agg ag_Bits rfl rfl (S.blk 0) (Bits.len _) (by rw [Sq.len]; decide) (Bits.one _) (Sq.put_left _ _) fun w21 B hw21 zw21 => ?_
 replace S := S.store 0 B hw21
 clear B
 refine wl_nil (wc_seq (wc_seq (wc_region (wd (does_mv_i rfl) (wl_nil ?_)))))
 refine wc_block (wc_seq (wc_seq (wc_region (wd (does_eq rfl rfl) (wd (does_as_b rfl) (wl_nil ?_))))))
 obtain ⟨o22, e22, Ho22⟩ := bind_ex H
 replace H := e22; clear e22
 refine wc_cutq [43, 45] (fun fr W => fr 43 = .bool o22.1 ∧ St A N w W [oB b16 T_Sq (Sq.C ({ a1 with left := r18 })), oR a_0 o22.2, oB b13 T_Nd (Nd.C (at_ Nd.z (a0.getD []) a3)), oB b2 T_Sq (Sq.C a1)] []) ?_ ?_
 ·refine wc_if rfl (fun hc23 => ?_) (fun hc23 => ?_)
  ·replace H := if_t hc23 H
   refine wc_skip ?_
   obtain rfl := Option.some.inj H
   exact ⟨rfl, (Dif.refl _ _), rfl, S⟩
  ·replace H := if_f hc23 H
   refine wc_region (wd (does_eq rfl rfl) (wd (does_as_b rfl) (wl_nil ?_)))
   obtain rfl := Option.some.inj H
   exact ⟨rfl, (((Dif.refl _ _).upd rfl _).upd rfl _), rfl, S⟩
 rintro g24 u25 ⟨p22_43, S⟩
 have H := Ho22
 refine wc_if p22_43 (fun hc26 => ?_) (fun hc26 => ?_)
 ·replace H := if_t hc26 H
  refine wc_seq (wc_region (wd (does_as_nil) (wd (does_as_i rfl) (wl_nil (wc_ret ?_)))))
  replace S := S.nil T_Sq 17 Sq.C
  refine ⟨_, (rets2 (retOne_tmp rfl) (retOne_tmp rfl)), ?_⟩
  replace S := S.arr [2, 0] []
  obtain rfl := Option.some.inj H
  exact ⟨SlV.nil, rfl, S⟩
 replace H := if_f hc26 H
 refine wc_seq (wc_region (wd (does_eq rfl rfl) (wd (does_as_b rfl) (wl_nil ?_))))
 refine wc_if rfl (fun hc27 => ?_) (fun hc27 => ?_)
 ·replace H := if_t hc27 H
  refine wc_seq (wc_region (wd (does_load_agg ag_Sq rfl ((S.blk 0).all _ (Sq.len _)) (Sq.len _)) (wd (does_fieldAddr fl_Nd_l rfl (o' := 2) rfl) (wd (does_load on_int rfl ((S.blk 2).cell (Nd.get_l _))) (wd (does_fieldAddr fl_Nd_r rfl (o' := 3) rfl) (wd (does_load on_int rfl ((S.blk 2).cell (Nd.get_r _))) ?_))))))
  obtain ⟨r28, er28, H⟩ := bind_ex H
  obtain ⟨B30, MB30, SB30, back⟩ := S.calln 0 ((.nil))
  refine wl_call (does_call ca_ref09_with) (by decide) (ref09_with_st SB30 er28) ?_
  rintro _ w29 ⟨rfl, S2⟩
  replace S := back _ _ _ _ S2 rfl
  clear back S2 SB30
  refine wl_lits (C := Sq.C) (l := [r28]) (vs := [.agg (Sq.C r28).toArray]) sl_L_api_Seq el_Sq.zero rfl rfl (fun a _ => Sq.len a) (by decide) rfl (by decide) fun b32 w31 s33 hBw31 hw31 => ?_
  replace S := S.lit hBw31 hw31 (by simp)
  refine wd (does_as_l rfl) (wd (does_as_i rfl) (wl_nil (wc_ret ?_)))
  refine ⟨_, (rets2 (retOne_tmp rfl) (retOne_tmp rfl)), ?_⟩
  replace S := S.arr [2, 0] []
  obtain rfl := Option.some.inj H
  exact ⟨s33, rfl, S⟩
 replace H := if_f hc27 H
 refine wc_seq (wc_region (wd (does_eq rfl rfl) (wd (does_as_b rfl) (wl_nil ?_))))
 refine wc_if rfl (fun hc34 => ?_) (fun hc34 => ?_)
 ·replace H := if_t hc34 H
  refine wc_seq (wc_region (wd (does_load_agg ag_Sq rfl ((S.blk 0).all _ (Sq.len _)) (Sq.len _)) (wd (does_fieldAddr fl_Nd_r rfl (o' := 3) rfl) (wd (does_load on_int rfl ((S.blk 2).cell (Nd.get_r _))) (wd (does_fieldAddr fl_Nd_r rfl (o' := 3) rfl) (wd (does_load on_int rfl ((S.blk 2).cell (Nd.get_r _))) ?_))))))
  obtain ⟨r35, er35, H⟩ := bind_ex H
  obtain ⟨B37, MB37, SB37, back⟩ := S.calln 0 ((.nil))
  refine wl_call (does_call ca_ref09_with) (by decide) (ref09_with_st SB37 er35) ?_
  rintro _ w36 ⟨rfl, S2⟩
  replace S := back _ _ _ _ S2 rfl
  clear back S2 SB37
  refine wl_lits (C := Sq.C) (l := [r35]) (vs := [.agg (Sq.C r35).toArray]) sl_L_api_Seq el_Sq.zero rfl rfl (fun a _ => Sq.len a) (by decide) rfl (by decide) fun b39 w38 s40 hBw38 hw38 => ?_
  replace S := S.lit hBw38 hw38 (by simp)
  refine wd (does_as_l rfl) (wd (does_as_i rfl) (wl_nil (wc_ret ?_)))
  refine ⟨_, (rets2 (retOne_tmp rfl) (retOne_tmp rfl)), ?_⟩
  replace S := S.arr [2, 0] []
  obtain rfl := Option.some.inj H
  exact ⟨s40, rfl, S⟩
 replace H := if_f hc34 H
 refine wc_seq (wc_region (wd (does_eq rfl rfl) (wd (does_as_b rfl) (wl_nil ?_))))
 refine wc_if rfl (fun hc41 => ?_) (fun hc41 => ?_)
 ·replace H := if_t hc41 H
  refine wc_seq (wc_region (wd (does_load_agg ag_Sq rfl ((S.blk 0).all _ (Sq.len _)) (Sq.len _)) ?_))
  refine wl_lits (C := Sq.C) (l := [{ a1 with left := r18 }]) (vs := [.agg (Sq.C ({ a1 with left := r18 })).toArray]) sl_L_api_Seq el_Sq.zero rfl rfl (fun a _ => Sq.len a) (by decide) rfl (by decide) fun b43 w42 s44 hBw42 hw42 => ?_
  replace S := S.lit hBw42 hw42 (by simp)
  refine wd (does_as_l rfl) (wd (does_as_i rfl) (wl_nil (wc_ret ?_)))
  refine ⟨_, (rets2 (retOne_tmp rfl) (retOne_tmp rfl)), ?_⟩
  replace S := S.arr [2, 0] []
  obtain rfl := Option.some.inj H
  exact ⟨s44, rfl, S⟩
 replace H := if_f hc41 H
 refine wc_seq (wc_region (wd (does_eq rfl rfl) (wd (does_as_b rfl) (wl_nil ?_))))
 refine wc_if rfl (fun hc45 => ?_) (fun hc45 => ?_)
 ·replace H := if_t hc45 H
  refine wc_seq ?_
  obtain ⟨ht46, H⟩ := chk_ex H
  obtain ⟨p47, s48, hp49, S⟩ := S.openR 1 ht46
  replace S := S
  obtain ⟨hi50, H⟩ := chk_ex H
  refine wc_semi 9 [8]
   (fun i v u => match i with
   | 8 => ∃ b, v = Value.pointer (some ⟨b, 0, none⟩) ∧ Blk u b T_Nd (Nd.C Nd.z) ∧ u25.heap.size ≤ b
   | _ => True) hmix (by kernel_rfl) (by kernel_rfl) ?_ ?_
  ·intro i v u u' hi hx hv
   match i, hv with
   | 8, ⟨b, e1, hb, hl⟩ => exact ⟨b, e1, hb.ext hx, hl⟩
   | 0, _ => exact trivial
   | 1, _ => exact trivial
   | 2, _ => exact trivial
   | 3, _ => exact trivial
   | 4, _ => exact trivial
   | 5, _ => exact trivial
   | 6, _ => exact trivial
   | 7, _ => exact trivial
   | _ + 9, _ => exact trivial
  refine wm_does (fun v K => does_mv_p rfl) rfl (wm_does (fun v K => does_nilCheck (congrArg Value.pointer hp49)) rfl (wm_does (fun v K => does_fieldAddr fl_RTab_n rfl (o' := 0) rfl) rfl (wm_does (fun v K => does_load on_L_api_Node rfl (((S.ext K).blk 0).cell (RTab.get_n _))) rfl (wm_does (fun v K => does_fieldAddr fl_Nd_l rfl (o' := 2) rfl) rfl (wm_does (fun v K => does_load on_int rfl (((S.ext K).blk 3).cell (Nd.get_l _))) rfl (wm_does (fun v K => does_indexR sl_L_api_Node rfl rfl ((S.ext K).rdO 1) (inb_ex hi50).1 (inb_ex hi50).2) rfl (wm_does (fun v K => does_load_agg ag_Nd rfl (((S.ext K).rdO 1).at (at_some Nd.z (inb_ex hi50))) (Nd.len _)) rfl ?_)))))))
  refine wm_new (fun g v K G => (have ⟨v', hd, hn⟩ := does_allocN ze_Nd; ⟨_, v', hd, hn.ext, _, rfl, hn.blk, K.size⟩)) rfl ?_
  refine wm_nil fun g w52 K hV => ?_
  obtain ⟨b51, hv538, hb8, hf8⟩ := hV 8 rfl (by decide)
  replace S := S.newAt K hb8 hf8
  clear K hV
  refine wl_store_agg ag_Nd hv538 rfl (S.blk 0) (Nd.len _) (by rw [Nd.len]; decide) (Nd.one _) (store_all (Nd.len _)) fun w54 B hw54 zw54 => ?_
  replace S := S.store 0 B hw54
  clear B
  replace S := ((S.front 2).front 2).shutR hp49
  refine wl_nil (wc_seq (wc_region (wd (does_mv_p rfl) (wd (does_fieldAddr fl_Nd_r hv538 (o' := 3) rfl) (wd (does_load on_int rfl ((S.blk 1).cell (Nd.get_r _))) (wd (does_fieldAddr fl_Nd_r rfl (o' := 3) rfl) (wd (does_load on_int rfl ((S.blk 3).cell (Nd.get_r _))) (wd (does_fieldAddr fl_Nd_l hv538 (o' := 2) rfl) (wd (does_load on_int rfl ((S.blk 1).cell (Nd.get_l _))) ?_)))))))))
  obtain ⟨r55, er55, H⟩ := bind_ex H
  obtain ⟨B57, MB57, SB57, back⟩ := S.calln 1 ((.nil))
  refine wl_call (does_call ca_ref09_imps) (by decide) (ref09_imps_st SB57 er55) ?_
  rintro _ w56 ⟨rfl, S2⟩
  replace S := back _ _ _ _ S2 rfl
  clear back S2 SB57
  refine wd (does_mv_t rfl) (wd (does_extract rfl rfl) (wd (does_extract rfl rfl) (wd (does_extract rfl rfl) (wd (does_as_i rfl) (wd (does_as_i rfl) (wd (does_as_i rfl) (wl_nil (wc_seq (wc_seq (wc_region (wd (does_mv_i rfl) (wd (does_ne rfl rfl) (wl_nil ?_)))))))))))))
  refine wc_if rfl (fun hc58 => ?_) (fun hc58 => ?_)
  ·replace H := if_t hc58 H
   refine wc_seq (wc_region (wd (does_mv_i rfl) (wd (does_as_nil) (wd (does_as_i rfl) (wl_nil (wc_ret ?_))))))
   replace S := S.nil T_Sq 17 Sq.C
   refine ⟨_, (rets2 (retOne_tmp rfl) (retOne_tmp rfl)), ?_⟩
   replace S := S.arr [1, 0] []
   obtain rfl := Option.some.inj H
   exact ⟨SlV.nil, rfl, S⟩
  replace H := if_f hc58 H
  refine wc_skip (wc_seq (wc_region (wd (does_load_agg ag_Sq rfl ((S.blk 2).all _ (Sq.len _)) (Sq.len _)) (wd (does_mv_i rfl) (wd (does_mv_i rfl) ?_)))))
  obtain ⟨r59, er59, H⟩ := bind_ex H
  obtain ⟨B61, MB61, SB61, back⟩ := S.calln 0 ((.nil))
  refine wl_call (does_call ca_ref09_with) (by decide) (ref09_with_st SB61 er59) ?_
  rintro _ w60 ⟨rfl, S2⟩
  replace S := back _ _ _ _ S2 rfl
  clear back S2 SB61
  refine wl_lits (C := Sq.C) (l := [r59]) (vs := [.agg (Sq.C r59).toArray]) sl_L_api_Seq el_Sq.zero rfl rfl (fun a _ => Sq.len a) (by decide) rfl (by decide) fun b63 w62 s64 hBw62 hw62 => ?_
  replace S := S.lit hBw62 hw62 (by simp)
  refine wd (does_as_l rfl) (wd (does_as_i rfl) (wl_nil (wc_ret ?_)))
  refine ⟨_, (rets2 (retOne_tmp rfl) (retOne_tmp rfl)), ?_⟩
  replace S := S.arr [1, 0] []
  obtain rfl := Option.some.inj H
  exact ⟨s64, rfl, S⟩
 replace H := if_f hc45 H
 refine wc_seq (wc_region (wd (does_eq rfl rfl) (wd (does_as_b rfl) (wl_nil ?_))))
 refine wc_if rfl (fun hc65 => ?_) (fun hc65 => ?_)
 ·replace H := if_t hc65 H
  refine wc_seq ?_
  obtain ⟨ht66, H⟩ := chk_ex H
  obtain ⟨p67, s68, hp69, S⟩ := S.openR 1 ht66
  replace S := S
  obtain ⟨hi70, H⟩ := chk_ex H
  refine wc_semi 9 [8]
   (fun i v u => match i with
   | 8 => ∃ b, v = Value.pointer (some ⟨b, 0, none⟩) ∧ Blk u b T_Nd (Nd.C Nd.z) ∧ u25.heap.size ≤ b
   | _ => True) hmix (by kernel_rfl) (by kernel_rfl) ?_ ?_
  ·intro i v u u' hi hx hv
   match i, hv with
   | 8, ⟨b, e1, hb, hl⟩ => exact ⟨b, e1, hb.ext hx, hl⟩
   | 0, _ => exact trivial
   | 1, _ => exact trivial
   | 2, _ => exact trivial
   | 3, _ => exact trivial
   | 4, _ => exact trivial
   | 5, _ => exact trivial
   | 6, _ => exact trivial
   | 7, _ => exact trivial
   | _ + 9, _ => exact trivial
  refine wm_does (fun v K => does_mv_p rfl) rfl (wm_does (fun v K => does_nilCheck (congrArg Value.pointer hp69)) rfl (wm_does (fun v K => does_fieldAddr fl_RTab_n rfl (o' := 0) rfl) rfl (wm_does (fun v K => does_load on_L_api_Node rfl (((S.ext K).blk 0).cell (RTab.get_n _))) rfl (wm_does (fun v K => does_fieldAddr fl_Nd_l rfl (o' := 2) rfl) rfl (wm_does (fun v K => does_load on_int rfl (((S.ext K).blk 3).cell (Nd.get_l _))) rfl (wm_does (fun v K => does_indexR sl_L_api_Node rfl rfl ((S.ext K).rdO 1) (inb_ex hi70).1 (inb_ex hi70).2) rfl (wm_does (fun v K => does_load_agg ag_Nd rfl (((S.ext K).rdO 1).at (at_some Nd.z (inb_ex hi70))) (Nd.len _)) rfl ?_)))))))
  refine wm_new (fun g v K G => (have ⟨v', hd, hn⟩ := does_allocN ze_Nd; ⟨_, v', hd, hn.ext, _, rfl, hn.blk, K.size⟩)) rfl ?_
  refine wm_nil fun g w72 K hV => ?_
  obtain ⟨b71, hv738, hb8, hf8⟩ := hV 8 rfl (by decide)
  replace S := S.newAt K hb8 hf8
  clear K hV
  refine wl_store_agg ag_Nd hv738 rfl (S.blk 0) (Nd.len _) (by rw [Nd.len]; decide) (Nd.one _) (store_all (Nd.len _)) fun w74 B hw74 zw74 => ?_
  replace S := S.store 0 B hw74
  clear B
  replace S := ((S.front 2).front 2).shutR hp69
  refine wl_nil (wc_seq (wc_region (wd (does_mv_p rfl) (wd (does_fieldAddr fl_Nd_l hv738 (o' := 2) rfl) (wd (does_load on_int rfl ((S.blk 1).cell (Nd.get_l _))) (wd (does_fieldAddr fl_Nd_r rfl (o' := 3) rfl) (wd (does_load on_int rfl ((S.blk 3).cell (Nd.get_r _))) (wd (does_fieldAddr fl_Nd_r hv738 (o' := 3) rfl) (wd (does_load on_int rfl ((S.blk 1).cell (Nd.get_r _))) (wd (does_fieldAddr fl_Nd_r rfl (o' := 3) rfl) (wd (does_load on_int rfl ((S.blk 3).cell (Nd.get_r _))) ?_)))))))))))
  obtain ⟨r75, er75, H⟩ := bind_ex H
  obtain ⟨B77, MB77, SB77, back⟩ := S.calln 1 ((.nil))
  refine wl_call (does_call ca_ref09_imps) (by decide) (ref09_imps_st SB77 er75) ?_
  rintro _ w76 ⟨rfl, S2⟩
  replace S := back _ _ _ _ S2 rfl
  clear back S2 SB77
  refine wd (does_mv_t rfl) (wd (does_extract rfl rfl) (wd (does_extract rfl rfl) (wd (does_extract rfl rfl) (wd (does_as_i rfl) (wd (does_as_i rfl) (wd (does_as_i rfl) (wl_nil (wc_seq (wc_seq (wc_region (wd (does_mv_i rfl) (wd (does_ne rfl rfl) (wl_nil ?_)))))))))))))
  refine wc_if rfl (fun hc78 => ?_) (fun hc78 => ?_)
  ·replace H := if_t hc78 H
   refine wc_seq (wc_region (wd (does_mv_i rfl) (wd (does_as_nil) (wd (does_as_i rfl) (wl_nil (wc_ret ?_))))))
   replace S := S.nil T_Sq 17 Sq.C
   refine ⟨_, (rets2 (retOne_tmp rfl) (retOne_tmp rfl)), ?_⟩
   replace S := S.arr [1, 0] []
   obtain rfl := Option.some.inj H
   exact ⟨SlV.nil, rfl, S⟩
  replace H := if_f hc78 H
  refine wc_skip (wc_seq (wc_region (wd (does_load_agg ag_Sq rfl ((S.blk 2).all _ (Sq.len _)) (Sq.len _)) (wd (does_mv_i rfl) (wd (does_mv_i rfl) ?_)))))
  obtain ⟨r79, er79, H⟩ := bind_ex H
  obtain ⟨B81, MB81, SB81, back⟩ := S.calln 0 ((.nil))
  refine wl_call (does_call ca_ref09_with) (by decide) (ref09_with_st SB81 er79) ?_
  rintro _ w80 ⟨rfl, S2⟩
  replace S := back _ _ _ _ S2 rfl
  clear back S2 SB81
  refine wl_lits (C := Sq.C) (l := [r79]) (vs := [.agg (Sq.C r79).toArray]) sl_L_api_Seq el_Sq.zero rfl rfl (fun a _ => Sq.len a) (by decide) rfl (by decide) fun b83 w82 s84 hBw82 hw82 => ?_
  replace S := S.lit hBw82 hw82 (by simp)
  refine wd (does_as_l rfl) (wd (does_as_i rfl) (wl_nil (wc_ret ?_)))
  refine ⟨_, (rets2 (retOne_tmp rfl) (retOne_tmp rfl)), ?_⟩
  replace S := S.arr [1, 0] []
  obtain rfl := Option.some.inj H
  exact ⟨s84, rfl, S⟩
 replace H := if_f hc65 H
 refine wc_seq (wc_region (wd (does_eq rfl rfl) (wd (does_as_b rfl) (wl_nil ?_))))
 refine wc_if rfl (fun hc85 => ?_) (fun hc85 => ?_)
 ·replace H := if_t hc85 H
  refine wc_seq ?_
  refine wc_quiet 8 (Ext u25) hmix (by kernel_rfl) (by kernel_rfl) (Ext.drawn _) (wq_does (fun v K => does_load_agg ag_Sq rfl (((S.ext K).blk 3).all _ (Sq.len _)) (Sq.len _)) (wq_does (fun v K => does_fieldAddr fl_Nd_l rfl (o' := 2) rfl) (wq_does (fun v K => does_load on_int rfl (((S.ext K).blk 2).cell (Nd.get_l _))) (wq_does (fun v K => does_fieldAddr fl_Nd_l rfl (o' := 2) rfl) (wq_does (fun v K => does_load on_int rfl (((S.ext K).blk 2).cell (Nd.get_l _))) ?_)))))
  obtain ⟨r86, er86, H⟩ := bind_ex H
  refine wq_call (fun v => does_call ca_ref09_with) (fun v K => (have ⟨M, SS⟩ := (S.ext K).lend ((.nil)); quiet (ref09_with_st SS er86) (fun v w' h => ⟨h.1, _, _, h.2⟩))) (fun v v' K h => K.thenExt h) (wq_does (fun v K => does_fieldAddr fl_Nd_r rfl (o' := 3) rfl) (wq_does (fun v K => does_load on_int rfl (((S.ext K).blk 2).cell (Nd.get_r _))) ?_))
  refine wq_nil fun w87 K => ?_
  replace S := S.ext K
  clear K
  obtain ⟨r88, er88, H⟩ := bind_ex H
  obtain ⟨B90, MB90, SB90, back⟩ := S.calln 0 ((.nil))
  refine wl_call (does_call ca_ref09_to) (by decide) (ref09_to_st SB90 er88) ?_
  rintro _ w89 ⟨rfl, S2⟩
  replace S := back _ _ _ _ S2 rfl
  clear back S2 SB90
  refine wl_lits (C := Sq.C) (l := [r88]) (vs := [.agg (Sq.C r88).toArray]) sl_L_api_Seq el_Sq.zero rfl rfl (fun a _ => Sq.len a) (by decide) rfl (by decide) fun b92 w91 s93 hBw91 hw91 => ?_
  replace S := S.lit hBw91 hw91 (by simp)
  refine wd (does_as_l rfl) (wd (does_as_i rfl) (wl_nil (wc_ret ?_)))
  refine ⟨_, (rets2 (retOne_tmp rfl) (retOne_tmp rfl)), ?_⟩
  replace S := S.arr [2, 0] []
  obtain rfl := Option.some.inj H
  exact ⟨s93, rfl, S⟩
 replace H := if_f hc85 H
 refine wc_seq (wc_region (wd (does_eq rfl rfl) (wd (does_as_b rfl) (wl_nil ?_))))
 refine wc_if rfl (fun hc94 => ?_) (fun hc94 => ?_)
 ·replace H := if_t hc94 H
  refine wc_seq ?_
  refine wc_quiet 7 (Ext u25) hmix (by kernel_rfl) (by kernel_rfl) (Ext.drawn _) (wq_does (fun v K => does_load_agg ag_Sq rfl (((S.ext K).blk 3).all _ (Sq.len _)) (Sq.len _)) (wq_does (fun v K => does_fieldAddr fl_Nd_l rfl (o' := 2) rfl) (wq_does (fun v K => does_load on_int rfl (((S.ext K).blk 2).cell (Nd.get_l _))) ?_)))
  obtain ⟨r95, er95, H⟩ := bind_ex H
  refine wq_call (fun v => does_call ca_ref09_to) (fun v K => (have ⟨M, SS⟩ := (S.ext K).lend ((.nil)); quiet (ref09_to_st SS er95) (fun v w' h => ⟨h.1, _, _, h.2⟩))) (fun v v' K h => K.thenExt h) (wq_does (fun v K => does_load_agg ag_Sq rfl (((S.ext K).blk 3).all _ (Sq.len _)) (Sq.len _)) (wq_does (fun v K => does_fieldAddr fl_Nd_r rfl (o' := 3) rfl) (wq_does (fun v K => does_load on_int rfl (((S.ext K).blk 2).cell (Nd.get_r _))) ?_)))
  refine wq_nil fun w96 K => ?_
  replace S := S.ext K
  clear K
  obtain ⟨r97, er97, H⟩ := bind_ex H
  obtain ⟨B99, MB99, SB99, back⟩ := S.calln 0 ((.nil))
  refine wl_call (does_call ca_ref09_to) (by decide) (ref09_to_st SB99 er97) ?_
  rintro _ w98 ⟨rfl, S2⟩
  replace S := back _ _ _ _ S2 rfl
  clear back S2 SB99
  refine wl_lits (C := Sq.C) (l := [r95, r97]) (vs := [.agg (Sq.C r95).toArray, .agg (Sq.C r97).toArray]) sl_L_api_Seq el_Sq.zero rfl rfl (fun a _ => Sq.len a) (by decide) rfl (by decide) fun b101 w100 s102 hBw100 hw100 => ?_
  replace S := S.lit hBw100 hw100 (by simp)
  refine wd (does_as_l rfl) (wd (does_as_i rfl) (wl_nil (wc_ret ?_)))
  refine ⟨_, (rets2 (retOne_tmp rfl) (retOne_tmp rfl)), ?_⟩
  replace S := S.arr [2, 0] []
  obtain rfl := Option.some.inj H
  exact ⟨s102, rfl, S⟩
 replace H := if_f hc94 H
 refine wc_seq (wc_region (wd (does_eq rfl rfl) (wd (does_as_b rfl) (wl_nil ?_))))
 refine wc_if rfl (fun hc103 => ?_) (fun hc103 => ?_)
 ·replace H := if_t hc103 H
  refine wc_seq ?_
  refine wc_quiet 11 (Ext u25) hmix (by kernel_rfl) (by kernel_rfl) (Ext.drawn _) (wq_does (fun v K => does_load_agg ag_Sq rfl (((S.ext K).blk 0).all _ (Sq.len _)) (Sq.len _)) (wq_does (fun v K => does_fieldAddr fl_Nd_l rfl (o' := 2) rfl) (wq_does (fun v K => does_load on_int rfl (((S.ext K).blk 2).cell (Nd.get_l _))) (wq_does (fun v K => does_fieldAddr fl_Nd_l rfl (o' := 2) rfl) (wq_does (fun v K => does_load on_int rfl (((S.ext K).blk 2).cell (Nd.get_l _))) ?_)))))
  obtain ⟨r104, er104, H⟩ := bind_ex H
  refine wq_call (fun v => does_call ca_ref09_with) (fun v K => (have ⟨M, SS⟩ := (S.ext K).lend ((.nil)); quiet (ref09_with_st SS er104) (fun v w' h => ⟨h.1, _, _, h.2⟩))) (fun v v' K h => K.thenExt h) (wq_does (fun v K => does_load_agg ag_Sq rfl (((S.ext K).blk 0).all _ (Sq.len _)) (Sq.len _)) (wq_does (fun v K => does_fieldAddr fl_Nd_r rfl (o' := 3) rfl) (wq_does (fun v K => does_load on_int rfl (((S.ext K).blk 2).cell (Nd.get_r _))) (wq_does (fun v K => does_fieldAddr fl_Nd_r rfl (o' := 3) rfl) (wq_does (fun v K => does_load on_int rfl (((S.ext K).blk 2).cell (Nd.get_r _))) ?_)))))
  refine wq_nil fun w105 K => ?_
  replace S := S.ext K
  clear K
  obtain ⟨r106, er106, H⟩ := bind_ex H
  obtain ⟨B108, MB108, SB108, back⟩ := S.calln 0 ((.nil))
  refine wl_call (does_call ca_ref09_with) (by decide) (ref09_with_st SB108 er106) ?_
  rintro _ w107 ⟨rfl, S2⟩
  replace S := back _ _ _ _ S2 rfl
  clear back S2 SB108
  refine wl_lits (C := Sq.C) (l := [r104, r106]) (vs := [.agg (Sq.C r104).toArray, .agg (Sq.C r106).toArray]) sl_L_api_Seq el_Sq.zero rfl rfl (fun a _ => Sq.len a) (by decide) rfl (by decide) fun b110 w109 s111 hBw109 hw109 => ?_
  replace S := S.lit hBw109 hw109 (by simp)
  refine wd (does_as_l rfl) (wd (does_as_i rfl) (wl_nil (wc_ret ?_)))
  refine ⟨_, (rets2 (retOne_tmp rfl) (retOne_tmp rfl)), ?_⟩
  replace S := S.arr [2, 0] []
  obtain rfl := Option.some.inj H
  exact ⟨s111, rfl, S⟩
 replace H := if_f hc103 H
 refine wc_seq (wc_region (wd (does_eq rfl rfl) (wd (does_as_b rfl) (wl_nil ?_))))
 refine wc_if rfl (fun hc112 => ?_) (fun hc112 => ?_)
 ·replace H := if_t hc112 H
  refine wc_seq (wc_region (wd (does_load_agg ag_Sq rfl ((S.blk 3).all _ (Sq.len _)) (Sq.len _)) (wd (does_fieldAddr fl_Nd_l rfl (o' := 2) rfl) (wd (does_load on_int rfl ((S.blk 2).cell (Nd.get_l _))) ?_))))
  obtain ⟨r113, er113, H⟩ := bind_ex H
  obtain ⟨B115, MB115, SB115, back⟩ := S.calln 0 ((.nil))
  refine wl_call (does_call ca_ref09_to) (by decide) (ref09_to_st SB115 er113) ?_
  rintro _ w114 ⟨rfl, S2⟩
  replace S := back _ _ _ _ S2 rfl
  clear back S2 SB115
  refine wl_lits (C := Sq.C) (l := [r113]) (vs := [.agg (Sq.C r113).toArray]) sl_L_api_Seq el_Sq.zero rfl rfl (fun a _ => Sq.len a) (by decide) rfl (by decide) fun b117 w116 s118 hBw116 hw116 => ?_
  replace S := S.lit hBw116 hw116 (by simp)
  refine wd (does_as_l rfl) (wd (does_as_i rfl) (wl_nil (wc_ret ?_)))
  refine ⟨_, (rets2 (retOne_tmp rfl) (retOne_tmp rfl)), ?_⟩
  replace S := S.arr [2, 0] []
  obtain rfl := Option.some.inj H
  exact ⟨s118, rfl, S⟩
 replace H := if_f hc112 H
 refine wc_seq (wc_region (wd (does_eq rfl rfl) (wd (does_as_b rfl) (wl_nil ?_))))
 refine wc_if rfl (fun hc119 => ?_) (fun hc119 => ?_)
 ·replace H := if_t hc119 H
  refine wc_seq (wc_region (wd (does_load_agg ag_Sq rfl ((S.blk 3).all _ (Sq.len _)) (Sq.len _)) (wd (does_fieldAddr fl_Nd_r rfl (o' := 3) rfl) (wd (does_load on_int rfl ((S.blk 2).cell (Nd.get_r _))) ?_))))
  obtain ⟨r120, er120, H⟩ := bind_ex H
  obtain ⟨B122, MB122, SB122, back⟩ := S.calln 0 ((.nil))
  refine wl_call (does_call ca_ref09_to) (by decide) (ref09_to_st SB122 er120) ?_
  rintro _ w121 ⟨rfl, S2⟩
  replace S := back _ _ _ _ S2 rfl
  clear back S2 SB122
  refine wl_lits (C := Sq.C) (l := [r120]) (vs := [.agg (Sq.C r120).toArray]) sl_L_api_Seq el_Sq.zero rfl rfl (fun a _ => Sq.len a) (by decide) rfl (by decide) fun b124 w123 s125 hBw123 hw123 => ?_
  replace S := S.lit hBw123 hw123 (by simp)
  refine wd (does_as_l rfl) (wd (does_as_i rfl) (wl_nil (wc_ret ?_)))
  refine ⟨_, (rets2 (retOne_tmp rfl) (retOne_tmp rfl)), ?_⟩
  replace S := S.arr [2, 0] []
  obtain rfl := Option.some.inj H
  exact ⟨s125, rfl, S⟩
 replace H := if_f hc119 H
 refine wc_skip (wc_seq ?_)
 obtain ⟨ht126, H⟩ := chk_ex H
 obtain ⟨p127, s128, hp129, S⟩ := S.openR 1 ht126
 replace S := S
 obtain ⟨hi130, H⟩ := chk_ex H
 refine wc_semi 9 [8]
  (fun i v u => match i with
  | 8 => ∃ b, v = Value.pointer (some ⟨b, 0, none⟩) ∧ Blk u b T_Nd (Nd.C Nd.z) ∧ u25.heap.size ≤ b
  | _ => True) hmix (by kernel_rfl) (by kernel_rfl) ?_ ?_
 ·intro i v u u' hi hx hv
  match i, hv with
  | 8, ⟨b, e1, hb, hl⟩ => exact ⟨b, e1, hb.ext hx, hl⟩
  | 0, _ => exact trivial
  | 1, _ => exact trivial
  | 2, _ => exact trivial
  | 3, _ => exact trivial
  | 4, _ => exact trivial
  | 5, _ => exact trivial
  | 6, _ => exact trivial
  | 7, _ => exact trivial
  | _ + 9, _ => exact trivial
 refine wm_does (fun v K => does_mv_p rfl) rfl (wm_does (fun v K => does_nilCheck (congrArg Value.pointer hp129)) rfl (wm_does (fun v K => does_fieldAddr fl_RTab_n rfl (o' := 0) rfl) rfl (wm_does (fun v K => does_load on_L_api_Node rfl (((S.ext K).blk 0).cell (RTab.get_n _))) rfl (wm_does (fun v K => does_fieldAddr fl_Nd_l rfl (o' := 2) rfl) rfl (wm_does (fun v K => does_load on_int rfl (((S.ext K).blk 3).cell (Nd.get_l _))) rfl (wm_does (fun v K => does_indexR sl_L_api_Node rfl rfl ((S.ext K).rdO 1) (inb_ex hi130).1 (inb_ex hi130).2) rfl (wm_does (fun v K => does_load_agg ag_Nd rfl (((S.ext K).rdO 1).at (at_some Nd.z (inb_ex hi130))) (Nd.len _)) rfl ?_)))))))
 refine wm_new (fun g v K G => (have ⟨v', hd, hn⟩ := does_allocN ze_Nd; ⟨_, v', hd, hn.ext, _, rfl, hn.blk, K.size⟩)) rfl ?_
 refine wm_nil fun g w132 K hV => ?_
 obtain ⟨b131, hv1338, hb8, hf8⟩ := hV 8 rfl (by decide)
 replace S := S.newAt K hb8 hf8
 clear K hV
 refine wl_store_agg ag_Nd hv1338 rfl (S.blk 0) (Nd.len _) (by rw [Nd.len]; decide) (Nd.one _) (store_all (Nd.len _)) fun w134 B hw134 zw134 => ?_
 replace S := S.store 0 B hw134
 clear B
 replace S := ((S.front 2).front 2).shutR hp129
 refine wl_nil (wc_seq (wc_region (wd (does_mv_p rfl) (wd (does_fieldAddr fl_Nd_r hv1338 (o' := 3) rfl) (wd (does_load on_int rfl ((S.blk 1).cell (Nd.get_r _))) (wd (does_fieldAddr fl_Nd_r rfl (o' := 3) rfl) (wd (does_load on_int rfl ((S.blk 3).cell (Nd.get_r _))) ?_)))))))
 obtain ⟨r135, er135, H⟩ := bind_ex H
 obtain ⟨B137, MB137, SB137, back⟩ := S.calln 1 ((.nil))
 refine wl_call (does_call ca_ref03_T_Imp) (by decide) (ref03_T_Imp_st SB137 er135) ?_
 rintro _ w136 ⟨rfl, S2⟩
 replace S := back _ _ _ _ S2 rfl
 clear back S2 SB137
 refine wd (does_mv_t rfl) (wd (does_extract rfl rfl) (wd (does_extract rfl rfl) (wd (does_as_i rfl) (wd (does_as_i rfl) (wl_nil (wc_seq (wc_seq (wc_region (wd (does_mv_i rfl) (wd (does_ne rfl rfl) (wl_nil ?_)))))))))))
 refine wc_if rfl (fun hc138 => ?_) (fun hc138 => ?_)
 ·replace H := if_t hc138 H
  refine wc_seq (wc_region (wd (does_mv_i rfl) (wd (does_as_nil) (wd (does_as_i rfl) (wl_nil (wc_ret ?_))))))
  replace S := S.nil T_Sq 17 Sq.C
  refine ⟨_, (rets2 (retOne_tmp rfl) (retOne_tmp rfl)), ?_⟩
  replace S := S.arr [1, 0] []
  obtain rfl := Option.some.inj H
  exact ⟨SlV.nil, rfl, S⟩
 replace H := if_f hc138 H
 refine wc_skip (wc_seq ?_)
 refine wc_quiet 12 (Ext w136) hmix (by kernel_rfl) (by kernel_rfl) (Ext.drawn _) (wq_does (fun v K => does_load_agg ag_Sq rfl (((S.ext K).blk 2).all _ (Sq.len _)) (Sq.len _)) (wq_does (fun v K => does_mv_i rfl) (wq_does (fun v K => does_mv_i rfl) ?_)))
 obtain ⟨r139, er139, H⟩ := bind_ex H
 refine wq_call (fun v => does_call ca_ref09_with) (fun v K => (have ⟨M, SS⟩ := (S.ext K).lend ((.nil)); quiet (ref09_with_st SS er139) (fun v w' h => ⟨h.1, _, _, h.2⟩))) (fun v v' K h => K.thenExt h) (wq_does (fun v K => does_fieldAddr fl_Nd_l rfl (o' := 2) rfl) (wq_does (fun v K => does_load on_int rfl (((S.ext K).blk 3).cell (Nd.get_l _))) ?_))
 obtain ⟨r140, er140, H⟩ := bind_ex H
 refine wq_call (fun v => does_call ca_ref09_to) (fun v K => (have ⟨M, SS⟩ := (S.ext K).lend ((.nil)); quiet (ref09_to_st SS er140) (fun v w' h => ⟨h.1, _, _, h.2⟩))) (fun v v' K h => K.thenExt h) (wq_does (fun v K => does_load_agg ag_Sq rfl (((S.ext K).blk 2).all _ (Sq.len _)) (Sq.len _)) (wq_does (fun v K => does_fieldAddr fl_Nd_r rfl (o' := 3) rfl) (wq_does (fun v K => does_load on_int rfl (((S.ext K).blk 3).cell (Nd.get_r _))) (wq_does (fun v K => does_fieldAddr fl_Nd_r rfl (o' := 3) rfl) (wq_does (fun v K => does_load on_int rfl (((S.ext K).blk 3).cell (Nd.get_r _))) ?_)))))
 refine wq_nil fun w141 K => ?_
 replace S := S.ext K
 clear K
 obtain ⟨r142, er142, H⟩ := bind_ex H
 obtain ⟨B144, MB144, SB144, back⟩ := S.calln 0 ((.nil))
 refine wl_call (does_call ca_ref09_with) (by decide) (ref09_with_st SB144 er142) ?_
 rintro _ w143 ⟨rfl, S2⟩
 replace S := back _ _ _ _ S2 rfl
 clear back S2 SB144
 refine wl_lits (C := Sq.C) (l := [r140, r142]) (vs := [.agg (Sq.C r140).toArray, .agg (Sq.C r142).toArray]) sl_L_api_Seq el_Sq.zero rfl rfl (fun a _ => Sq.len a) (by decide) rfl (by decide) fun b146 w145 s147 hBw145 hw145 => ?_
 replace S := S.lit hBw145 hw145 (by simp)
 refine wd (does_as_l rfl) (wd (does_as_i rfl) (wl_nil (wc_ret ?_)))
 refine ⟨_, (rets2 (retOne_tmp rfl) (retOne_tmp rfl)), ?_⟩
 replace S := S.arr [1, 0] []
 obtain rfl := Option.some.inj H
 exact ⟨s147, rfl, S⟩
end Go.Proofs.YtjjkhjieegmphaaDoor
end
