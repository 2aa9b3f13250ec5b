/- Texts put together: Chapter 11, the search: the walks. Printed by pp.py, a program of mine. Chapter 09, the heads: the walks. Printed by pp.py, a program of mine. Chapter 09, the document's functions: the walks. Printed by pp.py, a program of mine. Chapter 11, the heads: the walks. Printed by pp.py, a program of mine. Chapter 11, weakening, cut, deduction, truth: the walks. Printed by pp.py, a program of mine. Chapter 09, the plain law: what the program's rules and the document's answer, told once for both. Chapter 09, the plain law: sequents of a table, choices. Chapter 09, RuleTells: Lean functions with the answers of the Go functions. Printed by pp.py, a program of mine. -/
import Derived.Test.YtjjkhjieegmphaaDoorMSTrue4
set_option linter.unusedVariables false
set_option linter.unusedSimpArgs false
section
namespace Go.Proofs.YtjjkhjieegmphaaDoor
open Gw Go.RowKit
set_option maxHeartbeats 4000000
theorem search_finder_end_st {A : Nat → Prop} {N : Oth} {w : World} {a0 : PFinder} {a_0 : Option Addr} {g_0_1 : Option Addr} {a1 : PStep} {s_1 : SlV} (S : St A N w w [oF a_0 g_0_1 a0, oS T_int 1 IC s_1 a1.kids] []) {r : PFinder × Int × Int} (H : search_finder_end.f a0 a1 = some r) :
    Calls PP F_search_finder_end #[.pointer a_0, .agg (Step.C (⟨a1.seq, a1.proved, a1.rule, a1.main, s_1⟩ : Step)).toArray] w fun e w' => ∃ v, e = .returned v ∧ (v = .tuple #[.int .i64 r.2.1, .int .i64 r.2.2] ∧ St A N w w' [oF a_0 g_0_1 r.1] []) := by
  unfold search_finder_end.f at H
  refine calls_of_wc (n := 33) fn_search_finder_end rfl rfl (by simp) ?_
  refine wc_seq (wc_region ?_)
  refine wl_box_agg rfl (by decide) fun b2 w1 hw1 => ?_
  replace S : St A N w w1 [oB b2 T_Step (Step.C (⟨a1.seq, a1.proved, a1.rule, a1.main, s_1⟩ : Step)), oF a_0 g_0_1 a0, oS T_int 1 IC s_1 a1.kids] [] := S.new hw1
  refine wd (does_as_i rfl) ?_
  refine wd (does_as_i rfl) ?_
  refine wl_nil ?_
  refine wc_seq ?_
  obtain ⟨p3, s5, m6, hp4, S⟩ := S.open_oF 1
  replace S : St A N w w1 [oB p3 T_Finder (Finder.C (⟨g_0_1, s5, (some m6), a0.left, a0.visits⟩ : Finder)), oT g_0_1 a0.t, oDStep s5 a0.steps, oMSq m6 a0.at_, oB b2 T_Step (Step.C (⟨a1.seq, a1.proved, a1.rule, a1.main, s_1⟩ : Step)), oS T_int 1 IC s_1 a1.kids] [] := S
  refine wc_quiet 11 (Ext w1) hmix (by kernel_rfl) (by kernel_rfl) (Ext.drawn _) ?_
  refine wq_does (fun v K => does_mv_p rfl) ?_
  refine wq_does (fun v K => does_nilCheck (congrArg Value.pointer hp4)) ?_
  refine wq_does (fun v K => does_fieldAddr fl_Finder_at_ rfl (o' := 2) rfl) ?_
  refine wq_does (fun v K => does_load on_M_api_Seq_int rfl (((S.ext K).blk 0).cell (Finder.get_at_ _))) ?_
  refine wq_does (fun v K => does_fieldAddr fl_Step_seq rfl (o' := 0) rfl) ?_
  refine wq_does (fun v K => does_load_agg ag_Sq rfl (((S.ext K).blk 4).cells (Step.sub_seq _)) (Sq.len _)) ?_
  refine wq_does (fun v K => does_mv_p rfl) ?_
  refine wq_does (fun v K => does_nilCheck (congrArg Value.pointer hp4)) ?_
  refine wq_does (fun v K => does_fieldAddr fl_Finder_steps rfl (o' := 1) rfl) ?_
  refine wq_does (fun v K => does_load on_L_api_Step rfl (((S.ext K).blk 0).cell (Finder.get_steps _))) ?_
  refine wq_does (fun v K => does_lenD sl_L_api_Step rfl ((S.ext K).onO 2)) ?_
  refine wq_nil fun w7 K => ?_
  replace S := S.ext K
  clear K
  refine wl_mapUpdate (C := mSqC) (D := (Value.int .i64)) (key := a1.seq) (v := (a0.steps.length : Int)) un_M_api_Seq_int key_Sq rfl rfl rfl (S.map 3) fun w8 hmw8 hcw8 hsw8 => ?_
  replace S : St A N w w8 [oMSq m6 (Gw.ins a1.seq (a0.steps.length : Int) a0.at_), oB p3 T_Finder (Finder.C (⟨g_0_1, s5, (some m6), a0.left, a0.visits⟩ : Finder)), oT g_0_1 a0.t, oDStep s5 a0.steps, oB b2 T_Step (Step.C (⟨a1.seq, a1.proved, a1.rule, a1.main, s_1⟩ : Step)), oS T_int 1 IC s_1 a1.kids] [] := S.mapSet 3 ⟨hmw8, hcw8, hsw8⟩
  replace S := S.front 3
  replace S := S.front 3
  replace S := S.front 3
  replace S : St A N w w8 [oF a_0 g_0_1 (⟨a0.t, a0.steps, Gw.ins a1.seq (a0.steps.length : Int) a0.at_, a0.left, a0.visits⟩ : PFinder), oB b2 T_Step (Step.C (⟨a1.seq, a1.proved, a1.rule, a1.main, s_1⟩ : Step)), oS T_int 1 IC s_1 a1.kids] [] := S.shut_oF hp4
  refine wl_nil ?_
  refine wc_seq ?_
  obtain ⟨p9, s11, m12, hp10, S⟩ := S.open_oF 0
  replace S : St A N w w8 [oB p9 T_Finder (Finder.C (⟨g_0_1, s11, (some m12), a0.left, a0.visits⟩ : Finder)), oT g_0_1 a0.t, oDStep s11 a0.steps, oMSq m12 (Gw.ins a1.seq (a0.steps.length : Int) a0.at_), oB b2 T_Step (Step.C (⟨a1.seq, a1.proved, a1.rule, a1.main, s_1⟩ : Step)), oS T_int 1 IC s_1 a1.kids] [] := S
  obtain ⟨ms13, S⟩ := S.openD 2
  replace S : St A N w w8 [oS T_Step 21 Step.C s11 ms13, big rStep ms13 a0.steps, oB p9 T_Finder (Finder.C (⟨g_0_1, s11, (some m12), a0.left, a0.visits⟩ : Finder)), oT g_0_1 a0.t, oMSq m12 (Gw.ins a1.seq (a0.steps.length : Int) a0.at_), oB b2 T_Step (Step.C (⟨a1.seq, a1.proved, a1.rule, a1.main, s_1⟩ : Step)), oS T_int 1 IC s_1 a1.kids] [] := S
  have hlms13 : ms13.length = a0.steps.length := (S.own 1 rfl).elim fun _ hb => big_len hb
  obtain ⟨ha14, H⟩ := chk_ex H
  have ha14 := of_decide_eq_true ha14
  rw [← hlms13] at ha14
  have hSO := S.sl 0
  have hSlt := hSO.lt
  have SH : ∀ v, Chg s11.fp w8 v → St A (N.or s11.fp) w v [big rStep ms13 a0.steps, oB p9 T_Finder (Finder.C (⟨g_0_1, s11, (some m12), a0.left, a0.visits⟩ : Finder)), oT g_0_1 a0.t, oMSq m12 (Gw.ins a1.seq (a0.steps.length : Int) a0.at_), oB b2 T_Step (Step.C (⟨a1.seq, a1.proved, a1.rule, a1.main, s_1⟩ : Step)), oS T_int 1 IC s_1 a1.kids] [] := fun v hc => S.away 0 (hc := hc)
  refine wc_draw 8 ⟨fun L v => Chg s11.fp w8 v ∧ (L 7 = false → Ext w8 v), fun L a b => Chg s11.fp a b ∧ (L 7 = true → Ext a b), fun i v u => match i with
    | 0 => v = Value.pointer a_0
    | 1 => v = Value.pointer a_0
    | 2 => v = Value.pointer (some ⟨p9, 0, none⟩)
    | 3 => v = Value.pointer (some ⟨p9, 1, none⟩)
    | 4 => v = s11.v
    | 5 => v = Value.agg (Step.C (⟨a1.seq, a1.proved, a1.rule, a1.main, s_1⟩ : Step)).toArray
    | 6 => ∃ b sl, v = SlV.v sl ∧ sl = ⟨some ⟨b, 0, none⟩, 1, 1⟩ ∧ Blk u b T_Step (Step.C (⟨a1.seq, a1.proved, a1.rule, a1.main, s_1⟩ : Step)) ∧ ¬ s11.fp b
    | 7 => ∃ s', v = SlV.v s' ∧ Own u 0 T_Step 21 s' ((ms13 ++ [(⟨a1.seq, a1.proved, a1.rule, a1.main, s_1⟩ : Step)]).map Step.C) ∧ ∀ i, s'.fp i → s11.fp i ∨ w8.heap.size ≤ i
    | _ => True⟩ hmix (by kernel_rfl) ?_ ⟨(Ext.drawn _).mono (fun _ _ x => x.elim), fun _ => Ext.drawn _⟩ ⟨?_, ?_, ?_, ?_, ?_, ?_, ?_, ?_, trivial⟩ ?_
  · intro L i v a b hLi hle hv
    match i, hLi, hv with
    | 0, _, hv => exact hv
    | 1, _, hv => exact hv
    | 2, _, hv => exact hv
    | 3, _, hv => exact hv
    | 4, _, hv => exact hv
    | 5, _, hv => exact hv
    | 6, _, ⟨b, sl, e1, e2, hb, hn⟩ => exact ⟨b, sl, e1, e2, hb.chg hle.1 hn, hn⟩
    | 7, hLi, ⟨s', e1, ho, hg⟩ => exact ⟨s', e1, ho.ext (hle.2 hLi), hg⟩
    | _ + 8, _, _ => exact trivial
  · rintro L g v hL hT 
    refine wl_does (does_mv_p rfl) (by decide) (wl_nil (ob ⟨hT.1, fun h => hT.2 h⟩ ⟨Chg.refl _ _, fun _ => Ext.refl _⟩ rfl))
  · rintro L g v hL hT 
    refine wl_does (does_mv_p rfl) (by decide) (wl_nil (ob ⟨hT.1, fun h => hT.2 h⟩ ⟨Chg.refl _ _, fun _ => Ext.refl _⟩ rfl))
  · rintro L g v hL hT hv1
    refine wl_does (does_nilCheck ((hv1 : _ = Value.pointer a_0).trans (congrArg Value.pointer hp10))) (by decide) (wl_nil (ob ⟨hT.1, fun h => hT.2 h⟩ ⟨Chg.refl _ _, fun _ => Ext.refl _⟩ rfl))
  · rintro L g v hL hT hv2
    refine wl_does (does_fieldAddr fl_Finder_steps hv2 (o' := 1) rfl) (by decide) (wl_nil (ob ⟨hT.1, fun h => hT.2 h⟩ ⟨Chg.refl _ _, fun _ => Ext.refl _⟩ rfl))
  · rintro L g v hL hT hv3
    refine wl_does (does_load on_L_api_Step hv3 (((SH v hT.1).blk 1).cell (Finder.get_steps _))) (by decide) (wl_nil (ob ⟨hT.1, fun h => hT.2 h⟩ ⟨Chg.refl _ _, fun _ => Ext.refl _⟩ rfl))
  · rintro L g v hL hT 
    refine wl_does (does_load_agg ag_Step rfl (((SH v hT.1).blk 4).all _ (Step.len _)) (Step.len _)) (by decide) (wl_nil (ob ⟨hT.1, fun h => hT.2 h⟩ ⟨Chg.refl _ _, fun _ => Ext.refl _⟩ rfl))
  · rintro L g v hL hT hv5
    refine wl_lit1 sl_L_api_Step el_Step.zero hv5 rfl (Step.len _) (by decide) (by decide) fun b v' sl hn hq => wl_nil (ob ⟨hT.1.thenExt hn.ext, fun h => (hT.2 h).trans hn.ext⟩ ⟨hn.ext.mono (fun _ _ x => x.elim), fun _ => hn.ext⟩ ⟨b, sl, rfl, hq, hn.blk, fun e => by have := hSlt _ e; have := hn.at_; have := hT.1.size; omega⟩)
  · rintro L g v hL hT hv4 ⟨b, sl, hv6, hq, hb, hnb⟩
    refine wl_push (C := Step.C) sl_L_api_Step el_Step hv4 hv6 (hSO.ext (hT.2 hL)) hb hq (Step.len _) (Step.one _) ha14 (by omega) (by decide) fun s' v' ho hc hg => wl_nil (ob ⟨hT.1.trans hc, fun h => (by cases h)⟩ ⟨hc, fun h => (by rw [hL] at h; cases h)⟩ ⟨s', rfl, ho, fun i e => (hg i e).imp id (fun h => Nat.le_trans hT.1.size h)⟩)
  rintro L g w15 hLm hT hv17_0 hv17_1 hv17_2 hv17_3 hv17_4 hv17_5 ⟨b, sl, hv17_6, hq, hb, hnb⟩ ⟨s16, hv17_7, O, gO⟩
  replace S : St A N w w15 [oS T_Step 21 Step.C s16 (ms13 ++ [(⟨a1.seq, a1.proved, a1.rule, a1.main, s_1⟩ : Step)]), big rStep ms13 a0.steps, oB p9 T_Finder (Finder.C (⟨g_0_1, s11, (some m12), a0.left, a0.visits⟩ : Finder)), oT g_0_1 a0.t, oMSq m12 (Gw.ins a1.seq (a0.steps.length : Int) a0.at_), oB b2 T_Step (Step.C (⟨a1.seq, a1.proved, a1.rule, a1.main, s_1⟩ : Step)), oS T_int 1 IC s_1 a1.kids] [] := S.push 0 O (by rw [List.length_append, List.length_singleton]; omega) hT.1 gO
  clear O gO SH hSO hSlt
  replace S := S.front 6
  replace S : St A N w w15 [rStep (⟨a1.seq, a1.proved, a1.rule, a1.main, s_1⟩ : Step) a1, oS T_Step 21 Step.C s16 (ms13 ++ [(⟨a1.seq, a1.proved, a1.rule, a1.main, s_1⟩ : Step)]), big rStep ms13 a0.steps, oB p9 T_Finder (Finder.C (⟨g_0_1, s11, (some m12), a0.left, a0.visits⟩ : Finder)), oT g_0_1 a0.t, oMSq m12 (Gw.ins a1.seq (a0.steps.length : Int) a0.at_), oB b2 T_Step (Step.C (⟨a1.seq, a1.proved, a1.rule, a1.main, s_1⟩ : Step))] [] := (S.putp ⟨rfl, rfl, rfl, rfl⟩).star
  replace S := S.front 2
  replace S := S.front 2
  replace S : St A N w w15 [oDStep s16 (a0.steps ++ [a1]), oB p9 T_Finder (Finder.C (⟨g_0_1, s11, (some m12), a0.left, a0.visits⟩ : Finder)), oT g_0_1 a0.t, oMSq m12 (Gw.ins a1.seq (a0.steps.length : Int) a0.at_), oB b2 T_Step (Step.C (⟨a1.seq, a1.proved, a1.rule, a1.main, s_1⟩ : Step))] [] := S.pushD
  refine wd (does_nilCheck ((hv17_0 : _ = Value.pointer a_0).trans (congrArg Value.pointer hp10))) ?_
  refine wd (does_fieldAddr fl_Finder_steps rfl (o' := 1) rfl) ?_
  refine wl_store on_L_api_Step rfl hv17_7 (S.blk 1) (by rw [Finder.len]; decide) (SlV.one _ _ rfl) (Finder.set_steps _ _) fun w18 B hw18 zw18 => ?_
  replace S : St A N w w18 [oB p9 T_Finder (Finder.C (⟨g_0_1, s16, (some m12), a0.left, a0.visits⟩ : Finder)), oDStep s16 (a0.steps ++ [a1]), oT g_0_1 a0.t, oMSq m12 (Gw.ins a1.seq (a0.steps.length : Int) a0.at_), oB b2 T_Step (Step.C (⟨a1.seq, a1.proved, a1.rule, a1.main, s_1⟩ : Step))] [] := S.store 1 B hw18
  clear B
  replace S := S.front 3
  replace S := S.front 2
  replace S := S.front 3
  replace S := S.front 3
  replace S : St A N w w18 [oF a_0 g_0_1 (⟨a0.t, a0.steps ++ [a1], Gw.ins a1.seq (a0.steps.length : Int) a0.at_, a0.left, a0.visits⟩ : PFinder), oB b2 T_Step (Step.C (⟨a1.seq, a1.proved, a1.rule, a1.main, s_1⟩ : Step))] [] := S.shut_oF hp10
  refine wl_nil ?_
  refine wc_seq (wc_region ?_)
  refine wd (does_mv_p rfl) ?_
  obtain ⟨p19, s21, m22, hp20, S⟩ := S.open_oF 0
  replace S : St A N w w18 [oB p19 T_Finder (Finder.C (⟨g_0_1, s21, (some m22), a0.left, a0.visits⟩ : Finder)), oT g_0_1 a0.t, oDStep s21 (a0.steps ++ [a1]), oMSq m22 (Gw.ins a1.seq (a0.steps.length : Int) a0.at_), oB b2 T_Step (Step.C (⟨a1.seq, a1.proved, a1.rule, a1.main, s_1⟩ : Step))] [] := S
  refine wd (does_nilCheck (congrArg Value.pointer hp20)) ?_
  refine wd (does_fieldAddr fl_Finder_steps rfl (o' := 1) rfl) ?_
  refine wd (does_load on_L_api_Step rfl ((S.blk 0).cell (Finder.get_steps _))) ?_
  refine wd (does_lenD sl_L_api_Step rfl (S.onO 2)) ?_
  refine wd (does_sub rfl rfl) ?_
  refine wd (does_as_i rfl) ?_
  refine wd (does_as_i rfl) ?_
  replace S := S.front 3
  replace S := S.front 3
  replace S := S.front 3
  replace S := S.front 3
  replace S : St A N w w18 [oF a_0 g_0_1 (⟨a0.t, a0.steps ++ [a1], Gw.ins a1.seq (a0.steps.length : Int) a0.at_, a0.left, a0.visits⟩ : PFinder), oB b2 T_Step (Step.C (⟨a1.seq, a1.proved, a1.rule, a1.main, s_1⟩ : Step))] [] := S.shut_oF hp20
  refine wl_nil ?_
  refine wc_ret ?_
  refine ⟨_, (rets2 (retOne_tmp rfl) (retOne_tmp rfl)), ?_⟩
  replace S : St A N w w18 [oF a_0 g_0_1 (⟨a0.t, a0.steps ++ [a1], Gw.ins a1.seq (a0.steps.length : Int) a0.at_, a0.left, a0.visits⟩ : PFinder)] [] := S.arr [0] []
  obtain rfl := Option.some.inj H
  exact ⟨rfl, S⟩
theorem search_finder_choose_gst {rec_search_finder_decide : PFinder → Sq → Option (PFinder × Int × Int)} (hrec_search_finder_decide : ∀ {A : Nat → Prop} {N : Oth} {w : World} {a0 : PFinder} {a_0 : Option Addr} {g_0_1 : Option Addr} {a1 : Sq} (S : St A N w w [oF a_0 g_0_1 a0] [oTz]) {r : PFinder × Int × Int} (H : rec_search_finder_decide a0 a1 = some r), Calls PP F_search_finder_decide #[.pointer a_0, .agg (Sq.C a1).toArray] w fun e w' => ∃ v, e = .returned v ∧ (v = .tuple #[.int .i64 r.2.1, .int .i64 r.2.2] ∧ St A N w w' [oF a_0 g_0_1 r.1] [])) {A : Nat → Prop} {N : Oth} {w : World} {a0 : PFinder} {a_0 : Option Addr} {g_0_1 : Option Addr} {a1 : Sq} (S : St A N w w [oF a_0 g_0_1 a0] [oTz]) {r : PFinder × Int × Int} (H : search_finder_choose.g rec_search_finder_decide a0 a1 = some r) :
    Calls PP F_search_finder_choose #[.pointer a_0, .agg (Sq.C a1).toArray] w fun e w' => ∃ v, e = .returned v ∧ (v = .tuple #[.int .i64 r.2.1, .int .i64 r.2.2] ∧ St A N w w' [oF a_0 g_0_1 r.1] []) := by
  unfold search_finder_choose.g at H
  refine calls_of_wc (n := 126) fn_search_finder_choose rfl rfl (by simp) ?_
  refine wc_seq (wc_region ?_)
  refine wl_box_agg rfl (by decide) fun b2 w1 hw1 => ?_
  replace S : St A N w w1 [oB b2 T_Sq (Sq.C a1), oF a_0 g_0_1 a0] [oTz] := S.new hw1
  refine wd (does_as_i rfl) ?_
  refine wd (does_as_i rfl) ?_
  refine wl_nil ?_
  refine wc_seq ?_
  obtain ⟨p3, s5, m6, hp4, S⟩ := S.open_oF 1
  replace S : St A N w w1 [oB p3 T_Finder (Finder.C (⟨g_0_1, s5, (some m6), a0.left, a0.visits⟩ : Finder)), oT g_0_1 a0.t, oDStep s5 a0.steps, oMSq m6 a0.at_, oB b2 T_Sq (Sq.C a1)] [oTz] := S
  refine wc_ws hmix fun w8 K => ?_
  replace S := S.ext K
  clear K
  refine ws_semi 0 5 [] (by kernel_rfl) (by decide) (by kernel_rfl)
   (V := fun i v u => match i with
    | _ => True) ?_ ?_
  · intro i v u u' hi hx hv
    match i, hv with
    | _, _ => exact trivial
  refine wm_does (fun v K => does_mv_p rfl) rfl ?_
  refine wm_does (fun v K => does_nilCheck (congrArg Value.pointer hp4)) rfl ?_
  refine wm_does (fun v K => does_fieldAddr fl_Finder_t rfl (o' := 0) rfl) rfl ?_
  refine wm_does (fun v K => does_load on_dictum_formula_has rfl (((S.ext K).blk 0).cell (Finder.get_t _))) rfl ?_
  refine wm_does (fun v K => does_load_agg ag_Sq rfl (((S.ext K).blk 4).all _ (Sq.len _)) (Sq.len _)) rfl ?_
  refine wm_nil fun g w9 K hV => ?_
  replace S := S.ext K
  clear K hV
  refine ws_chain 5 7 (by kernel_rfl) (by decide) ?_
  obtain ⟨r11, er11, H⟩ := bind_ex H
  obtain ⟨B13, MB13, SB13, back⟩ := S.calln 0 ((.o 1 rfl (.z 0 rfl .nil)))
  refine wl_call (does_call ca_rule_Choices) (by decide) (rule_Choices_st SB13 er11) ?_
  rintro _ w12 ⟨s14, s15, rfl, S2⟩
  replace S : St A N w w12 [oS T_api_Rule 1 IC s14 r11.1, oS T_int 1 IC s15 r11.2.1, oB p3 T_Finder (Finder.C (⟨g_0_1, s5, (some m6), a0.left, a0.visits⟩ : Finder)), oT g_0_1 a0.t, oDStep s5 a0.steps, oMSq m6 a0.at_, oB b2 T_Sq (Sq.C a1)] [oTz] := back _ _ _ _ S2 rfl
  clear back S2 SB13
  refine wd (does_mv_t rfl) ?_
  refine wl_nil ⟨rfl, ?_⟩
  refine ws_semi 7 12 [] (by kernel_rfl) (by decide) (by kernel_rfl)
   (V := fun i v u => match i with
    | _ => True) ?_ ?_
  · intro i v u u' hi hx hv
    match i, hv with
    | _, _ => exact trivial
  refine wm_does (fun v K => does_extract rfl rfl) rfl ?_
  refine wm_does (fun v K => does_extract rfl rfl) rfl ?_
  refine wm_does (fun v K => does_extract rfl rfl) rfl ?_
  refine wm_does (fun v K => does_as_l rfl) rfl ?_
  refine wm_does (fun v K => does_as_l rfl) rfl ?_
  refine wm_nil fun g w16 K hV => ?_
  replace S := S.ext K
  clear K hV
  refine ws_tail 12 (by kernel_rfl) (by decide) ?_
  refine wd (does_as_i rfl) ?_
  replace S := S.front 5
  replace S := S.front 5
  replace S := S.front 5
  replace S := S.front 5
  replace S : St A N w w16 [oF a_0 g_0_1 a0, oS T_api_Rule 1 IC s14 r11.1, oS T_int 1 IC s15 r11.2.1, oB b2 T_Sq (Sq.C a1)] [oTz] := S.shut_oF hp4
  refine wl_nil ?_
  refine wc_seq (wc_seq (wc_region ?_))
  refine wd (does_mv_i rfl) ?_
  refine wd (does_ne rfl rfl) ?_
  refine wl_nil ?_
  refine wc_if rfl (fun hc18 => ?_) (fun hc18 => ?_)
  · replace H := if_t hc18 H
    refine wc_seq (wc_region ?_)
    refine wd (does_mv_i rfl) ?_
    refine wd (does_as_i rfl) ?_
    refine wd (does_as_i rfl) ?_
    refine wl_nil ?_
    refine wc_ret ?_
    refine ⟨_, (rets2 (retOne_tmp rfl) (retOne_tmp rfl)), ?_⟩
    replace S : St A N w w16 [oF a_0 g_0_1 a0] [] := S.arr [0] []
    obtain rfl := Option.some.inj H
    exact ⟨rfl, S⟩
  replace H := if_f hc18 H
  refine wc_skip ?_
  refine wc_seq (wc_region ?_)
  refine wd (does_load_agg ag_Sq rfl ((S.blk 3).all _ (Sq.len _)) (Sq.len _)) ?_
  refine wd (Does.to (v' := .agg (Step.C (⟨a1, false, 14, 0, SlV.nil⟩ : Step)).toArray) (does_buildv (vs := [(0, .agg (Sq.C a1).toArray), (2, .int .i64 14)]) bu_Step (consP rfl (consP rfl rfl)) (Bld.step rfl rfl (Sq.len _) (by rw [Step.len]; decide) (Step.put_seq _ _) (Bld.one rfl rfl (by rw [Step.len]; decide) (Step.set_rule _ _) Bld.nil))) rfl) ?_
  refine wl_alloc ze_Step (by decide) fun b20 w19 hw19 => ?_
  replace S : St A N w w19 [oB b20 T_Step (Step.C (⟨Sq.z, false, 0, 0, SlV.nil⟩ : Step)), oF a_0 g_0_1 a0, oS T_api_Rule 1 IC s14 r11.1, oS T_int 1 IC s15 r11.2.1, oB b2 T_Sq (Sq.C a1)] [oTz] := S.new hw19
  refine wl_store_agg ag_Step rfl rfl (S.blk 0) (Step.len _) (by rw [Step.len]; decide) (Step.one _) (store_all (Step.len _)) fun w21 B hw21 zw21 => ?_
  replace S : St A N w w21 [oB b20 T_Step (Step.C (⟨a1, false, 14, 0, SlV.nil⟩ : Step)), oF a_0 g_0_1 a0, oS T_api_Rule 1 IC s14 r11.1, oS T_int 1 IC s15 r11.2.1, oB b2 T_Sq (Sq.C a1)] [oTz] := S.store 0 B hw21
  clear B
  refine wl_nil ?_
  refine wc_seq (wc_seq (wc_region ?_))
  refine wd (does_mv_l rfl) ?_
  refine wd (does_lenR sl_L_api_Rule rfl (S.rdO 2)) ?_
  refine wd (does_mv_i rfl) ?_
  refine wl_nil ?_
  replace S : St A N w w21 [oS T_int 1 IC SlV.nil ([] : List Int), oB b20 T_Step (Step.C (⟨a1, false, 14, 0, SlV.nil⟩ : Step)), oF a_0 g_0_1 a0, oS T_api_Rule 1 IC s14 r11.1, oS T_int 1 IC s15 r11.2.1, oB b2 T_Sq (Sq.C a1)] [oTz] := S.nil T_int 1 IC
  obtain ⟨o22, e22, Ho22⟩ := bind_ex H
  clear H
  refine wc_cutq [4, 5, 10, 11, 12, 13, 14, 15, 16, 17, 18, 36, 37, 38, 39, 40, 41, 42, 43, 44, 45, 46, 47, 48, 49, 50, 51, 52, 53, 54, 55, 56, 57, 58, 59, 60, 61, 62, 63, 64, 65, 66, 67, 68, 69, 70, 71, 72, 73, 74, 75, 76, 77, 78, 79, 80, 81, 82, 83, 84, 85, 86, 87, 88, 89, 90, 91, 92, 93, 94, 95, 96, 97, 98, 99, 100, 101, 102, 103, 104, 105, 106, 107, 108, 109, 110, 111, 112, 113, 114, 115, 116, 117, 118, 119, 120] (fun fr W => ∃ s22 : PStep × PFinder, o22 = .inl s22 ∧ ∃ s23 : SlV, St A N w W [oS T_int 1 IC s23 s22.1.kids, oB b20 T_Step (Step.C (⟨s22.1.seq, s22.1.proved, s22.1.rule, s22.1.main, s23⟩ : Step)), oF a_0 g_0_1 s22.2, oS T_api_Rule 1 IC s14 r11.1, oS T_int 1 IC s15 r11.2.1, oB b2 T_Sq (Sq.C a1)] [oTz]) ?_ ?_
  · refine wc_block ?_
    refine wc_loopm (α := Nat × Int × (PStep × PFinder)) [4, 5, 10, 11, 12, 13, 14, 15, 16, 17, 18, 36, 37, 38, 39, 40, 41, 42, 43, 44, 45, 46, 47, 48, 49, 50, 51, 52, 53, 54, 55, 56, 57, 58, 59, 60, 61, 62, 63, 64, 65, 66, 67, 68, 69, 70, 71, 72, 73, 74, 75, 76, 77, 78, 79, 80, 81, 82, 83, 84, 85, 86, 87, 88, 89, 90, 91, 92, 93, 94, 95, 96, 97, 98, 99, 100, 101, 102, 103, 104, 105, 106, 107, 108, 109, 110, 111, 112, 113, 114, 115, 116, 117, 118, 119, 120] (fun x fr W => (x.1 : Int) = (r11.1.length : Int) - x.2.1 ∧ 0 ≤ x.2.1 ∧ forN (fun i s => search_finder_choose.b0 r11 a1 rec_search_finder_decide i s.1 s.2) x.1 x.2.1 x.2.2 = some o22 ∧ ∃ s24 : SlV, fr 36 = .int .i64 x.2.1 ∧ St A N w W [oS T_int 1 IC s24 ((x.2.2.1).kids), oB b20 T_Step (Step.C (⟨(x.2.2.1).seq, (x.2.2.1).proved, (x.2.2.1).rule, (x.2.2.1).main, s24⟩ : Step)), oF a_0 g_0_1 (x.2.2.2), oS T_api_Rule 1 IC s14 r11.1, oS T_int 1 IC s15 r11.2.1, oB b2 T_Sq (Sq.C a1)] [oTz]) (fun x => x.1) (((r11.1.length : Int) - 0).toNat, 0, ((⟨a1, false, 14, 0, ([] : List Int)⟩ : PStep), a0)) ⟨(by dsimp only; have hle := Int.natCast_nonneg (r11.1.length); omega), (Int.le_refl _), (by dsimp only; exact e22), SlV.nil, rfl, S⟩ ?_
    rintro ⟨m22, i22, ⟨x22_0, x22_1⟩⟩ g22 u22 ⟨hm22, hl22, e22, s25, q22_i, S⟩
    try dsimp only at hm22
    try dsimp only at hl22
    try dsimp only at e22
    try dsimp only at S
    try dsimp only at q22_i
    refine wc_seq (wc_region ?_)
    refine wd (does_lt q22_i rfl) ?_
    refine wl_nil ?_
    refine wc_seq ?_
    refine wc_if rfl (fun hc26 => ?_) (fun hc26 => ?_)
    rotate_left
    · refine wc_exit ?_
      have hge : (r11.1.length : Int) ≤ i22 := Int.not_lt.1 (of_decide_eq_false hc26)
      obtain rfl : m22 = 0 := by omega
      replace e22 := forN_0 e22
      exact ⟨rfl, ((Dif.self _ _ _).upd rfl _), (x22_0, x22_1), e22, s25, S⟩
    refine wc_skip ?_
    have hlt22 : i22 < (r11.1.length : Int) := of_decide_eq_true hc26
    obtain ⟨m22, rfl⟩ : ∃ m, m22 = m + 1 := ⟨m22 - 1, by omega⟩
    obtain ⟨q22, H, e22⟩ := forN_s e22
    unfold search_finder_choose.b0 at H
    try dsimp only at H
    have hb22 := (S.lenO 3)
    refine wc_seq ?_
    refine wc_block ?_
    refine wc_seq (wc_region ?_)
    refine wd (does_mv_i q22_i) ?_
    refine wd (does_indexR sl_L_api_Rule rfl q22_i (S.rdO 3) (And.intro (show 0 ≤ i22 by omega) (show i22 < (r11.1.length : Int) from hlt22)).1 (And.intro (show 0 ≤ i22 by omega) (show i22 < (r11.1.length : Int) from hlt22)).2) ?_
    refine wd (does_load on_api_Rule rfl ((S.rdO 3).one (at_some (0 : Int) (And.intro (show 0 ≤ i22 by omega) (show i22 < (r11.1.length : Int) from hlt22))) rfl)) ?_
    refine wd (does_as_i rfl) ?_
    refine wd (does_as_i rfl) ?_
    refine wl_nil ?_
    refine wc_seq ?_
    obtain ⟨p28, s30, m31, hp29, S⟩ := S.open_oF 2
    replace S : St A N w u22 [oB p28 T_Finder (Finder.C (⟨g_0_1, s30, (some m31), x22_1.left, x22_1.visits⟩ : Finder)), oT g_0_1 x22_1.t, oDStep s30 x22_1.steps, oMSq m31 x22_1.at_, oS T_int 1 IC s25 x22_0.kids, oB b20 T_Step (Step.C (⟨x22_0.seq, x22_0.proved, x22_0.rule, x22_0.main, s25⟩ : Step)), oS T_api_Rule 1 IC s14 r11.1, oS T_int 1 IC s15 r11.2.1, oB b2 T_Sq (Sq.C a1)] [oTz] := S
    refine wc_ws hmix fun w34 K => ?_
    replace S := S.ext K
    clear K
    obtain ⟨hi35, H⟩ := chk_ex H
    refine ws_semi 0 10 [] (by kernel_rfl) (by decide) (by kernel_rfl)
     (V := fun i v u => match i with
      | _ => True) ?_ ?_
    · intro i v u u' hi hx hv
      match i, hv with
      | _, _ => exact trivial
    refine wm_does (fun v K => does_mv_p rfl) rfl ?_
    refine wm_does (fun v K => does_nilCheck (congrArg Value.pointer hp29)) rfl ?_
    refine wm_does (fun v K => does_fieldAddr fl_Finder_t rfl (o' := 0) rfl) rfl ?_
    refine wm_does (fun v K => does_load on_dictum_formula_has rfl (((S.ext K).blk 0).cell (Finder.get_t _))) rfl ?_
    refine wm_does (fun v K => does_load_agg ag_Sq rfl (((S.ext K).blk 8).all _ (Sq.len _)) (Sq.len _)) rfl ?_
    refine wm_does (fun v K => does_mv_i rfl) rfl ?_
    refine wm_does (fun v K => does_mv_l rfl) rfl ?_
    refine wm_does (fun v K => does_mv_i rfl) rfl ?_
    refine wm_does (fun v K => does_indexR sl_L_int rfl rfl ((S.ext K).rdO 7) (inb_ex hi35).1 (inb_ex hi35).2) rfl ?_
    refine wm_does (fun v K => does_load on_int rfl (((S.ext K).rdO 7).one (at_some (0 : Int) (inb_ex hi35)) rfl)) rfl ?_
    refine wm_nil fun g w36 K hV => ?_
    replace S := S.ext K
    clear K hV
    refine ws_chain 10 12 (by kernel_rfl) (by decide) ?_
    obtain ⟨r38, er38, H⟩ := bind_ex H
    replace S : St A N w w36 [oT g_0_1 x22_1.t, oB p28 T_Finder (Finder.C (⟨g_0_1, s30, (some m31), x22_1.left, x22_1.visits⟩ : Finder)), oDStep s30 x22_1.steps, oMSq m31 x22_1.at_, oS T_int 1 IC s25 x22_0.kids, oB b20 T_Step (Step.C (⟨x22_0.seq, x22_0.proved, x22_0.rule, x22_0.main, s25⟩ : Step)), oS T_api_Rule 1 IC s14 r11.1, oS T_int 1 IC s15 r11.2.1, oB b2 T_Sq (Sq.C a1)] [oTz] := S.front 1
    obtain ⟨B40, MB40, SB40, back⟩ := S.calln 1 ((.z 0 rfl .nil))
    refine wl_call (does_call ca_rule_Premises) (by decide) (rule_Premises_st SB40 er38) ?_
    rintro _ w39 ⟨s41, rfl, S2⟩
    replace S : St A N w w39 [oT g_0_1 r38.1, oS T_Sq 17 Sq.C s41 r38.2.1, oB p28 T_Finder (Finder.C (⟨g_0_1, s30, (some m31), x22_1.left, x22_1.visits⟩ : Finder)), oDStep s30 x22_1.steps, oMSq m31 x22_1.at_, oS T_int 1 IC s25 x22_0.kids, oB b20 T_Step (Step.C (⟨x22_0.seq, x22_0.proved, x22_0.rule, x22_0.main, s25⟩ : Step)), oS T_api_Rule 1 IC s14 r11.1, oS T_int 1 IC s15 r11.2.1, oB b2 T_Sq (Sq.C a1)] [oTz] := back _ _ _ _ S2 rfl
    clear back S2 SB40
    refine wd (does_mv_t rfl) ?_
    refine wl_nil ⟨rfl, ?_⟩
    refine ws_semi 12 15 [] (by kernel_rfl) (by decide) (by kernel_rfl)
     (V := fun i v u => match i with
      | _ => True) ?_ ?_
    · intro i v u u' hi hx hv
      match i, hv with
      | _, _ => exact trivial
    refine wm_does (fun v K => does_extract rfl rfl) rfl ?_
    refine wm_does (fun v K => does_extract rfl rfl) rfl ?_
    refine wm_does (fun v K => does_as_l rfl) rfl ?_
    refine wm_nil fun g w42 K hV => ?_
    replace S := S.ext K
    clear K hV
    refine ws_tail 15 (by kernel_rfl) (by decide) ?_
    refine wd (does_as_i rfl) ?_
    replace S := S.front 4
    replace S := S.front 4
    replace S := S.front 2
    replace S := S.front 4
    replace S : St A N w w42 [oF a_0 g_0_1 (⟨r38.1, x22_1.steps, x22_1.at_, x22_1.left, x22_1.visits⟩ : PFinder), oS T_Sq 17 Sq.C s41 r38.2.1, oS T_int 1 IC s25 x22_0.kids, oB b20 T_Step (Step.C (⟨x22_0.seq, x22_0.proved, x22_0.rule, x22_0.main, s25⟩ : Step)), oS T_api_Rule 1 IC s14 r11.1, oS T_int 1 IC s15 r11.2.1, oB b2 T_Sq (Sq.C a1)] [oTz] := S.shut_oF hp29
    refine wl_nil ?_
    refine wc_seq (wc_seq (wc_region ?_))
    refine wd (does_mv_i rfl) ?_
    refine wd (does_ne rfl rfl) ?_
    refine wl_nil ?_
    refine wc_if rfl (fun hc44 => ?_) (fun hc44 => ?_)
    · replace H := if_t hc44 H
      refine wc_seq (wc_region ?_)
      refine wd (does_mv_i rfl) ?_
      refine wd (does_as_i rfl) ?_
      refine wd (does_as_i rfl) ?_
      refine wl_nil ?_
      refine wc_ret ?_
      refine ⟨_, (rets2 (retOne_tmp rfl) (retOne_tmp rfl)), ?_⟩
      replace S : St A N w w42 [oF a_0 g_0_1 (⟨r38.1, x22_1.steps, x22_1.at_, x22_1.left, x22_1.visits⟩ : PFinder)] [] := S.arr [0] []
      obtain rfl := Option.some.inj H
      obtain rfl := e22
      obtain rfl := aft_r Ho22
      exact ⟨rfl, S⟩
    replace H := if_f hc44 H
    refine wc_skip ?_
    refine wc_seq ?_
    obtain ⟨hi45, H⟩ := chk_ex H
    refine wc_semi 8 [7]
      (fun i v u => match i with
      | 7 => ∃ b, v = Value.pointer (some ⟨b, 0, none⟩) ∧ Blk u b T_Step (Step.C (⟨Sq.z, false, 0, 0, SlV.nil⟩ : Step)) ∧ w42.heap.size ≤ b
      | _ => True) hmix (by kernel_rfl) (by kernel_rfl) ?_ ?_
    · intro i v u u' hi hx hv
      match i, hv with
      | 7, ⟨b, e1, hb, hl⟩ => exact ⟨b, e1, hb.ext hx, hl⟩
      | 0, _ => exact trivial
      | 1, _ => exact trivial
      | 2, _ => exact trivial
      | 3, _ => exact trivial
      | 4, _ => exact trivial
      | 5, _ => exact trivial
      | 6, _ => exact trivial
      | _ + 8, _ => exact trivial
    refine wm_does (fun v K => does_load_agg ag_Sq rfl (((S.ext K).blk 6).all _ (Sq.len _)) (Sq.len _)) rfl ?_
    refine wm_does (fun v K => does_mv_i rfl) rfl ?_
    refine wm_does (fun v K => does_mv_l rfl) rfl ?_
    refine wm_does (fun v K => does_mv_i rfl) rfl ?_
    refine wm_does (fun v K => does_indexR sl_L_int rfl rfl ((S.ext K).rdO 5) (inb_ex hi45).1 (inb_ex hi45).2) rfl ?_
    refine wm_does (fun v K => does_load on_int rfl (((S.ext K).rdO 5).one (at_some (0 : Int) (inb_ex hi45)) rfl)) rfl ?_
    refine wm_does (fun v K => Does.to (v' := .agg (Step.C (⟨a1, true, at_ (0 : Int) r11.1 i22, at_ (0 : Int) r11.2.1 i22, SlV.nil⟩ : Step)).toArray) (does_buildv (vs := [(0, .agg (Sq.C a1).toArray), (1, .bool true), (2, .int .i64 (at_ (0 : Int) r11.1 i22)), (3, .int .i64 (at_ (0 : Int) r11.2.1 i22))]) bu_Step (consP rfl (consP rfl (consP rfl (consP rfl rfl)))) (Bld.step rfl rfl (Sq.len _) (by rw [Step.len]; decide) (Step.put_seq _ _) (Bld.one rfl rfl (by rw [Step.len]; decide) (Step.set_proved _ _) (Bld.one rfl rfl (by rw [Step.len]; decide) (Step.set_rule _ _) (Bld.one rfl rfl (by rw [Step.len]; decide) (Step.set_main _ _) Bld.nil))))) rfl) rfl ?_
    refine wm_new (fun g v K G => (have ⟨v', hd, hn⟩ := does_allocN ze_Step; ⟨_, v', hd, hn.ext, _, rfl, hn.blk, K.size⟩)) rfl ?_
    refine wm_nil fun g w47 K hV => ?_
    obtain ⟨b46, hv487, hb7, hf7⟩ := hV 7 rfl (by decide)
    replace S : St A N w w47 [oB b46 T_Step (Step.C (⟨Sq.z, false, 0, 0, SlV.nil⟩ : Step)), oF a_0 g_0_1 (⟨r38.1, x22_1.steps, x22_1.at_, x22_1.left, x22_1.visits⟩ : PFinder), oS T_Sq 17 Sq.C s41 r38.2.1, oS T_int 1 IC s25 x22_0.kids, oB b20 T_Step (Step.C (⟨x22_0.seq, x22_0.proved, x22_0.rule, x22_0.main, s25⟩ : Step)), oS T_api_Rule 1 IC s14 r11.1, oS T_int 1 IC s15 r11.2.1, oB b2 T_Sq (Sq.C a1)] [oTz] := S.newAt K hb7 hf7
    clear K hV
    refine wl_store_agg ag_Step hv487 rfl (S.blk 0) (Step.len _) (by rw [Step.len]; decide) (Step.one _) (store_all (Step.len _)) fun w49 B hw49 zw49 => ?_
    replace S : St A N w w49 [oB b46 T_Step (Step.C (⟨a1, true, at_ (0 : Int) r11.1 i22, at_ (0 : Int) r11.2.1 i22, SlV.nil⟩ : Step)), oF a_0 g_0_1 (⟨r38.1, x22_1.steps, x22_1.at_, x22_1.left, x22_1.visits⟩ : PFinder), oS T_Sq 17 Sq.C s41 r38.2.1, oS T_int 1 IC s25 x22_0.kids, oB b20 T_Step (Step.C (⟨x22_0.seq, x22_0.proved, x22_0.rule, x22_0.main, s25⟩ : Step)), oS T_api_Rule 1 IC s14 r11.1, oS T_int 1 IC s15 r11.2.1, oB b2 T_Sq (Sq.C a1)] [oTz] := S.store 0 B hw49
    clear B
    refine wl_nil ?_
    refine wc_seq (wc_seq (wc_region ?_))
    refine wd (does_mv_l rfl) ?_
    refine wd (does_lenR sl_L_api_Seq rfl (S.rdO 2)) ?_
    refine wd (does_mv_i rfl) ?_
    refine wl_nil ?_
    replace S : St A N w w49 [oS T_int 1 IC SlV.nil ([] : List Int), oB b46 T_Step (Step.C (⟨a1, true, at_ (0 : Int) r11.1 i22, at_ (0 : Int) r11.2.1 i22, SlV.nil⟩ : Step)), oF a_0 g_0_1 (⟨r38.1, x22_1.steps, x22_1.at_, x22_1.left, x22_1.visits⟩ : PFinder), oS T_Sq 17 Sq.C s41 r38.2.1, oS T_int 1 IC s25 x22_0.kids, oB b20 T_Step (Step.C (⟨x22_0.seq, x22_0.proved, x22_0.rule, x22_0.main, s25⟩ : Step)), oS T_api_Rule 1 IC s14 r11.1, oS T_int 1 IC s15 r11.2.1, oB b2 T_Sq (Sq.C a1)] [oTz] := S.nil T_int 1 IC
    obtain ⟨o50, e50, Ho50⟩ := bind_ex H
    clear H
    refine wc_cutq [4, 5, 15, 16, 17, 18, 67, 68, 69, 70, 71, 72, 73, 74, 75, 76, 77, 78, 79, 80, 81, 82, 83, 84, 85, 86, 87, 88, 89, 90, 91, 92, 93, 94, 95, 96, 97, 98, 99, 100, 101, 102, 103, 104, 105, 106, 107, 108, 109, 110, 111, 112] (fun fr W => ∃ s50 : PStep × PFinder × PStep, o50 = .inl s50 ∧ ∃ s51 : SlV, ∃ s52 : SlV, St A N w W [oS T_int 1 IC s51 s50.1.kids, oB b46 T_Step (Step.C (⟨s50.1.seq, s50.1.proved, s50.1.rule, s50.1.main, s51⟩ : Step)), oF a_0 g_0_1 s50.2.1, oS T_Sq 17 Sq.C s41 r38.2.1, oS T_int 1 IC s52 s50.2.2.kids, oB b20 T_Step (Step.C (⟨s50.2.2.seq, s50.2.2.proved, s50.2.2.rule, s50.2.2.main, s52⟩ : Step)), oS T_api_Rule 1 IC s14 r11.1, oS T_int 1 IC s15 r11.2.1, oB b2 T_Sq (Sq.C a1)] [oTz]) ?_ ?_
    · refine wc_block ?_
      refine wc_loopm (α := Nat × Int × (PStep × PFinder × PStep)) [4, 5, 15, 16, 17, 18, 67, 68, 69, 70, 71, 72, 73, 74, 75, 76, 77, 78, 79, 80, 81, 82, 83, 84, 85, 86, 87, 88, 89, 90, 91, 92, 93, 94, 95, 96, 97, 98, 99, 100, 101, 102, 103, 104, 105, 106, 107, 108, 109, 110, 111, 112] (fun x fr W => (x.1 : Int) = (r38.2.1.length : Int) - x.2.1 ∧ 0 ≤ x.2.1 ∧ forN (fun i s => search_finder_choose.b1 rec_search_finder_decide r38 i s.1 s.2.1 s.2.2) x.1 x.2.1 x.2.2 = some o50 ∧ ∃ s53 : SlV, ∃ s54 : SlV, fr 67 = .int .i64 x.2.1 ∧ St A N w W [oS T_int 1 IC s53 ((x.2.2.1).kids), oB b46 T_Step (Step.C (⟨(x.2.2.1).seq, (x.2.2.1).proved, (x.2.2.1).rule, (x.2.2.1).main, s53⟩ : Step)), oF a_0 g_0_1 (x.2.2.2.1), oS T_Sq 17 Sq.C s41 r38.2.1, oS T_int 1 IC s54 ((x.2.2.2.2).kids), oB b20 T_Step (Step.C (⟨(x.2.2.2.2).seq, (x.2.2.2.2).proved, (x.2.2.2.2).rule, (x.2.2.2.2).main, s54⟩ : Step)), oS T_api_Rule 1 IC s14 r11.1, oS T_int 1 IC s15 r11.2.1, oB b2 T_Sq (Sq.C a1)] [oTz]) (fun x => x.1) (((r38.2.1.length : Int) - 0).toNat, 0, ((⟨a1, true, at_ (0 : Int) r11.1 i22, at_ (0 : Int) r11.2.1 i22, ([] : List Int)⟩ : PStep), (⟨r38.1, x22_1.steps, x22_1.at_, x22_1.left, x22_1.visits⟩ : PFinder), x22_0)) ⟨(by dsimp only; have hle := Int.natCast_nonneg (r38.2.1.length); omega), (Int.le_refl _), (by dsimp only; exact e50), SlV.nil, s25, rfl, S⟩ ?_
      rintro ⟨m50, i50, ⟨x50_0, x50_1, x50_2⟩⟩ g50 u50 ⟨hm50, hl50, e50, s55, s56, q50_i, S⟩
      try dsimp only at hm50
      try dsimp only at hl50
      try dsimp only at e50
      try dsimp only at S
      try dsimp only at q50_i
      refine wc_seq (wc_region ?_)
      refine wd (does_lt q50_i rfl) ?_
      refine wl_nil ?_
      refine wc_seq ?_
      refine wc_if rfl (fun hc57 => ?_) (fun hc57 => ?_)
      rotate_left
      · refine wc_exit ?_
        have hge : (r38.2.1.length : Int) ≤ i50 := Int.not_lt.1 (of_decide_eq_false hc57)
        obtain rfl : m50 = 0 := by omega
        replace e50 := forN_0 e50
        exact ⟨rfl, ((Dif.self _ _ _).upd rfl _), (x50_0, x50_1, x50_2), e50, s55, s56, S⟩
      refine wc_skip ?_
      have hlt50 : i50 < (r38.2.1.length : Int) := of_decide_eq_true hc57
      obtain ⟨m50, rfl⟩ : ∃ m, m50 = m + 1 := ⟨m50 - 1, by omega⟩
      obtain ⟨q50, H, e50⟩ := forN_s e50
      unfold search_finder_choose.b1 at H
      try dsimp only at H
      have hb50 := (S.lenO 3)
      refine wc_seq ?_
      refine wc_block ?_
      refine wc_seq (wc_region ?_)
      refine wd (does_mv_i q50_i) ?_
      refine wd (does_indexR sl_L_api_Seq rfl q50_i (S.rdO 3) (And.intro (show 0 ≤ i50 by omega) (show i50 < (r38.2.1.length : Int) from hlt50)).1 (And.intro (show 0 ≤ i50 by omega) (show i50 < (r38.2.1.length : Int) from hlt50)).2) ?_
      refine wd (does_load_agg ag_Sq rfl ((S.rdO 3).at (at_some Sq.z (And.intro (show 0 ≤ i50 by omega) (show i50 < (r38.2.1.length : Int) from hlt50)))) (Sq.len _)) ?_
      refine wl_alloc ze_Sq (by decide) fun b60 w59 hw59 => ?_
      replace S : St A N w w59 [oB b60 T_Sq (Sq.C Sq.z), oS T_int 1 IC s55 x50_0.kids, oB b46 T_Step (Step.C (⟨x50_0.seq, x50_0.proved, x50_0.rule, x50_0.main, s55⟩ : Step)), oF a_0 g_0_1 x50_1, oS T_Sq 17 Sq.C s41 r38.2.1, oS T_int 1 IC s56 x50_2.kids, oB b20 T_Step (Step.C (⟨x50_2.seq, x50_2.proved, x50_2.rule, x50_2.main, s56⟩ : Step)), oS T_api_Rule 1 IC s14 r11.1, oS T_int 1 IC s15 r11.2.1, oB b2 T_Sq (Sq.C a1)] [oTz] := S.new hw59
      refine wd (does_as_i rfl) ?_
      refine wl_store_agg ag_Sq rfl rfl (S.blk 0) (Sq.len _) (by rw [Sq.len]; decide) (Sq.one _) (store_all (Sq.len _)) fun w61 B hw61 zw61 => ?_
      replace S : St A N w w61 [oB b60 T_Sq (Sq.C (at_ Sq.z r38.2.1 i50)), oS T_int 1 IC s55 x50_0.kids, oB b46 T_Step (Step.C (⟨x50_0.seq, x50_0.proved, x50_0.rule, x50_0.main, s55⟩ : Step)), oF a_0 g_0_1 x50_1, oS T_Sq 17 Sq.C s41 r38.2.1, oS T_int 1 IC s56 x50_2.kids, oB b20 T_Step (Step.C (⟨x50_2.seq, x50_2.proved, x50_2.rule, x50_2.main, s56⟩ : Step)), oS T_api_Rule 1 IC s14 r11.1, oS T_int 1 IC s15 r11.2.1, oB b2 T_Sq (Sq.C a1)] [oTz] := S.store 0 B hw61
      clear B
      refine wl_nil ?_
      refine wc_seq (wc_region ?_)
      refine wd (does_mv_p rfl) ?_
      refine wd (does_load_agg ag_Sq rfl ((S.blk 0).all _ (Sq.len _)) (Sq.len _)) ?_
      obtain ⟨r62, er62, H⟩ := bind_ex H
      replace S : St A N w w61 [oF a_0 g_0_1 x50_1, oB b60 T_Sq (Sq.C (at_ Sq.z r38.2.1 i50)), oS T_int 1 IC s55 x50_0.kids, oB b46 T_Step (Step.C (⟨x50_0.seq, x50_0.proved, x50_0.rule, x50_0.main, s55⟩ : Step)), oS T_Sq 17 Sq.C s41 r38.2.1, oS T_int 1 IC s56 x50_2.kids, oB b20 T_Step (Step.C (⟨x50_2.seq, x50_2.proved, x50_2.rule, x50_2.main, s56⟩ : Step)), oS T_api_Rule 1 IC s14 r11.1, oS T_int 1 IC s15 r11.2.1, oB b2 T_Sq (Sq.C a1)] [oTz] := S.front 3
      obtain ⟨B64, MB64, SB64, back⟩ := S.calln 1 ((.z 0 rfl .nil))
      refine wl_call (does_call ca_search_finder_decide) (by decide) (hrec_search_finder_decide SB64 er62) ?_
      rintro _ w63 ⟨rfl, S2⟩
      replace S : St A N w w63 [oF a_0 g_0_1 r62.1, oB b60 T_Sq (Sq.C (at_ Sq.z r38.2.1 i50)), oS T_int 1 IC s55 x50_0.kids, oB b46 T_Step (Step.C (⟨x50_0.seq, x50_0.proved, x50_0.rule, x50_0.main, s55⟩ : Step)), oS T_Sq 17 Sq.C s41 r38.2.1, oS T_int 1 IC s56 x50_2.kids, oB b20 T_Step (Step.C (⟨x50_2.seq, x50_2.proved, x50_2.rule, x50_2.main, s56⟩ : Step)), oS T_api_Rule 1 IC s14 r11.1, oS T_int 1 IC s15 r11.2.1, oB b2 T_Sq (Sq.C a1)] [oTz] := back _ _ _ _ S2 rfl
      clear back S2 SB64
      refine wd (does_mv_t rfl) ?_
      refine wd (does_extract rfl rfl) ?_
      refine wd (does_extract rfl rfl) ?_
      refine wd (does_as_i rfl) ?_
      refine wd (does_as_i rfl) ?_
      refine wl_nil ?_
      refine wc_seq (wc_seq (wc_region ?_))
      refine wd (does_mv_i rfl) ?_
      refine wd (does_ne rfl rfl) ?_
      refine wl_nil ?_
      refine wc_if rfl (fun hc65 => ?_) (fun hc65 => ?_)
      · replace H := if_t hc65 H
        refine wc_seq (wc_region ?_)
        refine wd (does_mv_i rfl) ?_
        refine wd (does_as_i rfl) ?_
        refine wd (does_as_i rfl) ?_
        refine wl_nil ?_
        refine wc_ret ?_
        refine ⟨_, (rets2 (retOne_tmp rfl) (retOne_tmp rfl)), ?_⟩
        replace S : St A N w w63 [oF a_0 g_0_1 r62.1] [] := S.arr [0] []
        obtain rfl := Option.some.inj H
        obtain rfl := e50
        obtain rfl := aft_r Ho50
        obtain rfl := e22
        obtain rfl := aft_r Ho22
        exact ⟨rfl, S⟩
      replace H := if_f hc65 H
      refine wc_skip ?_
      refine wc_seq (wc_region ?_)
      refine wd (does_fieldAddr fl_Step_kids hv487 (o' := 20) rfl) ?_
      refine wd (does_load on_L_int rfl ((S.blk 3).cell (Step.get_kids _))) ?_
      refine wd (does_mv_i rfl) ?_
      refine wl_lits (C := IC) (l := [r62.2.1]) (vs := [.int .i64 r62.2.1]) sl_L_int el_int.zero rfl rfl (fun _ _ => rfl) (by decide) rfl (by decide) fun b67 w66 s68 hBw66 hw66 => ?_
      replace S : St A N w w66 [oS T_int 1 IC s68 ([r62.2.1]), oF a_0 g_0_1 r62.1, oB b60 T_Sq (Sq.C (at_ Sq.z r38.2.1 i50)), oS T_int 1 IC s55 x50_0.kids, oB b46 T_Step (Step.C (⟨x50_0.seq, x50_0.proved, x50_0.rule, x50_0.main, s55⟩ : Step)), oS T_Sq 17 Sq.C s41 r38.2.1, oS T_int 1 IC s56 x50_2.kids, oB b20 T_Step (Step.C (⟨x50_2.seq, x50_2.proved, x50_2.rule, x50_2.main, s56⟩ : Step)), oS T_api_Rule 1 IC s14 r11.1, oS T_int 1 IC s15 r11.2.1, oB b2 T_Sq (Sq.C a1)] [oTz] := S.lit hBw66 hw66 (by simp)
      obtain ⟨ha71, H⟩ := chk_ex H
      have ha71 := of_decide_eq_true ha71
      refine wl_appends (C := IC) sl_L_int el_int rfl rfl (S.sl 3) (S.rdO 0) (by simp) (fun a _ v hv => by rw [List.mem_singleton.1 hv]; rfl) ha71 (by omega) (by decide) fun s70 w69 O hw69 gw69 => ?_
      replace S : St A N w w69 [oS T_int 1 IC s70 (x50_0.kids ++ [r62.2.1]), oS T_int 1 IC s68 ([r62.2.1]), oF a_0 g_0_1 r62.1, oB b60 T_Sq (Sq.C (at_ Sq.z r38.2.1 i50)), oB b46 T_Step (Step.C (⟨x50_0.seq, x50_0.proved, x50_0.rule, x50_0.main, s55⟩ : Step)), oS T_Sq 17 Sq.C s41 r38.2.1, oS T_int 1 IC s56 x50_2.kids, oB b20 T_Step (Step.C (⟨x50_2.seq, x50_2.proved, x50_2.rule, x50_2.main, s56⟩ : Step)), oS T_api_Rule 1 IC s14 r11.1, oS T_int 1 IC s15 r11.2.1, oB b2 T_Sq (Sq.C a1)] [oTz] := S.push 3 O (by first | (simp; done) | (simp; omega)) hw69 gw69
      clear O
      refine wd (does_fieldAddr fl_Step_kids hv487 (o' := 20) rfl) ?_
      refine wl_store on_L_int rfl rfl (S.blk 4) (by rw [Step.len]; decide) (SlV.one _ _ rfl) (Step.set_kids _ _) fun w72 B hw72 zw72 => ?_
      replace S : St A N w w72 [oB b46 T_Step (Step.C (⟨x50_0.seq, x50_0.proved, x50_0.rule, x50_0.main, s70⟩ : Step)), oS T_int 1 IC s70 (x50_0.kids ++ [r62.2.1]), oS T_int 1 IC s68 ([r62.2.1]), oF a_0 g_0_1 r62.1, oB b60 T_Sq (Sq.C (at_ Sq.z r38.2.1 i50)), oS T_Sq 17 Sq.C s41 r38.2.1, oS T_int 1 IC s56 x50_2.kids, oB b20 T_Step (Step.C (⟨x50_2.seq, x50_2.proved, x50_2.rule, x50_2.main, s56⟩ : Step)), oS T_api_Rule 1 IC s14 r11.1, oS T_int 1 IC s15 r11.2.1, oB b2 T_Sq (Sq.C a1)] [oTz] := S.store 4 B hw72
      clear B
      refine wl_nil ?_
      refine wc_seq (wc_seq (wc_region ?_))
      refine wd (does_mv_p rfl) ?_
      obtain ⟨p73, s75, m76, hp74, S⟩ := S.open_oF 3
      replace S : St A N w w72 [oB p73 T_Finder (Finder.C (⟨g_0_1, s75, (some m76), r62.1.left, r62.1.visits⟩ : Finder)), oT g_0_1 r62.1.t, oDStep s75 r62.1.steps, oMSq m76 r62.1.at_, oB b46 T_Step (Step.C (⟨x50_0.seq, x50_0.proved, x50_0.rule, x50_0.main, s70⟩ : Step)), oS T_int 1 IC s70 (x50_0.kids ++ [r62.2.1]), oS T_int 1 IC s68 ([r62.2.1]), oB b60 T_Sq (Sq.C (at_ Sq.z r38.2.1 i50)), oS T_Sq 17 Sq.C s41 r38.2.1, oS T_int 1 IC s56 x50_2.kids, oB b20 T_Step (Step.C (⟨x50_2.seq, x50_2.proved, x50_2.rule, x50_2.main, s56⟩ : Step)), oS T_api_Rule 1 IC s14 r11.1, oS T_int 1 IC s15 r11.2.1, oB b2 T_Sq (Sq.C a1)] [oTz] := S
      refine wd (does_nilCheck (congrArg Value.pointer hp74)) ?_
      refine wd (does_fieldAddr fl_Finder_steps rfl (o' := 1) rfl) ?_
      refine wd (does_load on_L_api_Step rfl ((S.blk 0).cell (Finder.get_steps _))) ?_
      refine wd (does_mv_i rfl) ?_
      obtain ⟨hi77, H⟩ := chk_ex H
      refine wd (does_indexD sl_L_api_Step rfl rfl (S.onO 2) (inb_ex hi77).1 (inb_ex hi77).2) ?_
      refine wd (does_fieldAddr fl_Step_proved rfl (o' := _) rfl) ?_
      refine wd (does_load on_bool rfl (oD.cell (z := PStep.z) (S.onO 2) (inb_ex hi77) (fun _ => rStep.get_proved))) ?_
      replace S := S.front 3
      replace S := S.front 3
      replace S := S.front 3
      replace S := S.front 3
      replace S : St A N w w72 [oF a_0 g_0_1 r62.1, oB b46 T_Step (Step.C (⟨x50_0.seq, x50_0.proved, x50_0.rule, x50_0.main, s70⟩ : Step)), oS T_int 1 IC s70 (x50_0.kids ++ [r62.2.1]), oS T_int 1 IC s68 ([r62.2.1]), oB b60 T_Sq (Sq.C (at_ Sq.z r38.2.1 i50)), oS T_Sq 17 Sq.C s41 r38.2.1, oS T_int 1 IC s56 x50_2.kids, oB b20 T_Step (Step.C (⟨x50_2.seq, x50_2.proved, x50_2.rule, x50_2.main, s56⟩ : Step)), oS T_api_Rule 1 IC s14 r11.1, oS T_int 1 IC s15 r11.2.1, oB b2 T_Sq (Sq.C a1)] [oTz] := S.shut_oF hp74
      refine wl_nil ?_
      refine wc_if rfl (fun hc78 => ?_) (fun hc78 => ?_)
      · replace H := if_t hc78 H
        refine wc_exit ?_
        refine wc_region ?_
        refine wd (does_addc q50_i rfl (c := i50 + 1) rfl (by omega) (by omega)) ?_
        refine wd (does_mv_i rfl) ?_
        refine wl_nil ?_
        replace S : St A N w w72 [oS T_int 1 IC s70 (x50_0.kids ++ [r62.2.1]), oB b46 T_Step (Step.C (⟨x50_0.seq, x50_0.proved, x50_0.rule, x50_0.main, s70⟩ : Step)), oF a_0 g_0_1 r62.1, oS T_Sq 17 Sq.C s41 r38.2.1, oS T_int 1 IC s56 x50_2.kids, oB b20 T_Step (Step.C (⟨x50_2.seq, x50_2.proved, x50_2.rule, x50_2.main, s56⟩ : Step)), oS T_api_Rule 1 IC s14 r11.1, oS T_int 1 IC s15 r11.2.1, oB b2 T_Sq (Sq.C a1)] [oTz] := S.arr [2, 1, 0, 5, 6, 7, 8, 9, 10] [0]
        obtain rfl := Option.some.inj H
        exact ⟨rfl, (((((((((((((((((((((((((((((((((Dif.self _ _ _).upd rfl _).upd rfl _).upd rfl _).upd rfl _).upd rfl _).upd rfl _).upd rfl _).upd rfl _).upd rfl _).upd rfl _).upd rfl _).upd rfl _).upd rfl _).upd rfl _).upd rfl _).upd rfl _).upd rfl _).upd rfl _).upd rfl _).upd rfl _).upd rfl _).upd rfl _).upd rfl _).upd rfl _).upd rfl _).upd rfl _).upd rfl _).upd rfl _).upd rfl _).upd rfl _).upd rfl _).upd rfl _), (m50, i50 + 1, ((⟨x50_0.seq, x50_0.proved, x50_0.rule, x50_0.main, x50_0.kids ++ [r62.2.1]⟩ : PStep), r62.1, x50_2)), ⟨(by dsimp only; omega), (by dsimp only; omega), e50, s70, s56, rfl, S⟩, by dsimp only; omega⟩
      replace H := if_f hc78 H
      refine wc_skip ?_
      refine wc_seq (wc_region ?_)
      refine wd (does_fieldAddr fl_Step_proved hv487 (o' := 17) rfl) ?_
      refine wl_store on_bool rfl rfl (S.blk 1) (by rw [Step.len]; decide) rfl (Step.set_proved _ _) fun w79 B hw79 zw79 => ?_
      replace S : St A N w w79 [oB b46 T_Step (Step.C (⟨x50_0.seq, false, x50_0.rule, x50_0.main, s70⟩ : Step)), oF a_0 g_0_1 r62.1, oS T_int 1 IC s70 (x50_0.kids ++ [r62.2.1]), oS T_int 1 IC s68 ([r62.2.1]), oB b60 T_Sq (Sq.C (at_ Sq.z r38.2.1 i50)), oS T_Sq 17 Sq.C s41 r38.2.1, oS T_int 1 IC s56 x50_2.kids, oB b20 T_Step (Step.C (⟨x50_2.seq, x50_2.proved, x50_2.rule, x50_2.main, s56⟩ : Step)), oS T_api_Rule 1 IC s14 r11.1, oS T_int 1 IC s15 r11.2.1, oB b2 T_Sq (Sq.C a1)] [oTz] := S.store 1 B hw79
      clear B
      refine wl_nil ?_
      refine wc_seq (wc_seq (wc_region ?_))
      refine wd (does_mv_i rfl) ?_
      refine wd (does_eq rfl rfl) ?_
      refine wl_nil ?_
      refine wc_if rfl (fun hc80 => ?_) (fun hc80 => ?_)
      · replace H := if_t hc80 H
        refine wc_seq (wc_region ?_)
        refine wd (does_fieldAddr fl_Step_kids rfl (o' := 20) rfl) ?_
        refine wd (does_load on_L_int rfl ((S.blk 7).cell (Step.get_kids _))) ?_
        refine wd (does_mv_i rfl) ?_
        refine wl_lits (C := IC) (l := [r62.2.1]) (vs := [.int .i64 r62.2.1]) sl_L_int el_int.zero rfl rfl (fun _ _ => rfl) (by decide) rfl (by decide) fun b82 w81 s83 hBw81 hw81 => ?_
        replace S : St A N w w81 [oS T_int 1 IC s83 ([r62.2.1]), oB b46 T_Step (Step.C (⟨x50_0.seq, false, x50_0.rule, x50_0.main, s70⟩ : Step)), oF a_0 g_0_1 r62.1, oS T_int 1 IC s70 (x50_0.kids ++ [r62.2.1]), oS T_int 1 IC s68 ([r62.2.1]), oB b60 T_Sq (Sq.C (at_ Sq.z r38.2.1 i50)), oS T_Sq 17 Sq.C s41 r38.2.1, oS T_int 1 IC s56 x50_2.kids, oB b20 T_Step (Step.C (⟨x50_2.seq, x50_2.proved, x50_2.rule, x50_2.main, s56⟩ : Step)), oS T_api_Rule 1 IC s14 r11.1, oS T_int 1 IC s15 r11.2.1, oB b2 T_Sq (Sq.C a1)] [oTz] := S.lit hBw81 hw81 (by simp)
        obtain ⟨ha86, H⟩ := chk_ex H
        have ha86 := of_decide_eq_true ha86
        refine wl_appends (C := IC) sl_L_int el_int rfl rfl (S.sl 7) (S.rdO 0) (by simp) (fun a _ v hv => by rw [List.mem_singleton.1 hv]; rfl) ha86 (by omega) (by decide) fun s85 w84 O hw84 gw84 => ?_
        replace S : St A N w w84 [oS T_int 1 IC s85 (x50_2.kids ++ [r62.2.1]), oS T_int 1 IC s83 ([r62.2.1]), oB b46 T_Step (Step.C (⟨x50_0.seq, false, x50_0.rule, x50_0.main, s70⟩ : Step)), oF a_0 g_0_1 r62.1, oS T_int 1 IC s70 (x50_0.kids ++ [r62.2.1]), oS T_int 1 IC s68 ([r62.2.1]), oB b60 T_Sq (Sq.C (at_ Sq.z r38.2.1 i50)), oS T_Sq 17 Sq.C s41 r38.2.1, oB b20 T_Step (Step.C (⟨x50_2.seq, x50_2.proved, x50_2.rule, x50_2.main, s56⟩ : Step)), oS T_api_Rule 1 IC s14 r11.1, oS T_int 1 IC s15 r11.2.1, oB b2 T_Sq (Sq.C a1)] [oTz] := S.push 7 O (by first | (simp; done) | (simp; omega)) hw84 gw84
        clear O
        refine wd (does_fieldAddr fl_Step_kids rfl (o' := 20) rfl) ?_
        refine wl_store on_L_int rfl rfl (S.blk 8) (by rw [Step.len]; decide) (SlV.one _ _ rfl) (Step.set_kids _ _) fun w87 B hw87 zw87 => ?_
        replace S : St A N w w87 [oB b20 T_Step (Step.C (⟨x50_2.seq, x50_2.proved, x50_2.rule, x50_2.main, s85⟩ : Step)), oS T_int 1 IC s85 (x50_2.kids ++ [r62.2.1]), oS T_int 1 IC s83 ([r62.2.1]), oB b46 T_Step (Step.C (⟨x50_0.seq, false, x50_0.rule, x50_0.main, s70⟩ : Step)), oF a_0 g_0_1 r62.1, oS T_int 1 IC s70 (x50_0.kids ++ [r62.2.1]), oS T_int 1 IC s68 ([r62.2.1]), oB b60 T_Sq (Sq.C (at_ Sq.z r38.2.1 i50)), oS T_Sq 17 Sq.C s41 r38.2.1, oS T_api_Rule 1 IC s14 r11.1, oS T_int 1 IC s15 r11.2.1, oB b2 T_Sq (Sq.C a1)] [oTz] := S.store 8 B hw87
        clear B
        refine wl_nil ?_
        refine wc_exit ?_
        replace S : St A N w w87 [oS T_int 1 IC s70 (x50_0.kids ++ [r62.2.1]), oB b46 T_Step (Step.C (⟨x50_0.seq, false, x50_0.rule, x50_0.main, s70⟩ : Step)), oF a_0 g_0_1 r62.1, oS T_Sq 17 Sq.C s41 r38.2.1, oS T_int 1 IC s85 (x50_2.kids ++ [r62.2.1]), oB b20 T_Step (Step.C (⟨x50_2.seq, x50_2.proved, x50_2.rule, x50_2.main, s85⟩ : Step)), oS T_api_Rule 1 IC s14 r11.1, oS T_int 1 IC s15 r11.2.1, oB b2 T_Sq (Sq.C a1)] [oTz] := S.arr [5, 3, 4, 8, 1, 0, 9, 10, 11] [0]
        obtain rfl := Option.some.inj H
        exact ⟨rfl, ((((((((((((((((((((((((((((((((((((((((Dif.self _ _ _).upd rfl _).upd rfl _).upd rfl _).upd rfl _).upd rfl _).upd rfl _).upd rfl _).upd rfl _).upd rfl _).upd rfl _).upd rfl _).upd rfl _).upd rfl _).upd rfl _).upd rfl _).upd rfl _).upd rfl _).upd rfl _).upd rfl _).upd rfl _).upd rfl _).upd rfl _).upd rfl _).upd rfl _).upd rfl _).upd rfl _).upd rfl _).upd rfl _).upd rfl _).upd rfl _).upd rfl _).upd rfl _).upd rfl _).upd rfl _).upd rfl _).upd rfl _).upd rfl _).upd rfl _).upd rfl _), ((⟨x50_0.seq, false, x50_0.rule, x50_0.main, x50_0.kids ++ [r62.2.1]⟩ : PStep), r62.1, (⟨x50_2.seq, x50_2.proved, x50_2.rule, x50_2.main, x50_2.kids ++ [r62.2.1]⟩ : PStep)), e50, s70, s85, S⟩
      replace H := if_f hc80 H
      refine wc_skip ?_
      refine wc_seq (wc_region ?_)
      refine wd (does_mv_i rfl) ?_
      refine wl_lits (C := IC) (l := [r62.2.1]) (vs := [.int .i64 r62.2.1]) sl_L_int el_int.zero rfl rfl (fun _ _ => rfl) (by decide) rfl (by decide) fun b89 w88 s90 hBw88 hw88 => ?_
      replace S : St A N w w88 [oS T_int 1 IC s90 ([r62.2.1]), oB b46 T_Step (Step.C (⟨x50_0.seq, false, x50_0.rule, x50_0.main, s70⟩ : Step)), oF a_0 g_0_1 r62.1, oS T_int 1 IC s70 (x50_0.kids ++ [r62.2.1]), oS T_int 1 IC s68 ([r62.2.1]), oB b60 T_Sq (Sq.C (at_ Sq.z r38.2.1 i50)), oS T_Sq 17 Sq.C s41 r38.2.1, oS T_int 1 IC s56 x50_2.kids, oB b20 T_Step (Step.C (⟨x50_2.seq, x50_2.proved, x50_2.rule, x50_2.main, s56⟩ : Step)), oS T_api_Rule 1 IC s14 r11.1, oS T_int 1 IC s15 r11.2.1, oB b2 T_Sq (Sq.C a1)] [oTz] := S.lit hBw88 hw88 (by simp)
      refine wd (does_fieldAddr fl_Step_kids hv487 (o' := 20) rfl) ?_
      refine wl_store on_L_int rfl rfl (S.blk 1) (by rw [Step.len]; decide) (SlV.one _ _ rfl) (Step.set_kids _ _) fun w91 B hw91 zw91 => ?_
      replace S : St A N w w91 [oB b46 T_Step (Step.C (⟨x50_0.seq, false, x50_0.rule, x50_0.main, s90⟩ : Step)), oS T_int 1 IC s90 ([r62.2.1]), oF a_0 g_0_1 r62.1, oS T_int 1 IC s70 (x50_0.kids ++ [r62.2.1]), oS T_int 1 IC s68 ([r62.2.1]), oB b60 T_Sq (Sq.C (at_ Sq.z r38.2.1 i50)), oS T_Sq 17 Sq.C s41 r38.2.1, oS T_int 1 IC s56 x50_2.kids, oB b20 T_Step (Step.C (⟨x50_2.seq, x50_2.proved, x50_2.rule, x50_2.main, s56⟩ : Step)), oS T_api_Rule 1 IC s14 r11.1, oS T_int 1 IC s15 r11.2.1, oB b2 T_Sq (Sq.C a1)] [oTz] := S.store 1 B hw91
      clear B
      refine wl_nil ?_
      refine wc_seq (wc_region ?_)
      refine wd (does_mv_p rfl) ?_
      refine wd (does_load_agg ag_Step hv487 ((S.blk 0).all _ (Step.len _)) (Step.len _)) ?_
      obtain ⟨r92, er92, H⟩ := bind_ex H
      replace S := S.front 1
      replace S : St A N w w91 [oF a_0 g_0_1 r62.1, oS T_int 1 IC s90 ([r62.2.1]), oB b46 T_Step (Step.C (⟨x50_0.seq, false, x50_0.rule, x50_0.main, s90⟩ : Step)), oS T_int 1 IC s70 (x50_0.kids ++ [r62.2.1]), oS T_int 1 IC s68 ([r62.2.1]), oB b60 T_Sq (Sq.C (at_ Sq.z r38.2.1 i50)), oS T_Sq 17 Sq.C s41 r38.2.1, oS T_int 1 IC s56 x50_2.kids, oB b20 T_Step (Step.C (⟨x50_2.seq, x50_2.proved, x50_2.rule, x50_2.main, s56⟩ : Step)), oS T_api_Rule 1 IC s14 r11.1, oS T_int 1 IC s15 r11.2.1, oB b2 T_Sq (Sq.C a1)] [oTz] := S.front 2
      obtain ⟨B94, MB94, SB94, back⟩ := S.calln 2 ((.nil))
      refine wl_call (does_call ca_search_finder_end) (by decide) (search_finder_end_st (a1 := (⟨x50_0.seq, false, x50_0.rule, x50_0.main, [r62.2.1]⟩ : PStep)) SB94 er92) ?_
      rintro _ w93 ⟨rfl, S2⟩
      replace S : St A N w w93 [oF a_0 g_0_1 r92.1, oB b46 T_Step (Step.C (⟨x50_0.seq, false, x50_0.rule, x50_0.main, s90⟩ : Step)), oS T_int 1 IC s70 (x50_0.kids ++ [r62.2.1]), oS T_int 1 IC s68 ([r62.2.1]), oB b60 T_Sq (Sq.C (at_ Sq.z r38.2.1 i50)), oS T_Sq 17 Sq.C s41 r38.2.1, oS T_int 1 IC s56 x50_2.kids, oB b20 T_Step (Step.C (⟨x50_2.seq, x50_2.proved, x50_2.rule, x50_2.main, s56⟩ : Step)), oS T_api_Rule 1 IC s14 r11.1, oS T_int 1 IC s15 r11.2.1, oB b2 T_Sq (Sq.C a1)] [oTz] := back _ _ _ _ S2 rfl
      clear back S2 SB94
      refine wd (does_extract rfl rfl) ?_
      refine wd (does_extract rfl rfl) ?_
      refine wd (does_as_i rfl) ?_
      refine wd (does_as_i rfl) ?_
      refine wl_nil ?_
      refine wc_ret ?_
      refine ⟨_, (rets2 (retOne_tmp rfl) (retOne_tmp rfl)), ?_⟩
      replace S : St A N w w93 [oF a_0 g_0_1 r92.1] [] := S.arr [0] []
      obtain rfl := Option.some.inj H
      obtain rfl := e50
      obtain rfl := aft_r Ho50
      obtain rfl := e22
      obtain rfl := aft_r Ho22
      exact ⟨rfl, S⟩
    rintro g95 u96 ⟨s50, rfl, s51, s52, S⟩
    have H := Ho50
    dsimp only [aft] at H
    refine wc_seq (wc_region ?_)
    refine wd (does_fieldAddr fl_Step_proved hv487 (o' := 17) rfl) ?_
    refine wd (does_load on_bool rfl ((S.blk 1).cell (Step.get_proved _))) ?_
    refine wl_nil ?_
    refine wc_if rfl (fun hc97 => ?_) (fun hc97 => ?_)
    · replace H := if_t hc97 H
      refine wc_seq (wc_region ?_)
      refine wd (does_mv_p rfl) ?_
      refine wd (does_load_agg ag_Step hv487 ((S.blk 1).all _ (Step.len _)) (Step.len _)) ?_
      obtain ⟨r98, er98, H⟩ := bind_ex H
      replace S : St A N w u96 [oF a_0 g_0_1 s50.2.1, oS T_int 1 IC s51 s50.1.kids, oB b46 T_Step (Step.C (⟨s50.1.seq, s50.1.proved, s50.1.rule, s50.1.main, s51⟩ : Step)), oS T_Sq 17 Sq.C s41 r38.2.1, oS T_int 1 IC s52 s50.2.2.kids, oB b20 T_Step (Step.C (⟨s50.2.2.seq, s50.2.2.proved, s50.2.2.rule, s50.2.2.main, s52⟩ : Step)), oS T_api_Rule 1 IC s14 r11.1, oS T_int 1 IC s15 r11.2.1, oB b2 T_Sq (Sq.C a1)] [oTz] := S.front 2
      obtain ⟨B100, MB100, SB100, back⟩ := S.calln 2 ((.nil))
      refine wl_call (does_call ca_search_finder_end) (by decide) (search_finder_end_st (a1 := s50.1) SB100 er98) ?_
      rintro _ w99 ⟨rfl, S2⟩
      replace S : St A N w w99 [oF a_0 g_0_1 r98.1, oB b46 T_Step (Step.C (⟨s50.1.seq, s50.1.proved, s50.1.rule, s50.1.main, s51⟩ : Step)), oS T_Sq 17 Sq.C s41 r38.2.1, oS T_int 1 IC s52 s50.2.2.kids, oB b20 T_Step (Step.C (⟨s50.2.2.seq, s50.2.2.proved, s50.2.2.rule, s50.2.2.main, s52⟩ : Step)), oS T_api_Rule 1 IC s14 r11.1, oS T_int 1 IC s15 r11.2.1, oB b2 T_Sq (Sq.C a1)] [oTz] := back _ _ _ _ S2 rfl
      clear back S2 SB100
      refine wd (does_extract rfl rfl) ?_
      refine wd (does_extract rfl rfl) ?_
      refine wd (does_as_i rfl) ?_
      refine wd (does_as_i rfl) ?_
      refine wl_nil ?_
      refine wc_ret ?_
      refine ⟨_, (rets2 (retOne_tmp rfl) (retOne_tmp rfl)), ?_⟩
      replace S : St A N w w99 [oF a_0 g_0_1 r98.1] [] := S.arr [0] []
      obtain rfl := Option.some.inj H
      obtain rfl := e22
      obtain rfl := aft_r Ho22
      exact ⟨rfl, S⟩
    replace H := if_f hc97 H
    refine wc_skip ?_
    refine wc_region ?_
    refine wd (does_addc q22_i rfl (c := i22 + 1) rfl (by omega) (by omega)) ?_
    refine wd (does_mv_i rfl) ?_
    refine wl_nil ?_
    replace S : St A N w u96 [oS T_int 1 IC s52 s50.2.2.kids, oB b20 T_Step (Step.C (⟨s50.2.2.seq, s50.2.2.proved, s50.2.2.rule, s50.2.2.main, s52⟩ : Step)), oF a_0 g_0_1 s50.2.1, oS T_api_Rule 1 IC s14 r11.1, oS T_int 1 IC s15 r11.2.1, oB b2 T_Sq (Sq.C a1)] [oTz] := S.arr [4, 5, 2, 6, 7, 8] [0]
    obtain rfl := Option.some.inj H
    exact ⟨rfl, (((((((((((((((((((((((((((((((((((((((((((Dif.self _ _ _).upd rfl _).upd rfl _).upd rfl _).upd rfl _).upd rfl _).upd rfl _).upd rfl _).upd rfl _).upd rfl _).upd rfl _).upd rfl _).upd rfl _).upd rfl _).upd rfl _).upd rfl _).upd rfl _).mask rfl _).upd rfl _).upd rfl _).upd rfl _).upd rfl _).upd rfl _).mask rfl _).upd rfl _).upd rfl _).upd rfl _).upd rfl _).upd rfl _).upd rfl _).upd rfl _).upd rfl _).upd rfl _).upd rfl _).mask rfl _).upd rfl _).upd rfl _).upd rfl _).mask rfl _).upd rfl _).upd rfl _).upd rfl _).upd rfl _), (m22, i22 + 1, (s50.2.2, s50.2.1)), ⟨(by dsimp only; omega), (by dsimp only; omega), e22, s52, rfl, S⟩, by dsimp only; omega⟩
  rintro g101 u102 ⟨s22, rfl, s23, S⟩
  have H := Ho22
  dsimp only [aft] at H
  refine wc_seq (wc_region ?_)
  refine wd (does_mv_p rfl) ?_
  refine wd (does_load_agg ag_Step rfl ((S.blk 1).all _ (Step.len _)) (Step.len _)) ?_
  obtain ⟨r103, er103, H⟩ := bind_ex H
  replace S : St A N w u102 [oF a_0 g_0_1 s22.2, oS T_int 1 IC s23 s22.1.kids, oB b20 T_Step (Step.C (⟨s22.1.seq, s22.1.proved, s22.1.rule, s22.1.main, s23⟩ : Step)), oS T_api_Rule 1 IC s14 r11.1, oS T_int 1 IC s15 r11.2.1, oB b2 T_Sq (Sq.C a1)] [oTz] := S.front 2
  obtain ⟨B105, MB105, SB105, back⟩ := S.calln 2 ((.nil))
  refine wl_call (does_call ca_search_finder_end) (by decide) (search_finder_end_st (a1 := s22.1) SB105 er103) ?_
  rintro _ w104 ⟨rfl, S2⟩
  replace S : St A N w w104 [oF a_0 g_0_1 r103.1, oB b20 T_Step (Step.C (⟨s22.1.seq, s22.1.proved, s22.1.rule, s22.1.main, s23⟩ : Step)), oS T_api_Rule 1 IC s14 r11.1, oS T_int 1 IC s15 r11.2.1, oB b2 T_Sq (Sq.C a1)] [oTz] := back _ _ _ _ S2 rfl
  clear back S2 SB105
  refine wd (does_extract rfl rfl) ?_
  refine wd (does_extract rfl rfl) ?_
  refine wd (does_as_i rfl) ?_
  refine wd (does_as_i rfl) ?_
  refine wl_nil ?_
  refine wc_ret ?_
  refine ⟨_, (rets2 (retOne_tmp rfl) (retOne_tmp rfl)), ?_⟩
  replace S : St A N w w104 [oF a_0 g_0_1 r103.1] [] := S.arr [0] []
  obtain rfl := Option.some.inj H
  exact ⟨rfl, S⟩
theorem search_finder_decide_gst {rec_search_finder_decide : PFinder → Sq → Option (PFinder × Int × Int)} (hrec_search_finder_decide : ∀ {A : Nat → Prop} {N : Oth} {w : World} {a0 : PFinder} {a_0 : Option Addr} {g_0_1 : Option Addr} {a1 : Sq} (S : St A N w w [oF a_0 g_0_1 a0] [oTz]) {r : PFinder × Int × Int} (H : rec_search_finder_decide a0 a1 = some r), Calls PP F_search_finder_decide #[.pointer a_0, .agg (Sq.C a1).toArray] w fun e w' => ∃ v, e = .returned v ∧ (v = .tuple #[.int .i64 r.2.1, .int .i64 r.2.2] ∧ St A N w w' [oF a_0 g_0_1 r.1] [])) {A : Nat → Prop} {N : Oth} {w : World} {a0 : PFinder} {a_0 : Option Addr} {g_0_1 : Option Addr} {a1 : Sq} (S : St A N w w [oF a_0 g_0_1 a0] [oTz]) {r : PFinder × Int × Int} (H : search_finder_decide.g rec_search_finder_decide a0 a1 = some r) :
    Calls PP F_search_finder_decide #[.pointer a_0, .agg (Sq.C a1).toArray] w fun e w' => ∃ v, e = .returned v ∧ (v = .tuple #[.int .i64 r.2.1, .int .i64 r.2.2] ∧ St A N w w' [oF a_0 g_0_1 r.1] []) := by
  unfold search_finder_decide.g at H
  refine calls_of_wc (n := 131) fn_search_finder_decide rfl rfl (by simp) ?_
  refine wc_seq (wc_region ?_)
  refine wl_box_agg rfl (by decide) fun b2 w1 hw1 => ?_
  replace S : St A N w w1 [oB b2 T_Sq (Sq.C a1), oF a_0 g_0_1 a0] [oTz] := S.new hw1
  refine wd (does_as_i rfl) ?_
  refine wd (does_as_i rfl) ?_
  refine wl_nil ?_
  refine wc_seq ?_
  refine wc_seq ?_
  obtain ⟨p3, s5, m6, hp4, S⟩ := S.open_oF 1
  replace S : St A N w w1 [oB p3 T_Finder (Finder.C (⟨g_0_1, s5, (some m6), a0.left, a0.visits⟩ : Finder)), oT g_0_1 a0.t, oDStep s5 a0.steps, oMSq m6 a0.at_, oB b2 T_Sq (Sq.C a1)] [oTz] := S
  refine wc_quiet 10 (Ext w1) hmix (by kernel_rfl) (by kernel_rfl) (Ext.drawn _) ?_
  refine wq_does (fun v K => does_mv_p rfl) ?_
  refine wq_does (fun v K => does_nilCheck (congrArg Value.pointer hp4)) ?_
  refine wq_does (fun v K => does_fieldAddr fl_Finder_at_ rfl (o' := 2) rfl) ?_
  refine wq_does (fun v K => does_load on_M_api_Seq_int rfl (((S.ext K).blk 0).cell (Finder.get_at_ _))) ?_
  refine wq_does (fun v K => does_load_agg ag_Sq rfl (((S.ext K).blk 4).all _ (Sq.len _)) (Sq.len _)) ?_
  refine wq_does (fun v K => does_lookup_ok (C := mSqC) (D := (Value.int .i64)) (key := a1) (zv := 0) un_M_api_Seq_int key_Sq zv_int rfl rfl ((S.ext K).map 3)) ?_
  refine wq_does (fun v K => does_mv_t rfl) ?_
  refine wq_does (fun v K => does_extract rfl rfl) ?_
  refine wq_does (fun v K => does_extract rfl rfl) ?_
  refine wq_does (fun v K => does_as_i rfl) ?_
  refine wq_nil fun w7 K => ?_
  replace S := S.ext K
  clear K
  refine wd (does_as_b rfl) ?_
  replace S := S.front 3
  replace S := S.front 3
  replace S := S.front 3
  replace S := S.front 3
  replace S : St A N w w7 [oF a_0 g_0_1 a0, oB b2 T_Sq (Sq.C a1)] [oTz] := S.shut_oF hp4
  refine wl_nil ?_
  refine wc_seq (wc_region ?_)
  refine wd (does_mv_b rfl) ?_
  refine wl_nil ?_
  refine wc_if rfl (fun hc8 => ?_) (fun hc8 => ?_)
  · replace H := if_t hc8 H
    refine wc_seq (wc_region ?_)
    refine wd (does_mv_i rfl) ?_
    refine wd (does_as_i rfl) ?_
    refine wd (does_as_i rfl) ?_
    refine wl_nil ?_
    refine wc_ret ?_
    refine ⟨_, (rets2 (retOne_tmp rfl) (retOne_tmp rfl)), ?_⟩
    replace S : St A N w w7 [oF a_0 g_0_1 a0] [] := S.arr [0] []
    obtain rfl := Option.some.inj H
    exact ⟨rfl, S⟩
  replace H := if_f hc8 H
  refine wc_skip ?_
  refine wc_seq (wc_seq (wc_region ?_))
  refine wd (does_mv_p rfl) ?_
  obtain ⟨p9, s11, m12, hp10, S⟩ := S.open_oF 0
  replace S : St A N w w7 [oB p9 T_Finder (Finder.C (⟨g_0_1, s11, (some m12), a0.left, a0.visits⟩ : Finder)), oT g_0_1 a0.t, oDStep s11 a0.steps, oMSq m12 a0.at_, oB b2 T_Sq (Sq.C a1)] [oTz] := S
  refine wd (does_nilCheck (congrArg Value.pointer hp10)) ?_
  refine wd (does_fieldAddr fl_Finder_left rfl (o' := 3) rfl) ?_
  refine wd (does_load on_int rfl ((S.blk 0).cell (Finder.get_left _))) ?_
  refine wd (does_eq rfl rfl) ?_
  replace S := S.front 3
  replace S := S.front 3
  replace S := S.front 3
  replace S := S.front 3
  replace S : St A N w w7 [oF a_0 g_0_1 a0, oB b2 T_Sq (Sq.C a1)] [oTz] := S.shut_oF hp10
  refine wl_nil ?_
  refine wc_if rfl (fun hc13 => ?_) (fun hc13 => ?_)
  · replace H := if_t hc13 H
    refine wc_seq (wc_region ?_)
    refine wd (does_as_i rfl) ?_
    refine wd (does_as_i rfl) ?_
    refine wl_nil ?_
    refine wc_ret ?_
    refine ⟨_, (rets2 (retOne_tmp rfl) (retOne_tmp rfl)), ?_⟩
    replace S : St A N w w7 [oF a_0 g_0_1 a0] [] := S.arr [0] []
    obtain rfl := Option.some.inj H
    exact ⟨rfl, S⟩
  replace H := if_f hc13 H
  refine wc_skip ?_
  refine wc_seq (wc_region ?_)
  refine wd (does_mv_p rfl) ?_
  obtain ⟨p14, s16, m17, hp15, S⟩ := S.open_oF 0
  replace S : St A N w w7 [oB p14 T_Finder (Finder.C (⟨g_0_1, s16, (some m17), a0.left, a0.visits⟩ : Finder)), oT g_0_1 a0.t, oDStep s16 a0.steps, oMSq m17 a0.at_, oB b2 T_Sq (Sq.C a1)] [oTz] := S
  refine wd (does_nilCheck (congrArg Value.pointer hp15)) ?_
  refine wd (does_fieldAddr fl_Finder_left rfl (o' := 3) rfl) ?_
  refine wd (does_load on_int rfl ((S.blk 0).cell (Finder.get_left _))) ?_
  refine wd (does_sub rfl rfl) ?_
  refine wd (does_nilCheck (congrArg Value.pointer hp15)) ?_
  refine wd (does_fieldAddr fl_Finder_left rfl (o' := 3) rfl) ?_
  refine wl_store on_int rfl rfl (S.blk 0) (by rw [Finder.len]; decide) rfl (Finder.set_left _ _) fun w18 B hw18 zw18 => ?_
  replace S : St A N w w18 [oB p14 T_Finder (Finder.C (⟨g_0_1, s16, (some m17), IntKind.i64.wrap (a0.left - 1), a0.visits⟩ : Finder)), oT g_0_1 a0.t, oDStep s16 a0.steps, oMSq m17 a0.at_, oB b2 T_Sq (Sq.C a1)] [oTz] := S.store 0 B hw18
  clear B
  replace S := S.front 3
  replace S := S.front 3
  replace S := S.front 3
  replace S := S.front 3
  replace S : St A N w w18 [oF a_0 g_0_1 (⟨a0.t, a0.steps, a0.at_, IntKind.i64.wrap (a0.left - 1), a0.visits⟩ : PFinder), oB b2 T_Sq (Sq.C a1)] [oTz] := S.shut_oF hp15
  refine wl_nil ?_
  refine wc_seq (wc_region ?_)
  refine wd (does_mv_p rfl) ?_
  obtain ⟨p19, s21, m22, hp20, S⟩ := S.open_oF 0
  replace S : St A N w w18 [oB p19 T_Finder (Finder.C (⟨g_0_1, s21, (some m22), IntKind.i64.wrap (a0.left - 1), a0.visits⟩ : Finder)), oT g_0_1 a0.t, oDStep s21 a0.steps, oMSq m22 a0.at_, oB b2 T_Sq (Sq.C a1)] [oTz] := S
  refine wd (does_nilCheck (congrArg Value.pointer hp20)) ?_
  refine wd (does_fieldAddr fl_Finder_visits rfl (o' := 4) rfl) ?_
  refine wd (does_load on_int rfl ((S.blk 0).cell (Finder.get_visits _))) ?_
  refine wd (does_add rfl rfl) ?_
  refine wd (does_nilCheck (congrArg Value.pointer hp20)) ?_
  refine wd (does_fieldAddr fl_Finder_visits rfl (o' := 4) rfl) ?_
  refine wl_store on_int rfl rfl (S.blk 0) (by rw [Finder.len]; decide) rfl (Finder.set_visits _ _) fun w23 B hw23 zw23 => ?_
  replace S : St A N w w23 [oB p19 T_Finder (Finder.C (⟨g_0_1, s21, (some m22), IntKind.i64.wrap (a0.left - 1), IntKind.i64.wrap (a0.visits + 1)⟩ : Finder)), oT g_0_1 a0.t, oDStep s21 a0.steps, oMSq m22 a0.at_, oB b2 T_Sq (Sq.C a1)] [oTz] := S.store 0 B hw23
  clear B
  replace S := S.front 3
  replace S := S.front 3
  replace S := S.front 3
  replace S := S.front 3
  replace S : St A N w w23 [oF a_0 g_0_1 (⟨a0.t, a0.steps, a0.at_, IntKind.i64.wrap (a0.left - 1), IntKind.i64.wrap (a0.visits + 1)⟩ : PFinder), oB b2 T_Sq (Sq.C a1)] [oTz] := S.shut_oF hp20
  refine wl_nil ?_
  refine wc_seq ?_
  obtain ⟨p24, s26, m27, hp25, S⟩ := S.open_oF 0
  replace S : St A N w w23 [oB p24 T_Finder (Finder.C (⟨g_0_1, s26, (some m27), IntKind.i64.wrap (a0.left - 1), IntKind.i64.wrap (a0.visits + 1)⟩ : Finder)), oT g_0_1 a0.t, oDStep s26 a0.steps, oMSq m27 a0.at_, oB b2 T_Sq (Sq.C a1)] [oTz] := S
  refine wc_quiet 12 (Ext w23) hmix (by kernel_rfl) (by kernel_rfl) (Ext.drawn _) ?_
  refine wq_does (fun v K => does_mv_p rfl) ?_
  refine wq_does (fun v K => does_nilCheck (congrArg Value.pointer hp25)) ?_
  refine wq_does (fun v K => does_fieldAddr fl_Finder_t rfl (o' := 0) rfl) ?_
  refine wq_does (fun v K => does_load on_dictum_formula_has rfl (((S.ext K).blk 0).cell (Finder.get_t _))) ?_
  refine wq_does (fun v K => does_load_agg ag_Sq rfl (((S.ext K).blk 4).all _ (Sq.len _)) (Sq.len _)) ?_
  obtain ⟨r28, er28, H⟩ := bind_ex H
  refine wq_call (fun v => does_call ca_rule_Apply) (fun v K => (have ⟨M, SS⟩ := (S.ext K).lend ((.o 1 rfl (.z 0 rfl .nil))); quiet (rule_Apply_st SS er28) (fun v w' h => ⟨h.1, _, _, h.2⟩))) (fun v v' K h => K.thenExt h) ?_
  refine wq_does (fun v K => does_mv_t rfl) ?_
  refine wq_does (fun v K => does_extract rfl rfl) ?_
  refine wq_does (fun v K => does_extract rfl rfl) ?_
  refine wq_does (fun v K => does_extract rfl rfl) ?_
  refine wq_does (fun v K => does_as_i rfl) ?_
  refine wq_does (fun v K => does_as_i rfl) ?_
  refine wq_nil fun w29 K => ?_
  replace S := S.ext K
  clear K
  refine wd (does_as_i rfl) ?_
  replace S := S.front 3
  replace S := S.front 3
  replace S := S.front 3
  replace S := S.front 3
  replace S : St A N w w29 [oF a_0 g_0_1 (⟨a0.t, a0.steps, a0.at_, IntKind.i64.wrap (a0.left - 1), IntKind.i64.wrap (a0.visits + 1)⟩ : PFinder), oB b2 T_Sq (Sq.C a1)] [oTz] := S.shut_oF hp25
  refine wl_nil ?_
  refine wc_seq (wc_seq (wc_region ?_))
  refine wd (does_mv_i rfl) ?_
  refine wd (does_ne rfl rfl) ?_
  refine wl_nil ?_
  refine wc_if rfl (fun hc30 => ?_) (fun hc30 => ?_)
  · replace H := if_t hc30 H
    refine wc_seq (wc_region ?_)
    refine wd (does_mv_i rfl) ?_
    refine wd (does_as_i rfl) ?_
    refine wd (does_as_i rfl) ?_
    refine wl_nil ?_
    refine wc_ret ?_
    refine ⟨_, (rets2 (retOne_tmp rfl) (retOne_tmp rfl)), ?_⟩
    replace S : St A N w w29 [oF a_0 g_0_1 (⟨a0.t, a0.steps, a0.at_, IntKind.i64.wrap (a0.left - 1), IntKind.i64.wrap (a0.visits + 1)⟩ : PFinder)] [] := S.arr [0] []
    obtain rfl := Option.some.inj H
    exact ⟨rfl, S⟩
  replace H := if_f hc30 H
  refine wc_skip ?_
  refine wc_seq (wc_seq (wc_region ?_))
  refine wd (does_mv_i rfl) ?_
  refine wd (does_eq rfl rfl) ?_
  refine wl_nil ?_
  refine wc_if rfl (fun hc31 => ?_) (fun hc31 => ?_)
  · replace H := if_t hc31 H
    refine wc_seq (wc_region ?_)
    refine wd (does_mv_p rfl) ?_
    refine wd (does_load_agg ag_Sq rfl ((S.blk 1).all _ (Sq.len _)) (Sq.len _)) ?_
    obtain ⟨r32, er32, H⟩ := bind_ex H
    obtain ⟨B34, MB34, SB34, back⟩ := S.calln 1 ((.z 0 rfl .nil))
    refine wl_call (does_call ca_search_finder_choose) (by decide) (search_finder_choose_gst hrec_search_finder_decide SB34 er32) ?_
    rintro _ w33 ⟨rfl, S2⟩
    replace S : St A N w w33 [oF a_0 g_0_1 r32.1, oB b2 T_Sq (Sq.C a1)] [oTz] := back _ _ _ _ S2 rfl
    clear back S2 SB34
    refine wd (does_extract rfl rfl) ?_
    refine wd (does_extract rfl rfl) ?_
    refine wd (does_as_i rfl) ?_
    refine wd (does_as_i rfl) ?_
    refine wl_nil ?_
    refine wc_ret ?_
    refine ⟨_, (rets2 (retOne_tmp rfl) (retOne_tmp rfl)), ?_⟩
    replace S : St A N w w33 [oF a_0 g_0_1 r32.1] [] := S.arr [0] []
    obtain rfl := Option.some.inj H
    exact ⟨rfl, S⟩
  replace H := if_f hc31 H
  refine wc_skip ?_
  refine wc_seq ?_
  obtain ⟨p35, s37, m38, hp36, S⟩ := S.open_oF 0
  replace S : St A N w w29 [oB p35 T_Finder (Finder.C (⟨g_0_1, s37, (some m38), IntKind.i64.wrap (a0.left - 1), IntKind.i64.wrap (a0.visits + 1)⟩ : Finder)), oT g_0_1 a0.t, oDStep s37 a0.steps, oMSq m38 a0.at_, oB b2 T_Sq (Sq.C a1)] [oTz] := S
  refine wc_ws hmix fun w40 K => ?_
  replace S := S.ext K
  clear K
  refine ws_semi 0 7 [] (by kernel_rfl) (by decide) (by kernel_rfl)
   (V := fun i v u => match i with
    | _ => True) ?_ ?_
  · intro i v u u' hi hx hv
    match i, hv with
    | _, _ => exact trivial
  refine wm_does (fun v K => does_mv_p rfl) rfl ?_
  refine wm_does (fun v K => does_nilCheck (congrArg Value.pointer hp36)) rfl ?_
  refine wm_does (fun v K => does_fieldAddr fl_Finder_t rfl (o' := 0) rfl) rfl ?_
  refine wm_does (fun v K => does_load on_dictum_formula_has rfl (((S.ext K).blk 0).cell (Finder.get_t _))) rfl ?_
  refine wm_does (fun v K => does_load_agg ag_Sq rfl (((S.ext K).blk 4).all _ (Sq.len _)) (Sq.len _)) rfl ?_
  refine wm_does (fun v K => does_mv_i rfl) rfl ?_
  refine wm_does (fun v K => does_mv_i rfl) rfl ?_
  refine wm_nil fun g w41 K hV => ?_
  replace S := S.ext K
  clear K hV
  refine ws_chain 7 9 (by kernel_rfl) (by decide) ?_
  obtain ⟨r43, er43, H⟩ := bind_ex H
  replace S : St A N w w41 [oT g_0_1 a0.t, oB p35 T_Finder (Finder.C (⟨g_0_1, s37, (some m38), IntKind.i64.wrap (a0.left - 1), IntKind.i64.wrap (a0.visits + 1)⟩ : Finder)), oDStep s37 a0.steps, oMSq m38 a0.at_, oB b2 T_Sq (Sq.C a1)] [oTz] := S.front 1
  obtain ⟨B45, MB45, SB45, back⟩ := S.calln 1 ((.z 0 rfl .nil))
  refine wl_call (does_call ca_rule_Premises) (by decide) (rule_Premises_st SB45 er43) ?_
  rintro _ w44 ⟨s46, rfl, S2⟩
  replace S : St A N w w44 [oT g_0_1 r43.1, oS T_Sq 17 Sq.C s46 r43.2.1, oB p35 T_Finder (Finder.C (⟨g_0_1, s37, (some m38), IntKind.i64.wrap (a0.left - 1), IntKind.i64.wrap (a0.visits + 1)⟩ : Finder)), oDStep s37 a0.steps, oMSq m38 a0.at_, oB b2 T_Sq (Sq.C a1)] [oTz] := back _ _ _ _ S2 rfl
  clear back S2 SB45
  refine wd (does_mv_t rfl) ?_
  refine wl_nil ⟨rfl, ?_⟩
  refine ws_semi 9 12 [] (by kernel_rfl) (by decide) (by kernel_rfl)
   (V := fun i v u => match i with
    | _ => True) ?_ ?_
  · intro i v u u' hi hx hv
    match i, hv with
    | _, _ => exact trivial
  refine wm_does (fun v K => does_extract rfl rfl) rfl ?_
  refine wm_does (fun v K => does_extract rfl rfl) rfl ?_
  refine wm_does (fun v K => does_as_l rfl) rfl ?_
  refine wm_nil fun g w47 K hV => ?_
  replace S := S.ext K
  clear K hV
  refine ws_tail 12 (by kernel_rfl) (by decide) ?_
  refine wd (does_as_i rfl) ?_
  replace S := S.front 4
  replace S := S.front 4
  replace S := S.front 2
  replace S := S.front 4
  replace S : St A N w w47 [oF a_0 g_0_1 (⟨r43.1, a0.steps, a0.at_, IntKind.i64.wrap (a0.left - 1), IntKind.i64.wrap (a0.visits + 1)⟩ : PFinder), oS T_Sq 17 Sq.C s46 r43.2.1, oB b2 T_Sq (Sq.C a1)] [oTz] := S.shut_oF hp36
  refine wl_nil ?_
  refine wc_seq (wc_seq (wc_region ?_))
  refine wd (does_mv_i rfl) ?_
  refine wd (does_ne rfl rfl) ?_
  refine wl_nil ?_
  refine wc_if rfl (fun hc49 => ?_) (fun hc49 => ?_)
  · replace H := if_t hc49 H
    refine wc_seq (wc_region ?_)
    refine wd (does_mv_i rfl) ?_
    refine wd (does_as_i rfl) ?_
    refine wd (does_as_i rfl) ?_
    refine wl_nil ?_
    refine wc_ret ?_
    refine ⟨_, (rets2 (retOne_tmp rfl) (retOne_tmp rfl)), ?_⟩
    replace S : St A N w w47 [oF a_0 g_0_1 (⟨r43.1, a0.steps, a0.at_, IntKind.i64.wrap (a0.left - 1), IntKind.i64.wrap (a0.visits + 1)⟩ : PFinder)] [] := S.arr [0] []
    obtain rfl := Option.some.inj H
    exact ⟨rfl, S⟩
  replace H := if_f hc49 H
  refine wc_skip ?_
  refine wc_seq (wc_region ?_)
  refine wd (does_load_agg ag_Sq rfl ((S.blk 2).all _ (Sq.len _)) (Sq.len _)) ?_
  refine wd (does_mv_i rfl) ?_
  refine wd (does_mv_i rfl) ?_
  refine wd (Does.to (v' := .agg (Step.C (⟨a1, true, r28.1, r28.2.1, SlV.nil⟩ : Step)).toArray) (does_buildv (vs := [(0, .agg (Sq.C a1).toArray), (1, .bool true), (2, .int .i64 r28.1), (3, .int .i64 r28.2.1)]) bu_Step (consP rfl (consP rfl (consP rfl (consP rfl rfl)))) (Bld.step rfl rfl (Sq.len _) (by rw [Step.len]; decide) (Step.put_seq _ _) (Bld.one rfl rfl (by rw [Step.len]; decide) (Step.set_proved _ _) (Bld.one rfl rfl (by rw [Step.len]; decide) (Step.set_rule _ _) (Bld.one rfl rfl (by rw [Step.len]; decide) (Step.set_main _ _) Bld.nil))))) rfl) ?_
  refine wl_alloc ze_Step (by decide) fun b51 w50 hw50 => ?_
  replace S : St A N w w50 [oB b51 T_Step (Step.C (⟨Sq.z, false, 0, 0, SlV.nil⟩ : Step)), oF a_0 g_0_1 (⟨r43.1, a0.steps, a0.at_, IntKind.i64.wrap (a0.left - 1), IntKind.i64.wrap (a0.visits + 1)⟩ : PFinder), oS T_Sq 17 Sq.C s46 r43.2.1, oB b2 T_Sq (Sq.C a1)] [oTz] := S.new hw50
  refine wl_store_agg ag_Step rfl rfl (S.blk 0) (Step.len _) (by rw [Step.len]; decide) (Step.one _) (store_all (Step.len _)) fun w52 B hw52 zw52 => ?_
  replace S : St A N w w52 [oB b51 T_Step (Step.C (⟨a1, true, r28.1, r28.2.1, SlV.nil⟩ : Step)), oF a_0 g_0_1 (⟨r43.1, a0.steps, a0.at_, IntKind.i64.wrap (a0.left - 1), IntKind.i64.wrap (a0.visits + 1)⟩ : PFinder), oS T_Sq 17 Sq.C s46 r43.2.1, oB b2 T_Sq (Sq.C a1)] [oTz] := S.store 0 B hw52
  clear B
  refine wl_nil ?_
  refine wc_seq (wc_seq (wc_region ?_))
  refine wd (does_mv_l rfl) ?_
  refine wd (does_lenR sl_L_api_Seq rfl (S.rdO 2)) ?_
  refine wd (does_mv_i rfl) ?_
  refine wl_nil ?_
  replace S : St A N w w52 [oS T_int 1 IC SlV.nil ([] : List Int), oB b51 T_Step (Step.C (⟨a1, true, r28.1, r28.2.1, SlV.nil⟩ : Step)), oF a_0 g_0_1 (⟨r43.1, a0.steps, a0.at_, IntKind.i64.wrap (a0.left - 1), IntKind.i64.wrap (a0.visits + 1)⟩ : PFinder), oS T_Sq 17 Sq.C s46 r43.2.1, oB b2 T_Sq (Sq.C a1)] [oTz] := S.nil T_int 1 IC
  obtain ⟨o53, e53, Ho53⟩ := bind_ex H
  clear H
  refine wc_cutq [4, 5, 14, 15, 16, 87, 88, 89, 90, 91, 92, 93, 94, 95, 96, 97, 98, 99, 100, 101, 102, 103, 104, 105, 106, 107, 108, 109, 110, 111, 112, 113, 114, 115, 116, 117, 118, 119, 120, 121, 122, 123, 124, 125] (fun fr W => ∃ s53 : PStep × PFinder, o53 = .inl s53 ∧ ∃ s54 : SlV, St A N w W [oS T_int 1 IC s54 s53.1.kids, oB b51 T_Step (Step.C (⟨s53.1.seq, s53.1.proved, s53.1.rule, s53.1.main, s54⟩ : Step)), oF a_0 g_0_1 s53.2, oS T_Sq 17 Sq.C s46 r43.2.1, oB b2 T_Sq (Sq.C a1)] [oTz]) ?_ ?_
  · refine wc_block ?_
    refine wc_loopm (α := Nat × Int × (PStep × PFinder)) [4, 5, 14, 15, 16, 87, 88, 89, 90, 91, 92, 93, 94, 95, 96, 97, 98, 99, 100, 101, 102, 103, 104, 105, 106, 107, 108, 109, 110, 111, 112, 113, 114, 115, 116, 117, 118, 119, 120, 121, 122, 123, 124, 125] (fun x fr W => (x.1 : Int) = (r43.2.1.length : Int) - x.2.1 ∧ 0 ≤ x.2.1 ∧ forN (fun i s => search_finder_decide.b0 rec_search_finder_decide r43 a1 r28 i s.1 s.2) x.1 x.2.1 x.2.2 = some o53 ∧ ∃ s55 : SlV, fr 87 = .int .i64 x.2.1 ∧ St A N w W [oS T_int 1 IC s55 ((x.2.2.1).kids), oB b51 T_Step (Step.C (⟨(x.2.2.1).seq, (x.2.2.1).proved, (x.2.2.1).rule, (x.2.2.1).main, s55⟩ : Step)), oF a_0 g_0_1 (x.2.2.2), oS T_Sq 17 Sq.C s46 r43.2.1, oB b2 T_Sq (Sq.C a1)] [oTz]) (fun x => x.1) (((r43.2.1.length : Int) - 0).toNat, 0, ((⟨a1, true, r28.1, r28.2.1, ([] : List Int)⟩ : PStep), (⟨r43.1, a0.steps, a0.at_, IntKind.i64.wrap (a0.left - 1), IntKind.i64.wrap (a0.visits + 1)⟩ : PFinder))) ⟨(by dsimp only; have hle := Int.natCast_nonneg (r43.2.1.length); omega), (Int.le_refl _), (by dsimp only; exact e53), SlV.nil, rfl, S⟩ ?_
    rintro ⟨m53, i53, ⟨x53_0, x53_1⟩⟩ g53 u53 ⟨hm53, hl53, e53, s56, q53_i, S⟩
    try dsimp only at hm53
    try dsimp only at hl53
    try dsimp only at e53
    try dsimp only at S
    try dsimp only at q53_i
    refine wc_seq (wc_region ?_)
    refine wd (does_lt q53_i rfl) ?_
    refine wl_nil ?_
    refine wc_seq ?_
    refine wc_if rfl (fun hc57 => ?_) (fun hc57 => ?_)
    rotate_left
    · refine wc_exit ?_
      have hge : (r43.2.1.length : Int) ≤ i53 := Int.not_lt.1 (of_decide_eq_false hc57)
      obtain rfl : m53 = 0 := by omega
      replace e53 := forN_0 e53
      exact ⟨rfl, ((Dif.self _ _ _).upd rfl _), (x53_0, x53_1), e53, s56, S⟩
    refine wc_skip ?_
    have hlt53 : i53 < (r43.2.1.length : Int) := of_decide_eq_true hc57
    obtain ⟨m53, rfl⟩ : ∃ m, m53 = m + 1 := ⟨m53 - 1, by omega⟩
    obtain ⟨q53, H, e53⟩ := forN_s e53
    unfold search_finder_decide.b0 at H
    try dsimp only at H
    have hb53 := (S.lenO 3)
    refine wc_seq ?_
    refine wc_block ?_
    refine wc_seq (wc_region ?_)
    refine wd (does_indexR sl_L_api_Seq rfl q53_i (S.rdO 3) (And.intro (show 0 ≤ i53 by omega) (show i53 < (r43.2.1.length : Int) from hlt53)).1 (And.intro (show 0 ≤ i53 by omega) (show i53 < (r43.2.1.length : Int) from hlt53)).2) ?_
    refine wd (does_load_agg ag_Sq rfl ((S.rdO 3).at (at_some Sq.z (And.intro (show 0 ≤ i53 by omega) (show i53 < (r43.2.1.length : Int) from hlt53)))) (Sq.len _)) ?_
    refine wl_alloc ze_Sq (by decide) fun b60 w59 hw59 => ?_
    replace S : St A N w w59 [oB b60 T_Sq (Sq.C Sq.z), oS T_int 1 IC s56 x53_0.kids, oB b51 T_Step (Step.C (⟨x53_0.seq, x53_0.proved, x53_0.rule, x53_0.main, s56⟩ : Step)), oF a_0 g_0_1 x53_1, oS T_Sq 17 Sq.C s46 r43.2.1, oB b2 T_Sq (Sq.C a1)] [oTz] := S.new hw59
    refine wl_store_agg ag_Sq rfl rfl (S.blk 0) (Sq.len _) (by rw [Sq.len]; decide) (Sq.one _) (store_all (Sq.len _)) fun w61 B hw61 zw61 => ?_
    replace S : St A N w w61 [oB b60 T_Sq (Sq.C (at_ Sq.z r43.2.1 i53)), oS T_int 1 IC s56 x53_0.kids, oB b51 T_Step (Step.C (⟨x53_0.seq, x53_0.proved, x53_0.rule, x53_0.main, s56⟩ : Step)), oF a_0 g_0_1 x53_1, oS T_Sq 17 Sq.C s46 r43.2.1, oB b2 T_Sq (Sq.C a1)] [oTz] := S.store 0 B hw61
    clear B
    refine wl_nil ?_
    refine wc_seq (wc_region ?_)
    refine wd (does_mv_p rfl) ?_
    refine wd (does_load_agg ag_Sq rfl ((S.blk 0).all _ (Sq.len _)) (Sq.len _)) ?_
    obtain ⟨r62, er62, H⟩ := bind_ex H
    replace S : St A N w w61 [oF a_0 g_0_1 x53_1, oB b60 T_Sq (Sq.C (at_ Sq.z r43.2.1 i53)), oS T_int 1 IC s56 x53_0.kids, oB b51 T_Step (Step.C (⟨x53_0.seq, x53_0.proved, x53_0.rule, x53_0.main, s56⟩ : Step)), oS T_Sq 17 Sq.C s46 r43.2.1, oB b2 T_Sq (Sq.C a1)] [oTz] := S.front 3
    obtain ⟨B64, MB64, SB64, back⟩ := S.calln 1 ((.z 0 rfl .nil))
    refine wl_call (does_call ca_search_finder_decide) (by decide) (hrec_search_finder_decide SB64 er62) ?_
    rintro _ w63 ⟨rfl, S2⟩
    replace S : St A N w w63 [oF a_0 g_0_1 r62.1, oB b60 T_Sq (Sq.C (at_ Sq.z r43.2.1 i53)), oS T_int 1 IC s56 x53_0.kids, oB b51 T_Step (Step.C (⟨x53_0.seq, x53_0.proved, x53_0.rule, x53_0.main, s56⟩ : Step)), oS T_Sq 17 Sq.C s46 r43.2.1, oB b2 T_Sq (Sq.C a1)] [oTz] := back _ _ _ _ S2 rfl
    clear back S2 SB64
    refine wd (does_mv_t rfl) ?_
    refine wd (does_extract rfl rfl) ?_
    refine wd (does_extract rfl rfl) ?_
    refine wd (does_as_i rfl) ?_
    refine wd (does_as_i rfl) ?_
    refine wl_nil ?_
    refine wc_seq (wc_seq (wc_region ?_))
    refine wd (does_mv_i rfl) ?_
    refine wd (does_ne rfl rfl) ?_
    refine wl_nil ?_
    refine wc_if rfl (fun hc65 => ?_) (fun hc65 => ?_)
    · replace H := if_t hc65 H
      refine wc_seq (wc_region ?_)
      refine wd (does_mv_i rfl) ?_
      refine wd (does_as_i rfl) ?_
      refine wd (does_as_i rfl) ?_
      refine wl_nil ?_
      refine wc_ret ?_
      refine ⟨_, (rets2 (retOne_tmp rfl) (retOne_tmp rfl)), ?_⟩
      replace S : St A N w w63 [oF a_0 g_0_1 r62.1] [] := S.arr [0] []
      obtain rfl := Option.some.inj H
      obtain rfl := e53
      obtain rfl := aft_r Ho53
      exact ⟨rfl, S⟩
    replace H := if_f hc65 H
    refine wc_skip ?_
    refine wc_seq (wc_seq (wc_region ?_))
    refine wd (does_mv_p rfl) ?_
    obtain ⟨p66, s68, m69, hp67, S⟩ := S.open_oF 0
    replace S : St A N w w63 [oB p66 T_Finder (Finder.C (⟨g_0_1, s68, (some m69), r62.1.left, r62.1.visits⟩ : Finder)), oT g_0_1 r62.1.t, oDStep s68 r62.1.steps, oMSq m69 r62.1.at_, oB b60 T_Sq (Sq.C (at_ Sq.z r43.2.1 i53)), oS T_int 1 IC s56 x53_0.kids, oB b51 T_Step (Step.C (⟨x53_0.seq, x53_0.proved, x53_0.rule, x53_0.main, s56⟩ : Step)), oS T_Sq 17 Sq.C s46 r43.2.1, oB b2 T_Sq (Sq.C a1)] [oTz] := S
    refine wd (does_nilCheck (congrArg Value.pointer hp67)) ?_
    refine wd (does_fieldAddr fl_Finder_steps rfl (o' := 1) rfl) ?_
    refine wd (does_load on_L_api_Step rfl ((S.blk 0).cell (Finder.get_steps _))) ?_
    refine wd (does_mv_i rfl) ?_
    obtain ⟨hi70, H⟩ := chk_ex H
    refine wd (does_indexD sl_L_api_Step rfl rfl (S.onO 2) (inb_ex hi70).1 (inb_ex hi70).2) ?_
    refine wd (does_fieldAddr fl_Step_proved rfl (o' := _) rfl) ?_
    refine wd (does_load on_bool rfl (oD.cell (z := PStep.z) (S.onO 2) (inb_ex hi70) (fun _ => rStep.get_proved))) ?_
    refine wd (does_not rfl) ?_
    replace S := S.front 3
    replace S := S.front 3
    replace S := S.front 3
    replace S := S.front 3
    replace S : St A N w w63 [oF a_0 g_0_1 r62.1, oB b60 T_Sq (Sq.C (at_ Sq.z r43.2.1 i53)), oS T_int 1 IC s56 x53_0.kids, oB b51 T_Step (Step.C (⟨x53_0.seq, x53_0.proved, x53_0.rule, x53_0.main, s56⟩ : Step)), oS T_Sq 17 Sq.C s46 r43.2.1, oB b2 T_Sq (Sq.C a1)] [oTz] := S.shut_oF hp67
    refine wl_nil ?_
    refine wc_if rfl (fun hc71 => ?_) (fun hc71 => ?_)
    · replace H := if_t hc71 H
      refine wc_seq (wc_region ?_)
      refine wd (does_mv_p rfl) ?_
      refine wd (does_load_agg ag_Sq rfl ((S.blk 5).all _ (Sq.len _)) (Sq.len _)) ?_
      refine wd (does_mv_i rfl) ?_
      refine wd (does_mv_i rfl) ?_
      refine wd (does_mv_i rfl) ?_
      refine wl_lits (C := IC) (l := [r62.2.1]) (vs := [.int .i64 r62.2.1]) sl_L_int el_int.zero rfl rfl (fun _ _ => rfl) (by decide) rfl (by decide) fun b73 w72 s74 hBw72 hw72 => ?_
      replace S : St A N w w72 [oS T_int 1 IC s74 ([r62.2.1]), oF a_0 g_0_1 r62.1, oB b60 T_Sq (Sq.C (at_ Sq.z r43.2.1 i53)), oS T_int 1 IC s56 x53_0.kids, oB b51 T_Step (Step.C (⟨x53_0.seq, x53_0.proved, x53_0.rule, x53_0.main, s56⟩ : Step)), oS T_Sq 17 Sq.C s46 r43.2.1, oB b2 T_Sq (Sq.C a1)] [oTz] := S.lit hBw72 hw72 (by simp)
      refine wd (Does.to (v' := .agg (Step.C (⟨a1, false, r28.1, r28.2.1, s74⟩ : Step)).toArray) (does_buildv (vs := [(0, .agg (Sq.C a1).toArray), (2, .int .i64 r28.1), (3, .int .i64 r28.2.1), (4, s74.v)]) bu_Step (consP rfl (consP rfl (consP rfl (consP rfl rfl)))) (Bld.step rfl rfl (Sq.len _) (by rw [Step.len]; decide) (Step.put_seq _ _) (Bld.one rfl rfl (by rw [Step.len]; decide) (Step.set_rule _ _) (Bld.one rfl rfl (by rw [Step.len]; decide) (Step.set_main _ _) (Bld.one rfl (SlV.one _ _ rfl) (by rw [Step.len]; decide) (Step.set_kids _ _) Bld.nil))))) rfl) ?_
      obtain ⟨r75, er75, H⟩ := bind_ex H
      replace S : St A N w w72 [oF a_0 g_0_1 r62.1, oS T_int 1 IC s74 ([r62.2.1]), oB b60 T_Sq (Sq.C (at_ Sq.z r43.2.1 i53)), oS T_int 1 IC s56 x53_0.kids, oB b51 T_Step (Step.C (⟨x53_0.seq, x53_0.proved, x53_0.rule, x53_0.main, s56⟩ : Step)), oS T_Sq 17 Sq.C s46 r43.2.1, oB b2 T_Sq (Sq.C a1)] [oTz] := S.front 1
      obtain ⟨B77, MB77, SB77, back⟩ := S.calln 2 ((.nil))
      refine wl_call (does_call ca_search_finder_end) (by decide) (search_finder_end_st (a1 := (⟨a1, false, r28.1, r28.2.1, [r62.2.1]⟩ : PStep)) SB77 er75) ?_
      rintro _ w76 ⟨rfl, S2⟩
      replace S : St A N w w76 [oF a_0 g_0_1 r75.1, oB b60 T_Sq (Sq.C (at_ Sq.z r43.2.1 i53)), oS T_int 1 IC s56 x53_0.kids, oB b51 T_Step (Step.C (⟨x53_0.seq, x53_0.proved, x53_0.rule, x53_0.main, s56⟩ : Step)), oS T_Sq 17 Sq.C s46 r43.2.1, oB b2 T_Sq (Sq.C a1)] [oTz] := back _ _ _ _ S2 rfl
      clear back S2 SB77
      refine wd (does_extract rfl rfl) ?_
      refine wd (does_extract rfl rfl) ?_
      refine wd (does_as_i rfl) ?_
      refine wd (does_as_i rfl) ?_
      refine wl_nil ?_
      refine wc_ret ?_
      refine ⟨_, (rets2 (retOne_tmp rfl) (retOne_tmp rfl)), ?_⟩
      replace S : St A N w w76 [oF a_0 g_0_1 r75.1] [] := S.arr [0] []
      obtain rfl := Option.some.inj H
      obtain rfl := e53
      obtain rfl := aft_r Ho53
      exact ⟨rfl, S⟩
    replace H := if_f hc71 H
    refine wc_skip ?_
    refine wc_region ?_
    refine wd (does_fieldAddr fl_Step_kids rfl (o' := 20) rfl) ?_
    refine wd (does_load on_L_int rfl ((S.blk 3).cell (Step.get_kids _))) ?_
    refine wd (does_mv_i rfl) ?_
    refine wl_lits (C := IC) (l := [r62.2.1]) (vs := [.int .i64 r62.2.1]) sl_L_int el_int.zero rfl rfl (fun _ _ => rfl) (by decide) rfl (by decide) fun b79 w78 s80 hBw78 hw78 => ?_
    replace S : St A N w w78 [oS T_int 1 IC s80 ([r62.2.1]), oF a_0 g_0_1 r62.1, oB b60 T_Sq (Sq.C (at_ Sq.z r43.2.1 i53)), oS T_int 1 IC s56 x53_0.kids, oB b51 T_Step (Step.C (⟨x53_0.seq, x53_0.proved, x53_0.rule, x53_0.main, s56⟩ : Step)), oS T_Sq 17 Sq.C s46 r43.2.1, oB b2 T_Sq (Sq.C a1)] [oTz] := S.lit hBw78 hw78 (by simp)
    obtain ⟨ha83, H⟩ := chk_ex H
    have ha83 := of_decide_eq_true ha83
    refine wl_appends (C := IC) sl_L_int el_int rfl rfl (S.sl 3) (S.rdO 0) (by simp) (fun a _ v hv => by rw [List.mem_singleton.1 hv]; rfl) ha83 (by omega) (by decide) fun s82 w81 O hw81 gw81 => ?_
    replace S : St A N w w81 [oS T_int 1 IC s82 (x53_0.kids ++ [r62.2.1]), oS T_int 1 IC s80 ([r62.2.1]), oF a_0 g_0_1 r62.1, oB b60 T_Sq (Sq.C (at_ Sq.z r43.2.1 i53)), oB b51 T_Step (Step.C (⟨x53_0.seq, x53_0.proved, x53_0.rule, x53_0.main, s56⟩ : Step)), oS T_Sq 17 Sq.C s46 r43.2.1, oB b2 T_Sq (Sq.C a1)] [oTz] := S.push 3 O (by first | (simp; done) | (simp; omega)) hw81 gw81
    clear O
    refine wd (does_fieldAddr fl_Step_kids rfl (o' := 20) rfl) ?_
    refine wl_store on_L_int rfl rfl (S.blk 4) (by rw [Step.len]; decide) (SlV.one _ _ rfl) (Step.set_kids _ _) fun w84 B hw84 zw84 => ?_
    replace S : St A N w w84 [oB b51 T_Step (Step.C (⟨x53_0.seq, x53_0.proved, x53_0.rule, x53_0.main, s82⟩ : Step)), oS T_int 1 IC s82 (x53_0.kids ++ [r62.2.1]), oS T_int 1 IC s80 ([r62.2.1]), oF a_0 g_0_1 r62.1, oB b60 T_Sq (Sq.C (at_ Sq.z r43.2.1 i53)), oS T_Sq 17 Sq.C s46 r43.2.1, oB b2 T_Sq (Sq.C a1)] [oTz] := S.store 4 B hw84
    clear B
    refine wl_nil ?_
    refine wc_region ?_
    refine wd (does_addc q53_i rfl (c := i53 + 1) rfl (by omega) (by omega)) ?_
    refine wd (does_mv_i rfl) ?_
    refine wl_nil ?_
    replace S : St A N w w84 [oS T_int 1 IC s82 (x53_0.kids ++ [r62.2.1]), oB b51 T_Step (Step.C (⟨x53_0.seq, x53_0.proved, x53_0.rule, x53_0.main, s82⟩ : Step)), oF a_0 g_0_1 r62.1, oS T_Sq 17 Sq.C s46 r43.2.1, oB b2 T_Sq (Sq.C a1)] [oTz] := S.arr [1, 0, 3, 5, 6] [0]
    obtain rfl := Option.some.inj H
    exact ⟨rfl, ((((((((((((((((((((((((((((((((Dif.self _ _ _).upd rfl _).upd rfl _).upd rfl _).upd rfl _).upd rfl _).upd rfl _).upd rfl _).upd rfl _).upd rfl _).upd rfl _).upd rfl _).upd rfl _).upd rfl _).upd rfl _).upd rfl _).upd rfl _).upd rfl _).upd rfl _).upd rfl _).upd rfl _).upd rfl _).upd rfl _).upd rfl _).upd rfl _).upd rfl _).upd rfl _).upd rfl _).upd rfl _).upd rfl _).upd rfl _).upd rfl _), (m53, i53 + 1, ((⟨x53_0.seq, x53_0.proved, x53_0.rule, x53_0.main, x53_0.kids ++ [r62.2.1]⟩ : PStep), r62.1)), ⟨(by dsimp only; omega), (by dsimp only; omega), e53, s82, rfl, S⟩, by dsimp only; omega⟩
  rintro g85 u86 ⟨s53, rfl, s54, S⟩
  have H := Ho53
  dsimp only [aft] at H
  refine wc_seq (wc_region ?_)
  refine wd (does_mv_p rfl) ?_
  refine wd (does_load_agg ag_Step rfl ((S.blk 1).all _ (Step.len _)) (Step.len _)) ?_
  obtain ⟨r87, er87, H⟩ := bind_ex H
  replace S : St A N w u86 [oF a_0 g_0_1 s53.2, oS T_int 1 IC s54 s53.1.kids, oB b51 T_Step (Step.C (⟨s53.1.seq, s53.1.proved, s53.1.rule, s53.1.main, s54⟩ : Step)), oS T_Sq 17 Sq.C s46 r43.2.1, oB b2 T_Sq (Sq.C a1)] [oTz] := S.front 2
  obtain ⟨B89, MB89, SB89, back⟩ := S.calln 2 ((.nil))
  refine wl_call (does_call ca_search_finder_end) (by decide) (search_finder_end_st (a1 := s53.1) SB89 er87) ?_
  rintro _ w88 ⟨rfl, S2⟩
  replace S : St A N w w88 [oF a_0 g_0_1 r87.1, oB b51 T_Step (Step.C (⟨s53.1.seq, s53.1.proved, s53.1.rule, s53.1.main, s54⟩ : Step)), oS T_Sq 17 Sq.C s46 r43.2.1, oB b2 T_Sq (Sq.C a1)] [oTz] := back _ _ _ _ S2 rfl
  clear back S2 SB89
  refine wd (does_extract rfl rfl) ?_
  refine wd (does_extract rfl rfl) ?_
  refine wd (does_as_i rfl) ?_
  refine wd (does_as_i rfl) ?_
  refine wl_nil ?_
  refine wc_ret ?_
  refine ⟨_, (rets2 (retOne_tmp rfl) (retOne_tmp rfl)), ?_⟩
  replace S : St A N w w88 [oF a_0 g_0_1 r87.1] [] := S.arr [0] []
  obtain rfl := Option.some.inj H
  exact ⟨rfl, S⟩
theorem search_finder_decide_st {A : Nat → Prop} {N : Oth} {w : World} {a0 : PFinder} {a_0 : Option Addr} {g_0_1 : Option Addr} {a1 : Sq} (S : St A N w w [oF a_0 g_0_1 a0] [oTz]) {k : Nat} {r : PFinder × Int × Int} (H : search_finder_decide.f k a0 a1 = some r) :
    Calls PP F_search_finder_decide #[.pointer a_0, .agg (Sq.C a1).toArray] w fun e w' => ∃ v, e = .returned v ∧ (v = .tuple #[.int .i64 r.2.1, .int .i64 r.2.2] ∧ St A N w w' [oF a_0 g_0_1 r.1] []) := by
  have main : ∀ (k : Nat) {A : Nat → Prop} {N : Oth} {w : World} {a0 : PFinder} {a_0 : Option Addr} {g_0_1 : Option Addr} {a1 : Sq} (S : St A N w w [oF a_0 g_0_1 a0] [oTz]) {r : PFinder × Int × Int} (H : search_finder_decide.f k a0 a1 = some r), Calls PP F_search_finder_decide #[.pointer a_0, .agg (Sq.C a1).toArray] w fun e w' => ∃ v, e = .returned v ∧ (v = .tuple #[.int .i64 r.2.1, .int .i64 r.2.2] ∧ St A N w w' [oF a_0 g_0_1 r.1] []) := by
    intro k
    induction k with
    | zero => intro A N w a0 a_0 g_0_1 a1 S r H; cases H
    | succ k ih => intro A N w a0 a_0 g_0_1 a1 S r H; exact search_finder_decide_gst ih S H
  exact main k S H
theorem search_Run_st {A : Nat → Prop} {N : Oth} {w : World} {a0 : Tb} {a_0 : Option Addr} {a1 : Sq} {a2 : Int} (S : St A N w w [oT a_0 a0] [oTz]) {k : Nat} {r : Tb × PFound × Int} (H : search_Run.f k a0 a1 a2 = some r) :
    Calls PP F_search_Run #[.pointer a_0, .agg (Sq.C a1).toArray, .int .i64 a2] w fun e w' => ∃ v, e = .returned v ∧ (∃ so0 : SlV, v = .tuple #[.agg (Found.C (⟨r.2.1.proved, so0, r.2.1.visits⟩ : Found)).toArray, .int .i64 r.2.2] ∧ St A N w w' [oT a_0 r.1, oDStep so0 r.2.1.steps] []) := by
  unfold search_Run.f at H
  refine calls_of_wc (n := 88) fn_search_Run rfl rfl (by simp) ?_
  refine wc_seq (wc_region ?_)
  refine wl_box_p rfl (by decide) fun b2 w1 hw1 => ?_
  replace S : St A N w w1 [oB b2 T_dictum_formula_has [.pointer a_0], oT a_0 a0] [oTz] := S.new hw1
  refine wl_box_agg rfl (by decide) fun b4 w3 hw3 => ?_
  replace S : St A N w w3 [oB b4 T_Sq (Sq.C a1), oB b2 T_dictum_formula_has [.pointer a_0], oT a_0 a0] [oTz] := S.new hw3
  refine wl_alloc ze_Found (by decide) fun b6 w5 hw5 => ?_
  replace S : St A N w w5 [oB b6 T_Found (Found.C (⟨false, SlV.nil, 0⟩ : Found)), oB b4 T_Sq (Sq.C a1), oB b2 T_dictum_formula_has [.pointer a_0], oT a_0 a0] [oTz] := S.new hw5
  refine wl_alloc ze_api_Errno (by decide) fun b8 w7 hw7 => ?_
  replace S : St A N w w7 [oB b8 T_api_Errno [.int .i64 0], oB b6 T_Found (Found.C (⟨false, SlV.nil, 0⟩ : Found)), oB b4 T_Sq (Sq.C a1), oB b2 T_dictum_formula_has [.pointer a_0], oT a_0 a0] [oTz] := S.new hw7
  refine wl_nil ?_
  refine wc_seq (wc_seq (wc_region ?_))
  refine wd (does_load on_dictum_formula_has rfl ((S.blk 3).cell rfl)) ?_
  obtain ⟨r9, er9, H⟩ := bind_ex H
  obtain ⟨B11, MB11, SB11, back⟩ := S.calln 0 ((.o 4 rfl .nil))
  refine wl_call (does_call ca_formula_Table_Not) (by decide) (formula_Table_Not_neg_st SB11 rfl er9) ?_
  rintro _ w10 ⟨rfl, S2⟩
  replace S : St A N w w10 [oB b8 T_api_Errno [.int .i64 0], oB b6 T_Found (Found.C (⟨false, SlV.nil, 0⟩ : Found)), oB b4 T_Sq (Sq.C a1), oB b2 T_dictum_formula_has [.pointer a_0], oT a_0 a0] [oTz] := back _ _ _ _ S2 rfl
  clear back S2 SB11
  refine wd (does_mv_t rfl) ?_
  refine wd (does_extract rfl rfl) ?_
  refine wd (does_extract rfl rfl) ?_
  refine wd (does_as_i rfl) ?_
  refine wd (does_as_i rfl) ?_
  refine wl_nil ?_
  refine wc_seq (wc_region ?_)
  refine wd (does_mv_i rfl) ?_
  refine wd (does_eq rfl rfl) ?_
  refine wl_nil ?_
  refine wc_if rfl (fun hc12 => ?_) (fun hc12 => ?_)
  · replace H := if_t hc12 H
    refine wc_seq (wc_region ?_)
    refine wd (Does.to (v' := .agg (Found.C (⟨false, SlV.nil, 0⟩ : Found)).toArray) (does_buildv (vs := []) bu_Found rfl Bld.nil) rfl) ?_
    refine wd (does_mv_i rfl) ?_
    refine wl_store_agg ag_Found rfl rfl (S.blk 1) (Found.len _) (by rw [Found.len]; decide) (Found.one _) (store_all (Found.len _)) fun w13 B hw13 zw13 => ?_
    replace S : St A N w w13 [oB b6 T_Found (Found.C (⟨false, SlV.nil, 0⟩ : Found)), oB b8 T_api_Errno [.int .i64 0], oB b4 T_Sq (Sq.C a1), oB b2 T_dictum_formula_has [.pointer a_0], oT a_0 a0] [oTz] := S.store 1 B hw13
    clear B
    refine wl_store on_api_Errno rfl rfl (S.blk 1) (by simp) rfl rfl fun w14 B hw14 zw14 => ?_
    replace S : St A N w w14 [oB b8 T_api_Errno [.int .i64 r9.2], oB b6 T_Found (Found.C (⟨false, SlV.nil, 0⟩ : Found)), oB b4 T_Sq (Sq.C a1), oB b2 T_dictum_formula_has [.pointer a_0], oT a_0 a0] [oTz] := S.store 1 B hw14
    clear B
    refine wl_nil ?_
    refine wc_ret ?_
    replace S : St A N w w14 [oDStep SlV.nil ([] : List PStep), oB b8 T_api_Errno [.int .i64 r9.2], oB b6 T_Found (Found.C (⟨false, SlV.nil, 0⟩ : Found)), oB b4 T_Sq (Sq.C a1), oB b2 T_dictum_formula_has [.pointer a_0], oT a_0 a0] [oTz] := S.nilD T_Step 21 Step.C rStep
    refine ⟨_, (rets2 (retOne_agg ag_Found rfl ((S.blk 2).all _ (Found.len _)) (Found.len _)) (retOne_one on_api_Errno rfl ((S.blk 1).cell rfl))), ?_⟩
    replace S : St A N w w14 [oT a_0 a0, oDStep SlV.nil ([] : List PStep)] [] := S.arr [5, 0] []
    obtain rfl := Option.some.inj H
    exact ⟨SlV.nil, rfl, S⟩
  replace H := if_f hc12 H
  refine wc_skip ?_
  refine wc_seq (wc_seq (wc_region ?_))
  refine wd (does_fieldAddr fl_Sq_left rfl (o' := 0) rfl) ?_
  refine wd (does_load_agg ag_Bits rfl ((S.blk 2).cells (Sq.sub_left _)) (Bits.len _)) ?_
  refine wl_call (does_call ca_bits_All) (by decide) (bits_All_ok _ a1.left) ?_
  rintro _ w15 ⟨c16, rfl, Bc16, hc16, Ec16⟩
  replace S : St A N w w15 [oB b8 T_api_Errno [.int .i64 0], oB b6 T_Found (Found.C (⟨false, SlV.nil, 0⟩ : Found)), oB b4 T_Sq (Sq.C a1), oB b2 T_dictum_formula_has [.pointer a_0], oT a_0 a0] [oB c16 T_Bits (Bits.C a1.left), oTz] := S.addZ (b := oB c16 T_Bits (Bits.C a1.left)) (G := (· = c16)) Ec16 ⟨Bc16, fun _ => Iff.rfl⟩ (fun i hi => by rw [hi]; exact hc16)
  refine wl_nil ?_
  refine wc_block ?_
  replace S : St A N w w15 [oDStep SlV.nil ([] : List PStep), oB b8 T_api_Errno [.int .i64 0], oB b6 T_Found (Found.C (⟨false, SlV.nil, 0⟩ : Found)), oB b4 T_Sq (Sq.C a1), oB b2 T_dictum_formula_has [.pointer a_0], oT a_0 a0] [oB c16 T_Bits (Bits.C a1.left), oTz] := S.nilD T_Step 21 Step.C rStep
  obtain ⟨hok17, H⟩ := chk_ex H
  obtain ⟨o18, e18, Ho18⟩ := bind_ex H
  clear H
  refine wc_rangeSt (xs := Bits.list a1.left) (enc := fun (x : Nat) => Value.int .i64 (x : Int)) (bd := (fun (x : Nat) (s : Int × PFound) => search_Run.b0 a0 (x : Int) s.1 s.2)) (L := (fun (s : Int × PFound) (c : SlV) => [oDStep c s.2.steps, oB b8 T_api_Errno [.int .i64 s.1], oB b6 T_Found (Found.C (⟨s.2.proved, c, s.2.visits⟩ : Found)), oB b4 T_Sq (Sq.C a1), oB b2 T_dictum_formula_has [.pointer a_0], oT a_0 a0])) (Lr := (fun (s : Int × PFound) (c : SlV) => [oDStep c s.2.steps, oB b8 T_api_Errno [.int .i64 s.1], oB b6 T_Found (Found.C (⟨s.2.proved, c, s.2.visits⟩ : Found)), oB b4 T_Sq (Sq.C a1), oB b2 T_dictum_formula_has [.pointer a_0], oT a_0 a0])) (Z := [oB c16 T_Bits (Bits.C a1.left), oTz]) SlV.nil false 0 rfl ca_bits_All_1 (bits_All_1_gives (Bits.okB_ok hok17) c16) (by decide) (fun N' s c W h => ⟨h.blkZ 0, h.tz 1⟩) S e18 ?_ ?_ ?_ ?_
  · rintro i18 ⟨x18_0, x18_1⟩ s19 q18 N18 rd u18 H S
    replace S : St A N18 w u18 [oDStep s19 x18_1.steps, oB b8 T_api_Errno [.int .i64 x18_0], oB b6 T_Found (Found.C (⟨x18_1.proved, s19, x18_1.visits⟩ : Found)), oB b4 T_Sq (Sq.C a1), oB b2 T_dictum_formula_has [.pointer a_0], oT a_0 a0] [oB c16 T_Bits (Bits.C a1.left), oTz] := S
    refine wc_region ?_
    refine wd (does_as_i rfl) ?_
    refine wl_nil ?_
    refine ⟨rfl, S, fun M18 v18 S => ?_⟩
    replace S : St A M18 w v18 [oDStep s19 x18_1.steps, oB b8 T_api_Errno [.int .i64 x18_0], oB b6 T_Found (Found.C (⟨x18_1.proved, s19, x18_1.visits⟩ : Found)), oB b4 T_Sq (Sq.C a1), oB b2 T_dictum_formula_has [.pointer a_0], oT a_0 a0] [oB c16 T_Bits (Bits.C a1.left), oTz] := S
    replace H : search_Run.b0 a0 (i18 : Int) x18_0 x18_1 = some q18 := H
    unfold search_Run.b0 at H
    try dsimp only at H
    refine wc_block ?_
    refine wc_seq (wc_region ?_)
    refine wd (does_mv_i rfl) ?_
    refine wd (does_load on_dictum_formula_has rfl ((S.blk 4).cell rfl)) ?_
    obtain ⟨r20, er20, H⟩ := bind_ex H
    obtain ⟨B22, MB22, SB22, back⟩ := S.calln 0 ((.o 5 rfl .nil))
    refine wl_call (does_call ca_formula_Table_Len) (by decide) (formula_Table_Len_st SB22 er20) ?_
    rintro _ w21 ⟨rfl, S2⟩
    replace S : St A M18 w w21 [oDStep s19 x18_1.steps, oB b8 T_api_Errno [.int .i64 x18_0], oB b6 T_Found (Found.C (⟨x18_1.proved, s19, x18_1.visits⟩ : Found)), oB b4 T_Sq (Sq.C a1), oB b2 T_dictum_formula_has [.pointer a_0], oT a_0 a0] [oB c16 T_Bits (Bits.C a1.left), oTz] := back _ _ _ _ S2 rfl
    clear back S2 SB22
    refine wd (does_ge rfl rfl) ?_
    refine wl_nil ?_
    refine wc_if rfl (fun hc23 => ?_) (fun hc23 => ?_)
    · replace H := if_t hc23 H
      refine wc_seq (wc_region ?_)
      refine wd (Does.to (v' := .agg (Found.C (⟨false, SlV.nil, 0⟩ : Found)).toArray) (does_buildv (vs := []) bu_Found rfl Bld.nil) rfl) ?_
      refine wl_store_agg ag_Found rfl rfl (S.blk 2) (Found.len _) (by rw [Found.len]; decide) (Found.one _) (store_all (Found.len _)) fun w24 B hw24 zw24 => ?_
      replace S : St A M18 w w24 [oB b6 T_Found (Found.C (⟨false, SlV.nil, 0⟩ : Found)), oDStep s19 x18_1.steps, oB b8 T_api_Errno [.int .i64 x18_0], oB b4 T_Sq (Sq.C a1), oB b2 T_dictum_formula_has [.pointer a_0], oT a_0 a0] [oB c16 T_Bits (Bits.C a1.left), oTz] := S.store 2 B hw24
      clear B
      refine wl_store on_api_Errno rfl rfl (S.blk 2) (by simp) rfl rfl fun w25 B hw25 zw25 => ?_
      replace S : St A M18 w w25 [oB b8 T_api_Errno [.int .i64 31], oB b6 T_Found (Found.C (⟨false, SlV.nil, 0⟩ : Found)), oDStep s19 x18_1.steps, oB b4 T_Sq (Sq.C a1), oB b2 T_dictum_formula_has [.pointer a_0], oT a_0 a0] [oB c16 T_Bits (Bits.C a1.left), oTz] := S.store 2 B hw25
      clear B
      refine wl_nil ?_
      refine wc_ret ?_
      replace S : St A M18 w w25 [oDStep SlV.nil ([] : List PStep), oB b8 T_api_Errno [.int .i64 31], oB b6 T_Found (Found.C (⟨false, SlV.nil, 0⟩ : Found)), oDStep s19 x18_1.steps, oB b4 T_Sq (Sq.C a1), oB b2 T_dictum_formula_has [.pointer a_0], oT a_0 a0] [oB c16 T_Bits (Bits.C a1.left), oTz] := S.nilD T_Step 21 Step.C rStep
      replace S : St A M18 w w25 [oDStep SlV.nil ([] : List PStep), oB b8 T_api_Errno [.int .i64 31], oB b6 T_Found (Found.C (⟨false, SlV.nil, 0⟩ : Found)), oB b4 T_Sq (Sq.C a1), oB b2 T_dictum_formula_has [.pointer a_0], oT a_0 a0] [oB c16 T_Bits (Bits.C a1.left), oTz] := S.arr [0, 1, 2, 4, 5, 6] [0, 1]
      obtain rfl := Option.some.inj H
      exact ⟨_, rfl, SlV.nil, S⟩
    replace H := if_f hc23 H
    refine wc_skip ?_
    obtain rfl := Option.some.inj H
    exact ⟨_, rfl, s19, S⟩
  · rintro s18 s27 B18 w26 rfl S hB18
    replace S : St A (N.done B18) w w26 [oDStep s27 s18.2.steps, oB b8 T_api_Errno [.int .i64 s18.1], oB b6 T_Found (Found.C (⟨s18.2.proved, s27, s18.2.visits⟩ : Found)), oB b4 T_Sq (Sq.C a1), oB b2 T_dictum_formula_has [.pointer a_0], oT a_0 a0] [oB c16 T_Bits (Bits.C a1.left), oTz] := S
    have H := Ho18
    dsimp only [fin] at H
    refine wc_seq ?_
    refine wc_seq ?_
    refine wc_quiet 8 (Ext w26) hmix (by kernel_rfl) (by kernel_rfl) (Ext.drawn _) ?_
    refine wq_does (fun v K => does_fieldAddr fl_Sq_goal rfl (o' := 16) rfl) ?_
    refine wq_does (fun v K => does_load on_int rfl (((S.ext K).blk 3).cell (Sq.get_goal _))) ?_
    refine wq_does (fun v K => does_lt rfl rfl) ?_
    refine wq_does (fun v K => does_mv_b rfl) ?_
    refine wq_guard (j := 3) (pol := false) rfl rfl rfl (fun hg v K => does_fieldAddr fl_Sq_goal rfl (o' := 16) rfl) ?_
    refine wq_guard (j := 3) (pol := false) rfl rfl rfl (fun hg v K => does_load on_int (gv_yes hg) (((S.ext K).blk 3).cell (Sq.get_goal _))) ?_
    refine wq_guard (j := 3) (pol := false) rfl rfl rfl (fun hg v K => does_load on_dictum_formula_has rfl (((S.ext K).blk 4).cell rfl)) ?_
    obtain ⟨r28, er28, H⟩ := bind_ex H
    refine wq_gcall (j := 3) (pol := false) rfl rfl rfl (fun hg v => does_callg ca_formula_Table_Len (cons2 (gv_yes hg) rfl)) (fun hg v K => (have ⟨M, SS⟩ := (S.ext K).lend ((.o 5 rfl .nil)); quiet (formula_Table_Len_st SS (if_t (by simpa using hg) er28)) (fun v w' h => ⟨h.1, _, _, h.2⟩))) (fun v v' K h => K.thenExt h) ?_
    refine wq_nil fun w29 K => ?_
    replace S := S.ext K
    clear K
    refine wl_guard (j := 3) (pol := false) rfl rfl rfl (by decide) (fun hg => does_ge (gv_yes hg) (gv_yes hg)) (by decide) ?_
    refine wd (does_or rfl (fun hp => (gv_yes (and_1 hp)))) ?_
    refine wl_nil ?_
    refine wc_if rfl (fun hc30 => ?_) (fun hc30 => ?_)
    · replace H := if_t hc30 H
      refine wc_seq (wc_region ?_)
      refine wd (Does.to (v' := .agg (Found.C (⟨false, SlV.nil, 0⟩ : Found)).toArray) (does_buildv (vs := []) bu_Found rfl Bld.nil) rfl) ?_
      refine wl_store_agg ag_Found rfl rfl (S.blk 2) (Found.len _) (by rw [Found.len]; decide) (Found.one _) (store_all (Found.len _)) fun w31 B hw31 zw31 => ?_
      replace S : St A (N.done B18) w w31 [oB b6 T_Found (Found.C (⟨false, SlV.nil, 0⟩ : Found)), oDStep s27 s18.2.steps, oB b8 T_api_Errno [.int .i64 s18.1], oB b4 T_Sq (Sq.C a1), oB b2 T_dictum_formula_has [.pointer a_0], oT a_0 a0] [oB c16 T_Bits (Bits.C a1.left), oTz] := S.store 2 B hw31
      clear B
      refine wl_store on_api_Errno rfl rfl (S.blk 2) (by simp) rfl rfl fun w32 B hw32 zw32 => ?_
      replace S : St A (N.done B18) w w32 [oB b8 T_api_Errno [.int .i64 31], oB b6 T_Found (Found.C (⟨false, SlV.nil, 0⟩ : Found)), oDStep s27 s18.2.steps, oB b4 T_Sq (Sq.C a1), oB b2 T_dictum_formula_has [.pointer a_0], oT a_0 a0] [oB c16 T_Bits (Bits.C a1.left), oTz] := S.store 2 B hw32
      clear B
      refine wl_nil ?_
      refine wc_ret ?_
      refine end1 (.inl rfl) (S.take hB18).1 fun w33 hcw33 => ?_
      replace S : St A N w w33 [oB b8 T_api_Errno [.int .i64 31], oB b6 T_Found (Found.C (⟨false, SlV.nil, 0⟩ : Found)), oDStep s27 s18.2.steps, oB b4 T_Sq (Sq.C a1), oB b2 T_dictum_formula_has [.pointer a_0], oT a_0 a0] [oB c16 T_Bits (Bits.C a1.left), oTz] := (S.take hB18).2 _ hcw33
      replace S : St A N w w33 [oDStep SlV.nil ([] : List PStep), oB b8 T_api_Errno [.int .i64 31], oB b6 T_Found (Found.C (⟨false, SlV.nil, 0⟩ : Found)), oDStep s27 s18.2.steps, oB b4 T_Sq (Sq.C a1), oB b2 T_dictum_formula_has [.pointer a_0], oT a_0 a0] [oB c16 T_Bits (Bits.C a1.left), oTz] := S.nilD T_Step 21 Step.C rStep
      refine ⟨_, (rets2 (retOne_agg ag_Found rfl ((S.blk 2).all _ (Found.len _)) (Found.len _)) (retOne_one on_api_Errno rfl ((S.blk 1).cell rfl))), ?_⟩
      replace S : St A N w w33 [oT a_0 a0, oDStep SlV.nil ([] : List PStep)] [] := S.arr [6, 0] []
      obtain rfl := Option.some.inj H
      exact ⟨SlV.nil, rfl, S⟩
    replace H := if_f hc30 H
    refine wc_skip ?_
    refine wc_seq (wc_seq (wc_region ?_))
    refine wd (does_mv_i rfl) ?_
    refine wd (does_lt rfl rfl) ?_
    refine wd (does_mv_b rfl) ?_
    refine wl_guard (j := 2) (pol := false) rfl rfl rfl (by decide) (fun hg => does_mv_i rfl) (by decide) ?_
    refine wl_guard (j := 2) (pol := false) rfl rfl rfl (by decide) (fun hg => does_gt (gv_yes hg) rfl) (by decide) ?_
    refine wd (does_or rfl (fun hp => (gv_yes (and_1 hp)))) ?_
    refine wl_nil ?_
    refine wc_if rfl (fun hc34 => ?_) (fun hc34 => ?_)
    · replace H := if_t hc34 H
      refine wc_seq (wc_region ?_)
      refine wd (Does.to (v' := .agg (Found.C (⟨false, SlV.nil, 0⟩ : Found)).toArray) (does_buildv (vs := []) bu_Found rfl Bld.nil) rfl) ?_
      refine wl_store_agg ag_Found rfl rfl (S.blk 2) (Found.len _) (by rw [Found.len]; decide) (Found.one _) (store_all (Found.len _)) fun w35 B hw35 zw35 => ?_
      replace S : St A (N.done B18) w w35 [oB b6 T_Found (Found.C (⟨false, SlV.nil, 0⟩ : Found)), oDStep s27 s18.2.steps, oB b8 T_api_Errno [.int .i64 s18.1], oB b4 T_Sq (Sq.C a1), oB b2 T_dictum_formula_has [.pointer a_0], oT a_0 a0] [oB c16 T_Bits (Bits.C a1.left), oTz] := S.store 2 B hw35
      clear B
      refine wl_store on_api_Errno rfl rfl (S.blk 2) (by simp) rfl rfl fun w36 B hw36 zw36 => ?_
      replace S : St A (N.done B18) w w36 [oB b8 T_api_Errno [.int .i64 2], oB b6 T_Found (Found.C (⟨false, SlV.nil, 0⟩ : Found)), oDStep s27 s18.2.steps, oB b4 T_Sq (Sq.C a1), oB b2 T_dictum_formula_has [.pointer a_0], oT a_0 a0] [oB c16 T_Bits (Bits.C a1.left), oTz] := S.store 2 B hw36
      clear B
      refine wl_nil ?_
      refine wc_ret ?_
      refine end1 (.inl rfl) (S.take hB18).1 fun w37 hcw37 => ?_
      replace S : St A N w w37 [oB b8 T_api_Errno [.int .i64 2], oB b6 T_Found (Found.C (⟨false, SlV.nil, 0⟩ : Found)), oDStep s27 s18.2.steps, oB b4 T_Sq (Sq.C a1), oB b2 T_dictum_formula_has [.pointer a_0], oT a_0 a0] [oB c16 T_Bits (Bits.C a1.left), oTz] := (S.take hB18).2 _ hcw37
      replace S : St A N w w37 [oDStep SlV.nil ([] : List PStep), oB b8 T_api_Errno [.int .i64 2], oB b6 T_Found (Found.C (⟨false, SlV.nil, 0⟩ : Found)), oDStep s27 s18.2.steps, oB b4 T_Sq (Sq.C a1), oB b2 T_dictum_formula_has [.pointer a_0], oT a_0 a0] [oB c16 T_Bits (Bits.C a1.left), oTz] := S.nilD T_Step 21 Step.C rStep
      refine ⟨_, (rets2 (retOne_agg ag_Found rfl ((S.blk 2).all _ (Found.len _)) (Found.len _)) (retOne_one on_api_Errno rfl ((S.blk 1).cell rfl))), ?_⟩
      replace S : St A N w w37 [oT a_0 a0, oDStep SlV.nil ([] : List PStep)] [] := S.arr [6, 0] []
      obtain rfl := Option.some.inj H
      exact ⟨SlV.nil, rfl, S⟩
    replace H := if_f hc34 H
    refine wc_skip ?_
    refine wc_seq (wc_region ?_)
    refine wd (does_load on_dictum_formula_has rfl ((S.blk 4).cell rfl)) ?_
    obtain ⟨r38, er38, H⟩ := bind_ex H
    obtain ⟨B40, MB40, SB40, back⟩ := S.calln 0 ((.o 5 rfl .nil))
    refine wl_call (does_call ca_formula_Table_Len) (by decide) (formula_Table_Len_st SB40 er38) ?_
    rintro _ w39 ⟨rfl, S2⟩
    replace S : St A (N.done B18) w w39 [oDStep s27 s18.2.steps, oB b8 T_api_Errno [.int .i64 s18.1], oB b6 T_Found (Found.C (⟨s18.2.proved, s27, s18.2.visits⟩ : Found)), oB b4 T_Sq (Sq.C a1), oB b2 T_dictum_formula_has [.pointer a_0], oT a_0 a0] [oB c16 T_Bits (Bits.C a1.left), oTz] := back _ _ _ _ S2 rfl
    clear back S2 SB40
    refine wd (does_as_i rfl) ?_
    refine wl_nil ?_
    refine wc_seq (wc_region ?_)
    refine wd (does_load on_dictum_formula_has rfl ((S.blk 4).cell rfl)) ?_
    refine wl_makeMap (C := mSqC) (D := (Value.int .i64)) (by decide) fun m41 w42 hmw42 hxw42 hlw42 => ?_
    replace S : St A (N.done B18) w w42 [oMSq m41 ([] : List (Sq × Int)), oDStep s27 s18.2.steps, oB b8 T_api_Errno [.int .i64 s18.1], oB b6 T_Found (Found.C (⟨s18.2.proved, s27, s18.2.visits⟩ : Found)), oB b4 T_Sq (Sq.C a1), oB b2 T_dictum_formula_has [.pointer a_0], oT a_0 a0] [oB c16 T_Bits (Bits.C a1.left), oTz] := S.newM hmw42 hxw42 hlw42
    refine wd (does_mv_i rfl) ?_
    refine wd (Does.to (v' := .agg (Finder.C (⟨a_0, SlV.nil, (some m41), a2, 0⟩ : Finder)).toArray) (does_buildv (vs := [(0, .pointer a_0), (2, .map (some m41)), (3, .int .i64 a2)]) bu_Finder (consP rfl (consP rfl (consP rfl rfl))) (Bld.one rfl rfl (by rw [Finder.len]; decide) (Finder.set_t _ _) (Bld.one rfl rfl (by rw [Finder.len]; decide) (Finder.set_at_ _ _) (Bld.one rfl rfl (by rw [Finder.len]; decide) (Finder.set_left _ _) Bld.nil)))) rfl) ?_
    refine wl_box_agg rfl (by decide) fun b44 w43 hw43 => ?_
    replace S : St A (N.done B18) w w43 [oB b44 T_Finder (Finder.C (⟨a_0, SlV.nil, (some m41), a2, 0⟩ : Finder)), oMSq m41 ([] : List (Sq × Int)), oDStep s27 s18.2.steps, oB b8 T_api_Errno [.int .i64 s18.1], oB b6 T_Found (Found.C (⟨s18.2.proved, s27, s18.2.visits⟩ : Found)), oB b4 T_Sq (Sq.C a1), oB b2 T_dictum_formula_has [.pointer a_0], oT a_0 a0] [oB c16 T_Bits (Bits.C a1.left), oTz] := S.new hw43
    replace S : St A (N.done B18) w w43 [oDStep SlV.nil ([] : List PStep), oB b44 T_Finder (Finder.C (⟨a_0, SlV.nil, (some m41), a2, 0⟩ : Finder)), oMSq m41 ([] : List (Sq × Int)), oDStep s27 s18.2.steps, oB b8 T_api_Errno [.int .i64 s18.1], oB b6 T_Found (Found.C (⟨s18.2.proved, s27, s18.2.visits⟩ : Found)), oB b4 T_Sq (Sq.C a1), oB b2 T_dictum_formula_has [.pointer a_0], oT a_0 a0] [oB c16 T_Bits (Bits.C a1.left), oTz] := S.nilD T_Step 21 Step.C rStep
    replace S := S.front 2
    replace S := S.front 1
    replace S := S.front 8
    replace S := S.front 3
    replace S : St A (N.done B18) w w43 [oF (some ⟨b44, 0, none⟩) a_0 (⟨a0, ([] : List PStep), ([] : List (Sq × Int)), a2, 0⟩ : PFinder), oDStep s27 s18.2.steps, oB b8 T_api_Errno [.int .i64 s18.1], oB b6 T_Found (Found.C (⟨s18.2.proved, s27, s18.2.visits⟩ : Found)), oB b4 T_Sq (Sq.C a1), oB b2 T_dictum_formula_has [.pointer a_0]] [oB c16 T_Bits (Bits.C a1.left), oTz] := S.shut_oF rfl
    refine wd (does_as_p rfl) ?_
    refine wl_nil ?_
    refine wc_seq (wc_region ?_)
    refine wd (does_mv_p rfl) ?_
    refine wd (does_load_agg ag_Sq rfl ((S.blk 4).all _ (Sq.len _)) (Sq.len _)) ?_
    obtain ⟨r45, er45, H⟩ := bind_ex H
    obtain ⟨B47, MB47, SB47, back⟩ := S.calln 1 ((.z 1 rfl .nil))
    refine wl_call (does_call ca_search_finder_decide) (by decide) (search_finder_decide_st SB47 er45) ?_
    rintro _ w46 ⟨rfl, S2⟩
    replace S : St A (N.done B18) w w46 [oF (some ⟨b44, 0, none⟩) a_0 r45.1, oDStep s27 s18.2.steps, oB b8 T_api_Errno [.int .i64 s18.1], oB b6 T_Found (Found.C (⟨s18.2.proved, s27, s18.2.visits⟩ : Found)), oB b4 T_Sq (Sq.C a1), oB b2 T_dictum_formula_has [.pointer a_0]] [oB c16 T_Bits (Bits.C a1.left), oTz] := back _ _ _ _ S2 rfl
    clear back S2 SB47
    refine wd (does_mv_t rfl) ?_
    refine wd (does_extract rfl rfl) ?_
    refine wd (does_extract rfl rfl) ?_
    refine wd (does_as_i rfl) ?_
    refine wd (does_as_i rfl) ?_
    refine wl_nil ?_
    refine wc_seq (wc_seq (wc_region ?_))
    refine wd (does_mv_i rfl) ?_
    refine wd (does_ne rfl rfl) ?_
    refine wl_nil ?_
    refine wc_if rfl (fun hc48 => ?_) (fun hc48 => ?_)
    · replace H := if_t hc48 H
      refine wc_seq (wc_region ?_)
      refine wd (does_load on_dictum_formula_has rfl ((S.blk 5).cell rfl)) ?_
      refine wd (does_mv_i rfl) ?_
      obtain ⟨p49, s51, m52, hp50, S⟩ := S.open_oF 0
      replace S : St A (N.done B18) w w46 [oB p49 T_Finder (Finder.C (⟨a_0, s51, (some m52), r45.1.left, r45.1.visits⟩ : Finder)), oT a_0 r45.1.t, oDStep s51 r45.1.steps, oMSq m52 r45.1.at_, oDStep s27 s18.2.steps, oB b8 T_api_Errno [.int .i64 s18.1], oB b6 T_Found (Found.C (⟨s18.2.proved, s27, s18.2.visits⟩ : Found)), oB b4 T_Sq (Sq.C a1), oB b2 T_dictum_formula_has [.pointer a_0]] [oB c16 T_Bits (Bits.C a1.left), oTz] := S
      obtain ⟨r53, er53, H⟩ := bind_ex H
      replace S : St A (N.done B18) w w46 [oT a_0 r45.1.t, oB p49 T_Finder (Finder.C (⟨a_0, s51, (some m52), r45.1.left, r45.1.visits⟩ : Finder)), oDStep s51 r45.1.steps, oMSq m52 r45.1.at_, oDStep s27 s18.2.steps, oB b8 T_api_Errno [.int .i64 s18.1], oB b6 T_Found (Found.C (⟨s18.2.proved, s27, s18.2.visits⟩ : Found)), oB b4 T_Sq (Sq.C a1), oB b2 T_dictum_formula_has [.pointer a_0]] [oB c16 T_Bits (Bits.C a1.left), oTz] := S.front 1
      obtain ⟨B55, MB55, SB55, back⟩ := S.calln 1 ((.nil))
      refine wl_call (does_call ca_formula_Table_Cut) (by decide) (formula_Table_Cut_st SB55 er53) ?_
      rintro _ w54 ⟨rfl, S2⟩
      replace S : St A (N.done B18) w w54 [oT a_0 r53.1, oB p49 T_Finder (Finder.C (⟨a_0, s51, (some m52), r45.1.left, r45.1.visits⟩ : Finder)), oDStep s51 r45.1.steps, oMSq m52 r45.1.at_, oDStep s27 s18.2.steps, oB b8 T_api_Errno [.int .i64 s18.1], oB b6 T_Found (Found.C (⟨s18.2.proved, s27, s18.2.visits⟩ : Found)), oB b4 T_Sq (Sq.C a1), oB b2 T_dictum_formula_has [.pointer a_0]] [oB c16 T_Bits (Bits.C a1.left), oTz] := back _ _ _ _ S2 rfl
      clear back S2 SB55
      replace S := S.front 3
      replace S := S.front 3
      replace S := S.front 2
      replace S := S.front 3
      replace S : St A (N.done B18) w w54 [oF (some ⟨b44, 0, none⟩) a_0 (⟨r53.1, r45.1.steps, r45.1.at_, r45.1.left, r45.1.visits⟩ : PFinder), oDStep s27 s18.2.steps, oB b8 T_api_Errno [.int .i64 s18.1], oB b6 T_Found (Found.C (⟨s18.2.proved, s27, s18.2.visits⟩ : Found)), oB b4 T_Sq (Sq.C a1), oB b2 T_dictum_formula_has [.pointer a_0]] [oB c16 T_Bits (Bits.C a1.left), oTz] := S.shut_oF hp50
      refine wl_nil ?_
      refine wc_seq (wc_region ?_)
      refine wd (Does.to (v' := .agg (Found.C (⟨false, SlV.nil, 0⟩ : Found)).toArray) (does_buildv (vs := []) bu_Found rfl Bld.nil) rfl) ?_
      refine wd (does_mv_i rfl) ?_
      refine wl_store_agg ag_Found rfl rfl (S.blk 3) (Found.len _) (by rw [Found.len]; decide) (Found.one _) (store_all (Found.len _)) fun w56 B hw56 zw56 => ?_
      replace S : St A (N.done B18) w w56 [oB b6 T_Found (Found.C (⟨false, SlV.nil, 0⟩ : Found)), oF (some ⟨b44, 0, none⟩) a_0 (⟨r53.1, r45.1.steps, r45.1.at_, r45.1.left, r45.1.visits⟩ : PFinder), oDStep s27 s18.2.steps, oB b8 T_api_Errno [.int .i64 s18.1], oB b4 T_Sq (Sq.C a1), oB b2 T_dictum_formula_has [.pointer a_0]] [oB c16 T_Bits (Bits.C a1.left), oTz] := S.store 3 B hw56
      clear B
      refine wl_store on_api_Errno rfl rfl (S.blk 3) (by simp) rfl rfl fun w57 B hw57 zw57 => ?_
      replace S : St A (N.done B18) w w57 [oB b8 T_api_Errno [.int .i64 r45.2.2], oB b6 T_Found (Found.C (⟨false, SlV.nil, 0⟩ : Found)), oF (some ⟨b44, 0, none⟩) a_0 (⟨r53.1, r45.1.steps, r45.1.at_, r45.1.left, r45.1.visits⟩ : PFinder), oDStep s27 s18.2.steps, oB b4 T_Sq (Sq.C a1), oB b2 T_dictum_formula_has [.pointer a_0]] [oB c16 T_Bits (Bits.C a1.left), oTz] := S.store 3 B hw57
      clear B
      refine wl_nil ?_
      refine wc_ret ?_
      obtain ⟨p58, s60, m61, hp59, S⟩ := S.open_oF 2
      replace S : St A (N.done B18) w w57 [oB p58 T_Finder (Finder.C (⟨a_0, s60, (some m61), r45.1.left, r45.1.visits⟩ : Finder)), oT a_0 r53.1, oDStep s60 r45.1.steps, oMSq m61 r45.1.at_, oB b8 T_api_Errno [.int .i64 r45.2.2], oB b6 T_Found (Found.C (⟨false, SlV.nil, 0⟩ : Found)), oDStep s27 s18.2.steps, oB b4 T_Sq (Sq.C a1), oB b2 T_dictum_formula_has [.pointer a_0]] [oB c16 T_Bits (Bits.C a1.left), oTz] := S
      refine end1 (.inl rfl) (S.take hB18).1 fun w62 hcw62 => ?_
      replace S : St A N w w62 [oB p58 T_Finder (Finder.C (⟨a_0, s60, (some m61), r45.1.left, r45.1.visits⟩ : Finder)), oT a_0 r53.1, oDStep s60 r45.1.steps, oMSq m61 r45.1.at_, oB b8 T_api_Errno [.int .i64 r45.2.2], oB b6 T_Found (Found.C (⟨false, SlV.nil, 0⟩ : Found)), oDStep s27 s18.2.steps, oB b4 T_Sq (Sq.C a1), oB b2 T_dictum_formula_has [.pointer a_0]] [oB c16 T_Bits (Bits.C a1.left), oTz] := (S.take hB18).2 _ hcw62
      replace S : St A N w w62 [oDStep SlV.nil ([] : List PStep), oB p58 T_Finder (Finder.C (⟨a_0, s60, (some m61), r45.1.left, r45.1.visits⟩ : Finder)), oT a_0 r53.1, oDStep s60 r45.1.steps, oMSq m61 r45.1.at_, oB b8 T_api_Errno [.int .i64 r45.2.2], oB b6 T_Found (Found.C (⟨false, SlV.nil, 0⟩ : Found)), oDStep s27 s18.2.steps, oB b4 T_Sq (Sq.C a1), oB b2 T_dictum_formula_has [.pointer a_0]] [oB c16 T_Bits (Bits.C a1.left), oTz] := S.nilD T_Step 21 Step.C rStep
      refine ⟨_, (rets2 (retOne_agg ag_Found rfl ((S.blk 6).all _ (Found.len _)) (Found.len _)) (retOne_one on_api_Errno rfl ((S.blk 5).cell rfl))), ?_⟩
      replace S : St A N w w62 [oT a_0 r53.1, oDStep SlV.nil ([] : List PStep)] [] := S.arr [2, 0] []
      obtain rfl := Option.some.inj H
      exact ⟨SlV.nil, rfl, S⟩
    replace H := if_f hc48 H
    refine wc_skip ?_
    refine wc_seq ?_
    obtain ⟨p63, s65, m66, hp64, S⟩ := S.open_oF 0
    replace S : St A (N.done B18) w w46 [oB p63 T_Finder (Finder.C (⟨a_0, s65, (some m66), r45.1.left, r45.1.visits⟩ : Finder)), oT a_0 r45.1.t, oDStep s65 r45.1.steps, oMSq m66 r45.1.at_, oDStep s27 s18.2.steps, oB b8 T_api_Errno [.int .i64 s18.1], oB b6 T_Found (Found.C (⟨s18.2.proved, s27, s18.2.visits⟩ : Found)), oB b4 T_Sq (Sq.C a1), oB b2 T_dictum_formula_has [.pointer a_0]] [oB c16 T_Bits (Bits.C a1.left), oTz] := S
    refine wc_quiet 16 (Ext w46) hmix (by kernel_rfl) (by kernel_rfl) (Ext.drawn _) ?_
    refine wq_does (fun v K => does_mv_p rfl) ?_
    refine wq_does (fun v K => does_nilCheck (congrArg Value.pointer hp64)) ?_
    refine wq_does (fun v K => does_fieldAddr fl_Finder_steps rfl (o' := 1) rfl) ?_
    refine wq_does (fun v K => does_load on_L_api_Step rfl (((S.ext K).blk 0).cell (Finder.get_steps _))) ?_
    refine wq_does (fun v K => does_mv_i rfl) ?_
    obtain ⟨hi67, H⟩ := chk_ex H
    refine wq_does (fun v K => does_indexD sl_L_api_Step rfl rfl ((S.ext K).onO 2) (inb_ex hi67).1 (inb_ex hi67).2) ?_
    refine wq_does (fun v K => does_fieldAddr fl_Step_proved rfl (o' := _) rfl) ?_
    refine wq_does (fun v K => does_load on_bool rfl (oD.cell (z := PStep.z) ((S.ext K).onO 2) (inb_ex hi67) (fun _ => rStep.get_proved))) ?_
    refine wq_does (fun v K => does_mv_p rfl) ?_
    refine wq_does (fun v K => does_nilCheck (congrArg Value.pointer hp64)) ?_
    refine wq_does (fun v K => does_fieldAddr fl_Finder_steps rfl (o' := 1) rfl) ?_
    refine wq_does (fun v K => does_load on_L_api_Step rfl (((S.ext K).blk 0).cell (Finder.get_steps _))) ?_
    refine wq_does (fun v K => does_mv_p rfl) ?_
    refine wq_does (fun v K => does_nilCheck (congrArg Value.pointer hp64)) ?_
    refine wq_does (fun v K => does_fieldAddr fl_Finder_visits rfl (o' := 4) rfl) ?_
    refine wq_does (fun v K => does_load on_int rfl (((S.ext K).blk 0).cell (Finder.get_visits _))) ?_
    refine wq_nil fun w68 K => ?_
    replace S := S.ext K
    clear K
    refine wd (Does.to (v' := .agg (Found.C (⟨(at_ PStep.z r45.1.steps r45.2.1).proved, s65, r45.1.visits⟩ : Found)).toArray) (does_buildv (vs := [(0, .bool ((at_ PStep.z r45.1.steps r45.2.1).proved)), (1, s65.v), (2, .int .i64 r45.1.visits)]) bu_Found (consP rfl (consP rfl (consP rfl rfl))) (Bld.one rfl rfl (by rw [Found.len]; decide) (Found.set_proved _ _) (Bld.one rfl (SlV.one _ _ rfl) (by rw [Found.len]; decide) (Found.set_steps _ _) (Bld.one rfl rfl (by rw [Found.len]; decide) (Found.set_visits _ _) Bld.nil)))) rfl) ?_
    refine wl_store_agg ag_Found rfl rfl (S.blk 6) (Found.len _) (by rw [Found.len]; decide) (Found.one _) (store_all (Found.len _)) fun w69 B hw69 zw69 => ?_
    replace S : St A (N.done B18) w w69 [oB b6 T_Found (Found.C (⟨(at_ PStep.z r45.1.steps r45.2.1).proved, s65, r45.1.visits⟩ : Found)), oB p63 T_Finder (Finder.C (⟨a_0, s65, (some m66), r45.1.left, r45.1.visits⟩ : Finder)), oT a_0 r45.1.t, oDStep s65 r45.1.steps, oMSq m66 r45.1.at_, oDStep s27 s18.2.steps, oB b8 T_api_Errno [.int .i64 s18.1], oB b4 T_Sq (Sq.C a1), oB b2 T_dictum_formula_has [.pointer a_0]] [oB c16 T_Bits (Bits.C a1.left), oTz] := S.store 6 B hw69
    clear B
    refine wl_store on_api_Errno rfl rfl (S.blk 6) (by simp) rfl rfl fun w70 B hw70 zw70 => ?_
    replace S : St A (N.done B18) w w70 [oB b8 T_api_Errno [.int .i64 0], oB b6 T_Found (Found.C (⟨(at_ PStep.z r45.1.steps r45.2.1).proved, s65, r45.1.visits⟩ : Found)), oB p63 T_Finder (Finder.C (⟨a_0, s65, (some m66), r45.1.left, r45.1.visits⟩ : Finder)), oT a_0 r45.1.t, oDStep s65 r45.1.steps, oMSq m66 r45.1.at_, oDStep s27 s18.2.steps, oB b4 T_Sq (Sq.C a1), oB b2 T_dictum_formula_has [.pointer a_0]] [oB c16 T_Bits (Bits.C a1.left), oTz] := S.store 6 B hw70
    clear B
    refine wl_nil ?_
    refine wc_ret ?_
    refine end1 (.inl rfl) (S.take hB18).1 fun w71 hcw71 => ?_
    replace S : St A N w w71 [oB b8 T_api_Errno [.int .i64 0], oB b6 T_Found (Found.C (⟨(at_ PStep.z r45.1.steps r45.2.1).proved, s65, r45.1.visits⟩ : Found)), oB p63 T_Finder (Finder.C (⟨a_0, s65, (some m66), r45.1.left, r45.1.visits⟩ : Finder)), oT a_0 r45.1.t, oDStep s65 r45.1.steps, oMSq m66 r45.1.at_, oDStep s27 s18.2.steps, oB b4 T_Sq (Sq.C a1), oB b2 T_dictum_formula_has [.pointer a_0]] [oB c16 T_Bits (Bits.C a1.left), oTz] := (S.take hB18).2 _ hcw71
    refine ⟨_, (rets2 (retOne_agg ag_Found rfl ((S.blk 1).all _ (Found.len _)) (Found.len _)) (retOne_one on_api_Errno rfl ((S.blk 0).cell rfl))), ?_⟩
    replace S : St A N w w71 [oT a_0 r45.1.t, oDStep s65 r45.1.steps] [] := S.arr [3, 4] []
    obtain rfl := Option.some.inj H
    exact ⟨s65, rfl, S⟩
  · rintro s18 s73 B18 w72 rfl S hB18
    replace S : St A (N.done B18) w w72 [oDStep s73 s18.2.steps, oB b8 T_api_Errno [.int .i64 s18.1], oB b6 T_Found (Found.C (⟨s18.2.proved, s73, s18.2.visits⟩ : Found)), oB b4 T_Sq (Sq.C a1), oB b2 T_dictum_formula_has [.pointer a_0], oT a_0 a0] [oB c16 T_Bits (Bits.C a1.left), oTz] := S
    have H := Ho18
    dsimp only [fin] at H
    refine end1 (.inl rfl) (S.take hB18).1 fun w74 hcw74 => ?_
    replace S : St A N w w74 [oDStep s73 s18.2.steps, oB b8 T_api_Errno [.int .i64 s18.1], oB b6 T_Found (Found.C (⟨s18.2.proved, s73, s18.2.visits⟩ : Found)), oB b4 T_Sq (Sq.C a1), oB b2 T_dictum_formula_has [.pointer a_0], oT a_0 a0] [oB c16 T_Bits (Bits.C a1.left), oTz] := (S.take hB18).2 _ hcw74
    refine ⟨_, (rets2 (retOne_agg ag_Found rfl ((S.blk 2).all _ (Found.len _)) (Found.len _)) (retOne_one on_api_Errno rfl ((S.blk 1).cell rfl))), ?_⟩
    replace S : St A N w w74 [oT a_0 a0, oDStep s73 s18.2.steps] [] := S.arr [5, 0] []
    obtain rfl := Option.some.inj H
    exact ⟨s73, rfl, S⟩
  · intro h; cases h
end Go.Proofs.YtjjkhjieegmphaaDoor
end
section
namespace Go.Proofs.YtjjkhjieegmphaaDoor
open Gw Go.RowKit
theorem formula_From_st {A : Nat → Prop} {N : Oth} {w : World} {a0 : List Nd} {s_0 : SlV} (S : St A N w w [] [fS 4 Nd.C s_0 a0]) {r : Tb × Int} (H : formula_From.f a0 = some r) :
    Calls PP F_formula_From #[s_0.v] w fun e w' => ∃ v, e = .returned v ∧ (∃ ao0 : Option Addr, v = .tuple #[.pointer ao0, .int .i64 r.2] ∧ St A N w w' [oT ao0 r.1] []) := by
  unfold formula_From.f at H
  refine calls_of_wc (n := 35) fn_formula_From rfl rfl (by simp) ?_
  refine wc_seq (wc_region ?_)
  replace S : St A N w w [oT none none] [fS 4 Nd.C s_0 a0] := S.add (Ext.refl _) (oT.nil _) (fun _ x => x.elim)
  refine wd (does_as_p rfl) ?_
  refine wd (does_as_i rfl) ?_
  refine wl_nil ?_
  refine wc_seq (wc_region ?_)
  obtain ⟨r1, er1, H⟩ := bind_ex H
  obtain ⟨B3, MB3, SB3, back⟩ := S.calln 0 ((.nil))
  refine wl_call (does_call ca_formula_New) (by decide) (formula_New_st SB3 er1) ?_
  rintro _ w2 ⟨a4, rfl, S2⟩
  replace S : St A N w w2 [oT a4 r1, oT none none] [fS 4 Nd.C s_0 a0] := back _ _ _ _ S2 rfl
  clear back S2 SB3
  refine wd (does_as_p rfl) ?_
  refine wl_nil ?_
  refine wc_seq (wc_seq (wc_region ?_))
  refine wd (does_mv_l rfl) ?_
  refine wd (does_lenR sl_L_api_Node rfl (S.rd 0)) ?_
  refine wd (does_mv_i rfl) ?_
  refine wl_nil ?_
  obtain ⟨o5, e5, Ho5⟩ := bind_ex H
  clear H
  refine wc_cutq [2, 3, 5, 6, 7, 8, 12, 13, 14, 15, 16, 17, 18, 19, 20, 21, 22, 23, 24, 25, 26, 27, 28, 29, 30, 31, 32, 33] (fun fr W => ∃ s5 : Tb, o5 = .inl s5 ∧ St A N w W [oT a4 s5, oT none none] [fS 4 Nd.C s_0 a0]) ?_ ?_
  · refine wc_block ?_
    refine wc_loopm (α := Nat × Int × Tb) [2, 3, 5, 6, 7, 8, 12, 13, 14, 15, 16, 17, 18, 19, 20, 21, 22, 23, 24, 25, 26, 27, 28, 29, 30, 31, 32, 33] (fun x fr W => (x.1 : Int) = (a0.length : Int) - x.2.1 ∧ 0 ≤ x.2.1 ∧ forN (fun i s => formula_From.b0 a0 i s) x.1 x.2.1 x.2.2 = some o5 ∧ fr 12 = .int .i64 x.2.1 ∧ St A N w W [oT a4 (x.2.2), oT none none] [fS 4 Nd.C s_0 a0]) (fun x => x.1) (((a0.length : Int) - 0).toNat, 0, r1) ⟨(by dsimp only; have hle := Int.natCast_nonneg (a0.length); omega), (Int.le_refl _), (by dsimp only; exact e5), rfl, S⟩ ?_
    rintro ⟨m5, i5, x5_0⟩ g5 u5 ⟨hm5, hl5, e5, q5_i, S⟩
    try dsimp only at hm5
    try dsimp only at hl5
    try dsimp only at e5
    try dsimp only at S
    try dsimp only at q5_i
    refine wc_seq (wc_region ?_)
    refine wd (does_lt q5_i rfl) ?_
    refine wl_nil ?_
    refine wc_seq ?_
    refine wc_if rfl (fun hc6 => ?_) (fun hc6 => ?_)
    rotate_left
    · refine wc_exit ?_
      have hge : (a0.length : Int) ≤ i5 := Int.not_lt.1 (of_decide_eq_false hc6)
      obtain rfl : m5 = 0 := by omega
      replace e5 := forN_0 e5
      exact ⟨rfl, ((Dif.self _ _ _).upd rfl _), x5_0, e5, S⟩
    refine wc_skip ?_
    have hlt5 : i5 < (a0.length : Int) := of_decide_eq_true hc6
    obtain ⟨m5, rfl⟩ : ∃ m, m5 = m + 1 := ⟨m5 - 1, by omega⟩
    obtain ⟨q5, H, e5⟩ := forN_s e5
    unfold formula_From.b0 at H
    try dsimp only at H
    have hb5 := (S.len 0)
    refine wc_seq ?_
    refine wc_block ?_
    refine wc_seq (wc_region ?_)
    refine wd (does_mv_i q5_i) ?_
    refine wd (does_indexR sl_L_api_Node rfl q5_i (S.rd 0) (And.intro (show 0 ≤ i5 by omega) (show i5 < (a0.length : Int) from hlt5)).1 (And.intro (show 0 ≤ i5 by omega) (show i5 < (a0.length : Int) from hlt5)).2) ?_
    refine wd (does_load_agg ag_Nd rfl ((S.rd 0).at (at_some Nd.z (And.intro (show 0 ≤ i5 by omega) (show i5 < (a0.length : Int) from hlt5)))) (Nd.len _)) ?_
    refine wl_alloc ze_Nd (by decide) fun b9 w8 hw8 => ?_
    replace S : St A N w w8 [oB b9 T_Nd (Nd.C Nd.z), oT a4 x5_0, oT none none] [fS 4 Nd.C s_0 a0] := S.new hw8
    refine wd (does_as_i rfl) ?_
    refine wl_store_agg ag_Nd rfl rfl (S.blk 0) (Nd.len _) (by rw [Nd.len]; decide) (Nd.one _) (store_all (Nd.len _)) fun w10 B hw10 zw10 => ?_
    replace S : St A N w w10 [oB b9 T_Nd (Nd.C (at_ Nd.z a0 i5)), oT a4 x5_0, oT none none] [fS 4 Nd.C s_0 a0] := S.store 0 B hw10
    clear B
    refine wl_nil ?_
    refine wc_seq (wc_region ?_)
    refine wd (does_mv_p rfl) ?_
    refine wd (does_load_agg ag_Nd rfl ((S.blk 0).all _ (Nd.len _)) (Nd.len _)) ?_
    obtain ⟨r11, er11, H⟩ := bind_ex H
    replace S : St A N w w10 [oT a4 x5_0, oB b9 T_Nd (Nd.C (at_ Nd.z a0 i5)), oT none none] [fS 4 Nd.C s_0 a0] := S.front 1
    obtain ⟨B13, MB13, SB13, back⟩ := S.calln 1 ((.nil))
    refine wl_call (does_call ca_formula_Table_Put) (by decide) (formula_Table_Put_st SB13 er11) ?_
    rintro _ w12 ⟨rfl, S2⟩
    replace S : St A N w w12 [oT a4 r11.1, oB b9 T_Nd (Nd.C (at_ Nd.z a0 i5)), oT none none] [fS 4 Nd.C s_0 a0] := back _ _ _ _ S2 rfl
    clear back S2 SB13
    refine wd (does_mv_t rfl) ?_
    refine wd (does_extract rfl rfl) ?_
    refine wd (does_extract rfl rfl) ?_
    refine wd (does_as_i rfl) ?_
    refine wd (does_as_i rfl) ?_
    refine wl_nil ?_
    refine wc_seq (wc_seq (wc_region ?_))
    refine wd (does_mv_i rfl) ?_
    refine wd (does_eq rfl rfl) ?_
    refine wd (does_mv_b rfl) ?_
    refine wl_guard (j := 2) (pol := true) rfl rfl rfl (by decide) (fun hg => does_mv_i rfl) (by decide) ?_
    refine wl_guard (j := 2) (pol := true) rfl rfl rfl (by decide) (fun hg => does_mv_i rfl) (by decide) ?_
    refine wl_guard (j := 2) (pol := true) rfl rfl rfl (by decide) (fun hg => does_ne (gv_yes hg) (gv_yes hg)) (by decide) ?_
    refine wd (does_and rfl (fun hp => (gv_yes (and_1 hp)))) ?_
    refine wl_nil ?_
    refine wc_if rfl (fun hc14 => ?_) (fun hc14 => ?_)
    · replace H := if_t hc14 H
      refine wc_region ?_
      refine wd (does_as_i rfl) ?_
      refine wl_nil ?_
      refine wc_seq (wc_region ?_)
      refine wd (does_mv_i rfl) ?_
      refine wd (does_ne rfl rfl) ?_
      refine wl_nil ?_
      refine wc_if rfl (fun hc15 => ?_) (fun hc15 => ?_)
      · replace H := if_t hc15 H
        refine wc_seq (wc_region ?_)
        refine wd (does_mv_i rfl) ?_
        replace S : St A N w w12 [oT none none, oT a4 r11.1, oB b9 T_Nd (Nd.C (at_ Nd.z a0 i5)), oT none none] [fS 4 Nd.C s_0 a0] := S.add (Ext.refl _) (oT.nil _) (fun _ x => x.elim)
        refine wd (does_as_p rfl) ?_
        refine wd (does_as_i rfl) ?_
        refine wl_nil ?_
        refine wc_ret ?_
        refine ⟨_, (rets2 (retOne_tmp rfl) (retOne_tmp rfl)), ?_⟩
        replace S : St A N w w12 [oT none none] [] := S.arr [0] []
        obtain rfl := Option.some.inj H
        obtain rfl := e5
        obtain rfl := aft_r Ho5
        exact ⟨none, rfl, S⟩
      replace H := if_f hc15 H
      refine wc_skip ?_
      refine wc_region ?_
      refine wd (does_addc q5_i rfl (c := i5 + 1) rfl (by omega) (by omega)) ?_
      refine wd (does_mv_i rfl) ?_
      refine wl_nil ?_
      replace S : St A N w w12 [oT a4 r11.1, oT none none] [fS 4 Nd.C s_0 a0] := S.arr [0, 2] [0]
      obtain rfl := Option.some.inj H
      exact ⟨rfl, (((((((((((((((((((((((((((Dif.self _ _ _).upd rfl _).upd rfl _).upd rfl _).upd rfl _).upd rfl _).upd rfl _).upd rfl _).upd rfl _).upd rfl _).upd rfl _).upd rfl _).upd rfl _).upd rfl _).upd rfl _).upd rfl _).upd rfl _).upd rfl _).upd rfl _).upd rfl _).upd rfl _).upd rfl _).upd rfl _).upd rfl _).upd rfl _).upd rfl _).upd rfl _), (m5, i5 + 1, r11.1), ⟨(by dsimp only; omega), (by dsimp only; omega), e5, rfl, S⟩, by dsimp only; omega⟩
    · replace H := if_f hc14 H
      refine wc_skip ?_
      refine wc_seq (wc_region ?_)
      refine wd (does_mv_i rfl) ?_
      refine wd (does_ne rfl rfl) ?_
      refine wl_nil ?_
      refine wc_if rfl (fun hc16 => ?_) (fun hc16 => ?_)
      · replace H := if_t hc16 H
        refine wc_seq (wc_region ?_)
        refine wd (does_mv_i rfl) ?_
        replace S : St A N w w12 [oT none none, oT a4 r11.1, oB b9 T_Nd (Nd.C (at_ Nd.z a0 i5)), oT none none] [fS 4 Nd.C s_0 a0] := S.add (Ext.refl _) (oT.nil _) (fun _ x => x.elim)
        refine wd (does_as_p rfl) ?_
        refine wd (does_as_i rfl) ?_
        refine wl_nil ?_
        refine wc_ret ?_
        refine ⟨_, (rets2 (retOne_tmp rfl) (retOne_tmp rfl)), ?_⟩
        replace S : St A N w w12 [oT none none] [] := S.arr [0] []
        obtain rfl := Option.some.inj H
        obtain rfl := e5
        obtain rfl := aft_r Ho5
        exact ⟨none, rfl, S⟩
      replace H := if_f hc16 H
      refine wc_skip ?_
      refine wc_region ?_
      refine wd (does_addc q5_i rfl (c := i5 + 1) rfl (by omega) (by omega)) ?_
      refine wd (does_mv_i rfl) ?_
      refine wl_nil ?_
      replace S : St A N w w12 [oT a4 r11.1, oT none none] [fS 4 Nd.C s_0 a0] := S.arr [0, 2] [0]
      obtain rfl := Option.some.inj H
      exact ⟨rfl, ((((((((((((((((((((((((((Dif.self _ _ _).upd rfl _).upd rfl _).upd rfl _).upd rfl _).upd rfl _).upd rfl _).upd rfl _).upd rfl _).upd rfl _).upd rfl _).upd rfl _).upd rfl _).upd rfl _).upd rfl _).upd rfl _).upd rfl _).upd rfl _).upd rfl _).upd rfl _).upd rfl _).upd rfl _).upd rfl _).upd rfl _).upd rfl _).upd rfl _), (m5, i5 + 1, r11.1), ⟨(by dsimp only; omega), (by dsimp only; omega), e5, rfl, S⟩, by dsimp only; omega⟩
  rintro g17 u18 ⟨s5, rfl, S⟩
  have H := Ho5
  dsimp only [aft] at H
  refine wc_seq (wc_region ?_)
  refine wd (does_mv_p rfl) ?_
  refine wd (does_as_p rfl) ?_
  refine wd (does_as_i rfl) ?_
  refine wl_nil ?_
  refine wc_ret ?_
  refine ⟨_, (rets2 (retOne_tmp rfl) (retOne_tmp rfl)), ?_⟩
  replace S : St A N w u18 [oT a4 s5] [] := S.arr [0] []
  obtain rfl := Option.some.inj H
  exact ⟨a4, rfl, S⟩
end Go.Proofs.YtjjkhjieegmphaaDoor
end
section
namespace Go.Proofs.YtjjkhjieegmphaaDoor
open Gw Go.RowKit
theorem ref03_Ints_st {A : Nat → Prop} {N : Oth} {w : World} {a0 : List Int} {s_0 : SlV} {a1 : List Int} {s_1 : SlV} (S : St A N w w [] [fS 1 IC s_0 a0, fS 1 IC s_1 a1]) {r : Bool} (H : ref03_Ints.f a0 a1 = some r) :
    Calls PP F_ref03_Ints #[s_0.v, s_1.v] w fun e w' => ∃ v, e = .returned v ∧ (v = .bool r ∧ St A N w w' [] []) := by
  unfold ref03_Ints.f at H
  refine calls_of_wc (n := 26) fn_ref03_Ints rfl rfl (by simp) ?_
  refine wc_seq (wc_region ?_)
  refine wd (does_as_b rfl) ?_
  refine wl_nil ?_
  refine wc_seq (wc_seq (wc_region ?_))
  refine wd (does_mv_l rfl) ?_
  refine wd (does_lenR sl_L_int rfl (S.rd 0)) ?_
  refine wd (does_mv_l rfl) ?_
  refine wd (does_lenR sl_L_int rfl (S.rd 1)) ?_
  refine wd (does_ne rfl rfl) ?_
  refine wl_nil ?_
  refine wc_if rfl (fun hc1 => ?_) (fun hc1 => ?_)
  · replace H := if_t hc1 H
    refine wc_seq (wc_region ?_)
    refine wd (does_as_b rfl) ?_
    refine wl_nil ?_
    refine wc_ret ?_
    refine ⟨_, (rets1 (retOne_tmp rfl)), ?_⟩
    replace S : St A N w w [] [] := S.arr [] []
    obtain rfl := Option.some.inj H
    exact ⟨rfl, S⟩
  replace H := if_f hc1 H
  refine wc_skip ?_
  refine wc_seq (wc_seq (wc_region ?_))
  refine wd (does_as_i rfl) ?_
  refine wl_nil ?_
  obtain ⟨o2, e2, Ho2⟩ := bind_ex H
  clear H
  refine wc_cutq [4, 5, 11, 12, 13, 14, 15, 16, 17, 18, 19, 20, 21, 22, 23, 24, 25] (fun fr W => ∃ s2 : Unit, o2 = .inl s2 ∧ St A N w W [] [fS 1 IC s_0 a0, fS 1 IC s_1 a1]) ?_ ?_
  · refine wc_block ?_
    refine wc_loopm (α := Nat × Int × Unit) [4, 5, 11, 12, 13, 14, 15, 16, 17, 18, 19, 20, 21, 22, 23, 24, 25] (fun x fr W => (x.1 : Int) = (a0.length : Int) - x.2.1 ∧ 0 ≤ x.2.1 ∧ forN (fun i s => ref03_Ints.b0 a1 a0 i) x.1 x.2.1 x.2.2 = some o2 ∧ fr 5 = .int .i64 x.2.1 ∧ St A N w W [] [fS 1 IC s_0 a0, fS 1 IC s_1 a1]) (fun x => x.1) (((a0.length : Int) - 0).toNat, 0, ()) ⟨(by dsimp only; have hle := Int.natCast_nonneg (a0.length); omega), (Int.le_refl _), (by dsimp only; exact e2), rfl, S⟩ ?_
    rintro ⟨m2, i2, _⟩ g2 u2 ⟨hm2, hl2, e2, q2_i, S⟩
    try dsimp only at hm2
    try dsimp only at hl2
    try dsimp only at e2
    try dsimp only at S
    try dsimp only at q2_i
    refine wc_seq (wc_seq (wc_region ?_))
    refine wd (does_mv_i q2_i) ?_
    refine wd (does_mv_l rfl) ?_
    refine wd (does_lenR sl_L_int rfl (S.rd 0)) ?_
    refine wd (does_lt rfl rfl) ?_
    refine wl_nil ?_
    refine wc_if rfl (fun hc3 => ?_) (fun hc3 => ?_)
    rotate_left
    · refine wc_exit ?_
      have hge : (a0.length : Int) ≤ i2 := Int.not_lt.1 (of_decide_eq_false hc3)
      obtain rfl : m2 = 0 := by omega
      replace e2 := forN_0 e2
      exact ⟨rfl, (((((Dif.self _ _ _).upd rfl _).upd rfl _).upd rfl _).upd rfl _), (), e2, S⟩
    refine wc_skip ?_
    have hlt2 : i2 < (a0.length : Int) := of_decide_eq_true hc3
    obtain ⟨m2, rfl⟩ : ∃ m, m2 = m + 1 := ⟨m2 - 1, by omega⟩
    obtain ⟨q2, H, e2⟩ := forN_s e2
    unfold ref03_Ints.b0 at H
    try dsimp only at H
    have hb2 := (S.len 0)
    refine wc_seq ?_
    refine wc_block ?_
    refine wc_seq ?_
    refine wc_quiet 8 (Ext u2) hmix (by kernel_rfl) (by kernel_rfl) (Ext.drawn _) ?_
    refine wq_does (fun v K => does_mv_l rfl) ?_
    refine wq_does (fun v K => does_mv_i q2_i) ?_
    refine wq_does (fun v K => does_indexR sl_L_int rfl rfl ((S.ext K).rd 0) (And.intro (show 0 ≤ i2 by omega) (show i2 < (a0.length : Int) from hlt2)).1 (And.intro (show 0 ≤ i2 by omega) (show i2 < (a0.length : Int) from hlt2)).2) ?_
    refine wq_does (fun v K => does_load on_int rfl (((S.ext K).rd 0).one (at_some (0 : Int) (And.intro (show 0 ≤ i2 by omega) (show i2 < (a0.length : Int) from hlt2))) rfl)) ?_
    refine wq_does (fun v K => does_mv_l rfl) ?_
    refine wq_does (fun v K => does_mv_i q2_i) ?_
    obtain ⟨hi5, H⟩ := chk_ex H
    refine wq_does (fun v K => does_indexR sl_L_int rfl rfl ((S.ext K).rd 1) (inb_ex hi5).1 (inb_ex hi5).2) ?_
    refine wq_does (fun v K => does_load on_int rfl (((S.ext K).rd 1).one (at_some (0 : Int) (inb_ex hi5)) rfl)) ?_
    refine wq_nil fun w6 K => ?_
    replace S := S.ext K
    clear K
    refine wd (does_ne rfl rfl) ?_
    refine wl_nil ?_
    refine wc_if rfl (fun hc7 => ?_) (fun hc7 => ?_)
    · replace H := if_t hc7 H
      refine wc_seq (wc_region ?_)
      refine wd (does_as_b rfl) ?_
      refine wl_nil ?_
      refine wc_ret ?_
      refine ⟨_, (rets1 (retOne_tmp rfl)), ?_⟩
      replace S : St A N w w6 [] [] := S.arr [] []
      obtain rfl := Option.some.inj H
      obtain rfl := e2
      obtain rfl := aft_r Ho2
      exact ⟨rfl, S⟩
    replace H := if_f hc7 H
    refine wc_skip ?_
    refine wc_region ?_
    refine wd (does_mv_i q2_i) ?_
    refine wd (does_addc rfl rfl (c := i2 + 1) rfl (by omega) (by omega)) ?_
    refine wd (does_as_i rfl) ?_
    refine wl_nil ?_
    obtain rfl := Option.some.inj H
    exact ⟨rfl, (((((((((((((((((Dif.self _ _ _).upd rfl _).upd rfl _).upd rfl _).upd rfl _).upd rfl _).upd rfl _).upd rfl _).upd rfl _).upd rfl _).upd rfl _).upd rfl _).upd rfl _).upd rfl _).upd rfl _).upd rfl _).upd rfl _), (m2, i2 + 1, ()), ⟨(by dsimp only; omega), (by dsimp only; omega), e2, rfl, S⟩, by dsimp only; omega⟩
  rintro g8 u9 ⟨s2, rfl, S⟩
  have H := Ho2
  dsimp only [aft] at H
  refine wc_seq (wc_region ?_)
  refine wd (does_as_b rfl) ?_
  refine wl_nil ?_
  refine wc_ret ?_
  refine ⟨_, (rets1 (retOne_tmp rfl)), ?_⟩
  replace S : St A N w u9 [] [] := S.arr [] []
  obtain rfl := Option.some.inj H
  exact ⟨rfl, S⟩
theorem ref03_T_Has_st {A : Nat → Prop} {N : Oth} {w : World} {a0 : Tb} {a_0 : Option Addr} {a1 : Int} (S : St A N w w [] [oR a_0 a0]) {r : Bool} (H : ref03_T_Has.f a0 a1 = some r) :
    Calls PP F_ref03_T_Has #[.pointer a_0, .int .i64 a1] w fun e w' => ∃ v, e = .returned v ∧ (v = .bool r ∧ St A N w w' [] []) := by
  unfold ref03_T_Has.f at H
  refine calls_of_wc (n := 16) fn_ref03_T_Has rfl rfl (by simp) ?_
  refine wc_seq (wc_region ?_)
  refine wd (does_as_b rfl) ?_
  refine wl_nil ?_
  refine wc_seq (wc_region ?_)
  refine wd (does_mv_i rfl) ?_
  refine wd (does_ge rfl rfl) ?_
  refine wd (does_mv_b rfl) ?_
  refine wl_guard (j := 2) (pol := true) rfl rfl rfl (by decide) (fun hg => does_mv_i rfl) (by decide) ?_
  refine wl_guard (j := 2) (pol := true) rfl rfl rfl (by decide) (fun hg => does_mv_p rfl) (by decide) ?_
  obtain ⟨ht1, H⟩ := chk_ex H
  obtain ⟨p2, s3, hp4, S⟩ := S.seeR 0 ht1
  replace S : St A N w w [] [oB p2 T_RTab (RTab.C ⟨s3⟩), fS 4 Nd.C s3 (a0.getD []), oR a_0 a0] := S
  refine wl_guard (j := 2) (pol := true) rfl rfl rfl (by decide) (fun hg => does_nilCheck (((gv_yes hg) : _ = Value.pointer a_0).trans (congrArg Value.pointer hp4))) (by decide) ?_
  refine wl_guard (j := 2) (pol := true) rfl rfl rfl (by decide) (fun hg => does_fieldAddr fl_RTab_n (gv_yes hg) (o' := 0) rfl) (by decide) ?_
  refine wl_guard (j := 2) (pol := true) rfl rfl rfl (by decide) (fun hg => does_load on_L_api_Node (gv_yes hg) ((S.blkZ 0).cell (RTab.get_n _))) (by decide) ?_
  refine wl_guard (j := 2) (pol := true) rfl rfl rfl (by decide) (fun hg => does_lenR sl_L_api_Node (gv_yes hg) (S.rd 1)) (by decide) ?_
  refine wl_guard (j := 2) (pol := true) rfl rfl rfl (by decide) (fun hg => does_lt (gv_yes hg) (gv_yes hg)) (by decide) ?_
  refine wd (does_and rfl (fun hp => (gv_yes (and_1 hp)))) ?_
  refine wd (does_as_b rfl) ?_
  replace S : St A N w w [] [oR a_0 a0] := S.zs [2]
  refine wl_nil ?_
  refine wc_ret ?_
  refine ⟨_, (rets1 (retOne_tmp rfl)), ?_⟩
  replace S : St A N w w [] [] := S.arr [] []
  obtain rfl := Option.some.inj H
  exact ⟨rfl, S⟩
theorem ref03_T_Find_st {A : Nat → Prop} {N : Oth} {w : World} {a0 : Tb} {a_0 : Option Addr} {a1 : Nd} (S : St A N w w [] [oR a_0 a0]) {r : Int × Bool} (H : ref03_T_Find.f a0 a1 = some r) :
    Calls PP F_ref03_T_Find #[.pointer a_0, .agg (Nd.C a1).toArray] w fun e w' => ∃ v, e = .returned v ∧ (v = .tuple #[.int .i64 r.1, .bool r.2] ∧ St A N w w' [] []) := by
  unfold ref03_T_Find.f at H
  refine calls_of_wc (n := 26) fn_ref03_T_Find rfl rfl (by simp) ?_
  refine wc_seq (wc_region ?_)
  refine wl_box_agg rfl (by decide) fun b2 w1 hw1 => ?_
  replace S : St A N w w1 [oB b2 T_Nd (Nd.C a1)] [oR a_0 a0] := S.new hw1
  refine wd (does_as_i rfl) ?_
  refine wd (does_as_b rfl) ?_
  refine wl_nil ?_
  refine wc_seq (wc_seq (wc_region ?_))
  refine wd (does_as_i rfl) ?_
  refine wl_nil ?_
  obtain ⟨ht3, H⟩ := chk_ex H
  obtain ⟨o4, e4, Ho4⟩ := bind_ex H
  clear H
  refine wc_cutq [4, 5, 6, 7, 8, 9, 10, 11, 12, 13, 14, 15, 16, 17, 18, 19, 20, 21, 22, 23, 24, 25] (fun fr W => ∃ s4 : Unit, o4 = .inl s4 ∧ St A N w W [oB b2 T_Nd (Nd.C a1)] [oR a_0 a0]) ?_ ?_
  · refine wc_block ?_
    refine wc_loopm (α := Nat × Int × Unit) [4, 5, 6, 7, 8, 9, 10, 11, 12, 13, 14, 15, 16, 17, 18, 19, 20, 21, 22, 23, 24, 25] (fun x fr W => (x.1 : Int) = ((a0.getD []).length : Int) - x.2.1 ∧ 0 ≤ x.2.1 ∧ forN (fun i s => ref03_T_Find.b0 a0 a1 i) x.1 x.2.1 x.2.2 = some o4 ∧ fr 6 = .int .i64 x.2.1 ∧ St A N w W [oB b2 T_Nd (Nd.C a1)] [oR a_0 a0]) (fun x => x.1) ((((a0.getD []).length : Int) - 0).toNat, 0, ()) ⟨(by dsimp only; have hle := Int.natCast_nonneg ((a0.getD []).length); omega), (Int.le_refl _), (by dsimp only; exact e4), rfl, S⟩ ?_
    rintro ⟨m4, i4, _⟩ g4 u4 ⟨hm4, hl4, e4, q4_i, S⟩
    try dsimp only at hm4
    try dsimp only at hl4
    try dsimp only at e4
    try dsimp only at S
    try dsimp only at q4_i
    refine wc_seq (wc_seq (wc_region ?_))
    refine wd (does_mv_i q4_i) ?_
    refine wd (does_mv_p rfl) ?_
    obtain ⟨p5, s6, hp7, S⟩ := S.seeR 0 ht3
    replace S : St A N w u4 [oB b2 T_Nd (Nd.C a1)] [oB p5 T_RTab (RTab.C ⟨s6⟩), fS 4 Nd.C s6 (a0.getD []), oR a_0 a0] := S
    refine wd (does_nilCheck (congrArg Value.pointer hp7)) ?_
    refine wd (does_fieldAddr fl_RTab_n rfl (o' := 0) rfl) ?_
    refine wd (does_load on_L_api_Node rfl ((S.blkZ 0).cell (RTab.get_n _))) ?_
    refine wd (does_lenR sl_L_api_Node rfl (S.rd 1)) ?_
    refine wd (does_lt rfl rfl) ?_
    replace S : St A N w u4 [oB b2 T_Nd (Nd.C a1)] [oR a_0 a0] := S.zs [2]
    refine wl_nil ?_
    refine wc_if rfl (fun hc8 => ?_) (fun hc8 => ?_)
    rotate_left
    · refine wc_exit ?_
      have hge : ((a0.getD []).length : Int) ≤ i4 := Int.not_lt.1 (of_decide_eq_false hc8)
      obtain rfl : m4 = 0 := by omega
      replace e4 := forN_0 e4
      exact ⟨rfl, ((((((((Dif.self _ _ _).upd rfl _).upd rfl _).upd rfl _).upd rfl _).upd rfl _).upd rfl _).upd rfl _), (), e4, S⟩
    refine wc_skip ?_
    have hlt4 : i4 < ((a0.getD []).length : Int) := of_decide_eq_true hc8
    obtain ⟨m4, rfl⟩ : ∃ m, m4 = m + 1 := ⟨m4 - 1, by omega⟩
    obtain ⟨q4, H, e4⟩ := forN_s e4
    unfold ref03_T_Find.b0 at H
    try dsimp only at H
    have hb4 := (S.lenRZ 0)
    refine wc_seq ?_
    refine wc_block ?_
    refine wc_seq ?_
    refine wc_quiet 8 (Ext u4) hmix (by kernel_rfl) (by kernel_rfl) (Ext.drawn _) ?_
    refine wq_does (fun v K => does_mv_p rfl) ?_
    obtain ⟨p9, s10, hp11, S⟩ := S.seeR 0 ht3
    replace S : St A N w u4 [oB b2 T_Nd (Nd.C a1)] [oB p9 T_RTab (RTab.C ⟨s10⟩), fS 4 Nd.C s10 (a0.getD []), oR a_0 a0] := S
    refine wq_does (fun v K => does_nilCheck (congrArg Value.pointer hp11)) ?_
    refine wq_does (fun v K => does_fieldAddr fl_RTab_n rfl (o' := 0) rfl) ?_
    refine wq_does (fun v K => does_load on_L_api_Node rfl (((S.ext K).blkZ 0).cell (RTab.get_n _))) ?_
    refine wq_does (fun v K => does_mv_i q4_i) ?_
    refine wq_does (fun v K => does_indexR sl_L_api_Node rfl rfl ((S.ext K).rd 1) (And.intro (show 0 ≤ i4 by omega) (show i4 < ((a0.getD []).length : Int) from hlt4)).1 (And.intro (show 0 ≤ i4 by omega) (show i4 < ((a0.getD []).length : Int) from hlt4)).2) ?_
    refine wq_does (fun v K => does_load_agg ag_Nd rfl (((S.ext K).rd 1).at (at_some Nd.z (And.intro (show 0 ≤ i4 by omega) (show i4 < ((a0.getD []).length : Int) from hlt4)))) (Nd.len _)) ?_
    refine wq_does (fun v K => does_load_agg ag_Nd rfl (((S.ext K).blk 0).all _ (Nd.len _)) (Nd.len _)) ?_
    refine wq_nil fun w13 K => ?_
    replace S := S.ext K
    clear K
    refine wd (does_eqv eg_Nd (eq_Nd _ _) (by decide) rfl rfl) ?_
    replace S : St A N w w13 [oB b2 T_Nd (Nd.C a1)] [oR a_0 a0] := S.zs [2]
    refine wl_nil ?_
    refine wc_if rfl (fun hc14 => ?_) (fun hc14 => ?_)
    · replace H := if_t hc14 H
      refine wc_seq (wc_region ?_)
      refine wd (does_mv_i q4_i) ?_
      refine wd (does_as_i rfl) ?_
      refine wd (does_as_b rfl) ?_
      refine wl_nil ?_
      refine wc_ret ?_
      refine ⟨_, (rets2 (retOne_tmp rfl) (retOne_tmp rfl)), ?_⟩
      replace S : St A N w w13 [] [] := S.arr [] []
      obtain rfl := Option.some.inj H
      obtain rfl := e4
      obtain rfl := aft_r Ho4
      exact ⟨rfl, S⟩
    replace H := if_f hc14 H
    refine wc_skip ?_
    refine wc_region ?_
    refine wd (does_mv_i q4_i) ?_
    refine wd (does_addc rfl rfl (c := i4 + 1) rfl (by omega) (by omega)) ?_
    refine wd (does_as_i rfl) ?_
    refine wl_nil ?_
    obtain rfl := Option.some.inj H
    exact ⟨rfl, ((((((((((((((((((((Dif.self _ _ _).upd rfl _).upd rfl _).upd rfl _).upd rfl _).upd rfl _).upd rfl _).upd rfl _).upd rfl _).upd rfl _).upd rfl _).upd rfl _).upd rfl _).upd rfl _).upd rfl _).upd rfl _).upd rfl _).upd rfl _).upd rfl _).upd rfl _), (m4, i4 + 1, ()), ⟨(by dsimp only; omega), (by dsimp only; omega), e4, rfl, S⟩, by dsimp only; omega⟩
  rintro g15 u16 ⟨s4, rfl, S⟩
  have H := Ho4
  dsimp only [aft] at H
  refine wc_seq (wc_region ?_)
  refine wd (does_as_i rfl) ?_
  refine wd (does_as_b rfl) ?_
  refine wl_nil ?_
  refine wc_ret ?_
  refine ⟨_, (rets2 (retOne_tmp rfl) (retOne_tmp rfl)), ?_⟩
  replace S : St A N w u16 [] [] := S.arr [] []
  obtain rfl := Option.some.inj H
  exact ⟨rfl, S⟩
theorem ref03_T_Put_st {A : Nat → Prop} {N : Oth} {w : World} {a0 : Tb} {a_0 : Option Addr} {a1 : Nd} (S : St A N w w [oR a_0 a0] []) {r : Tb × Int × Int} (H : ref03_T_Put.f a0 a1 = some r) :
    Calls PP F_ref03_T_Put #[.pointer a_0, .agg (Nd.C a1).toArray] w fun e w' => ∃ v, e = .returned v ∧ (v = .tuple #[.int .i64 r.2.1, .int .i64 r.2.2] ∧ St A N w w' [oR a_0 r.1] []) := by
  unfold ref03_T_Put.f at H
  refine calls_of_wc (n := 90) fn_ref03_T_Put rfl rfl (by simp) ?_
  refine wc_seq (wc_region ?_)
  refine wl_box_agg rfl (by decide) fun b2 w1 hw1 => ?_
  replace S : St A N w w1 [oB b2 T_Nd (Nd.C a1), oR a_0 a0] [] := S.new hw1
  refine wd (does_as_i rfl) ?_
  refine wd (does_as_i rfl) ?_
  refine wl_nil ?_
  refine wc_seq (wc_seq (wc_region ?_))
  refine wd (does_fieldAddr fl_Nd_kind rfl (o' := 0) rfl) ?_
  refine wd (does_load on_api_Kind rfl ((S.blk 0).cell (Nd.get_kind _))) ?_
  refine wl_nil ?_
  obtain ⟨o3, e3, Ho3⟩ := bind_ex H
  replace H := e3; clear e3
  refine wc_cutq [4, 5, 10, 11, 12, 13, 14, 15, 16, 17, 18, 19, 20, 21, 22, 23, 24, 25, 26, 27, 28, 29, 30, 31, 32, 33, 34, 35, 36, 37, 38, 39, 40, 41, 42, 43, 44, 45, 46, 47, 48, 49, 50, 51, 52, 53, 54, 55, 56, 57, 58, 59] (fun fr W => ∃ s3 : Tb, o3 = .inl s3 ∧ St A N w W [oB b2 T_Nd (Nd.C a1), oR a_0 s3] []) ?_ ?_
  · refine wc_block ?_
    refine wc_seq (wc_region ?_)
    refine wd (does_eq rfl rfl) ?_
    refine wd (does_as_b rfl) ?_
    refine wl_nil ?_
    refine wc_if rfl (fun hc4 => ?_) (fun hc4 => ?_)
    · replace H := if_t hc4 H
      refine wc_seq (wc_seq (wc_region ?_))
      refine wd (does_fieldAddr fl_Nd_l rfl (o' := 2) rfl) ?_
      refine wd (does_load on_int rfl ((S.blk 0).cell (Nd.get_l _))) ?_
      refine wd (does_ne rfl rfl) ?_
      refine wd (does_mv_b rfl) ?_
      refine wl_guard (j := 3) (pol := false) rfl rfl rfl (by decide) (fun hg => does_fieldAddr fl_Nd_r rfl (o' := 3) rfl) (by decide) ?_
      refine wl_guard (j := 3) (pol := false) rfl rfl rfl (by decide) (fun hg => does_load on_int (gv_yes hg) ((S.blk 0).cell (Nd.get_r _))) (by decide) ?_
      refine wl_guard (j := 3) (pol := false) rfl rfl rfl (by decide) (fun hg => does_ne (gv_yes hg) rfl) (by decide) ?_
      refine wd (does_or rfl (fun hp => (gv_yes (and_1 hp)))) ?_
      refine wl_nil ?_
      refine wc_if rfl (fun hc5 => ?_) (fun hc5 => ?_)
      · replace H := if_t hc5 H
        refine wc_seq (wc_region ?_)
        refine wd (does_as_i rfl) ?_
        refine wd (does_as_i rfl) ?_
        refine wl_nil ?_
        refine wc_ret ?_
        refine ⟨_, (rets2 (retOne_tmp rfl) (retOne_tmp rfl)), ?_⟩
        replace S : St A N w w1 [oR a_0 a0] [] := S.arr [1] []
        obtain rfl := Option.some.inj H
        obtain rfl := aft_r Ho3
        exact ⟨rfl, S⟩
      replace H := if_f hc5 H
      refine wc_skip ?_
      refine wc_seq (wc_region ?_)
      refine wd (does_fieldAddr fl_Nd_name rfl (o' := 1) rfl) ?_
      refine wd (does_load on_string rfl ((S.blk 0).cell (Nd.get_name _))) ?_
      obtain ⟨r6, er6, H⟩ := bind_ex H
      obtain ⟨B8, MB8, SB8, back⟩ := S.calln 0 ((.nil))
      refine wl_call (does_call ca_ref03_Word) (by decide) (ref03_Word_st SB8 er6) ?_
      rintro _ w7 ⟨rfl, S2⟩
      replace S : St A N w w7 [oB b2 T_Nd (Nd.C a1), oR a_0 a0] [] := back _ _ _ _ S2 rfl
      clear back S2 SB8
      refine wd (does_not rfl) ?_
      refine wl_nil ?_
      refine wc_if rfl (fun hc9 => ?_) (fun hc9 => ?_)
      · replace H := if_t hc9 H
        refine wc_seq (wc_region ?_)
        refine wd (does_as_i rfl) ?_
        refine wd (does_as_i rfl) ?_
        refine wl_nil ?_
        refine wc_ret ?_
        refine ⟨_, (rets2 (retOne_tmp rfl) (retOne_tmp rfl)), ?_⟩
        replace S : St A N w w7 [oR a_0 a0] [] := S.arr [1] []
        obtain rfl := Option.some.inj H
        obtain rfl := aft_r Ho3
        exact ⟨rfl, S⟩
      replace H := if_f hc9 H
      refine wc_skip ?_
      obtain rfl := Option.some.inj H
      exact ⟨rfl, (((((((((((((((Dif.refl _ _).upd rfl _).upd rfl _).upd rfl _).upd rfl _).upd rfl _).upd rfl _).upd rfl _).upd rfl _).upd rfl _).upd rfl _).upd rfl _).upd rfl _).upd rfl _).upd rfl _), a0, rfl, S⟩
    · replace H := if_f hc4 H
      refine wc_seq (wc_region ?_)
      refine wd (does_eq rfl rfl) ?_
      refine wd (does_as_b rfl) ?_
      refine wl_nil ?_
      refine wc_if rfl (fun hc10 => ?_) (fun hc10 => ?_)
      · replace H := if_t hc10 H
        refine wc_seq (wc_region ?_)
        refine wd (does_fieldAddr fl_Nd_name rfl (o' := 1) rfl) ?_
        refine wd (does_load on_string rfl ((S.blk 0).cell (Nd.get_name _))) ?_
        refine wd (does_nes rfl rfl) ?_
        refine wd (does_mv_b rfl) ?_
        refine wl_guard (j := 3) (pol := false) rfl rfl rfl (by decide) (fun hg => does_fieldAddr fl_Nd_l rfl (o' := 2) rfl) (by decide) ?_
        refine wl_guard (j := 3) (pol := false) rfl rfl rfl (by decide) (fun hg => does_load on_int (gv_yes hg) ((S.blk 0).cell (Nd.get_l _))) (by decide) ?_
        refine wl_guard (j := 3) (pol := false) rfl rfl rfl (by decide) (fun hg => does_ne (gv_yes hg) rfl) (by decide) ?_
        refine wd (does_or rfl (fun hp => (gv_yes (and_1 hp)))) ?_
        refine wd (does_mv_b rfl) ?_
        refine wl_guard (j := 8) (pol := false) rfl rfl rfl (by decide) (fun hg => does_fieldAddr fl_Nd_r rfl (o' := 3) rfl) (by decide) ?_
        refine wl_guard (j := 8) (pol := false) rfl rfl rfl (by decide) (fun hg => does_load on_int (gv_yes hg) ((S.blk 0).cell (Nd.get_r _))) (by decide) ?_
        refine wl_guard (j := 8) (pol := false) rfl rfl rfl (by decide) (fun hg => does_ne (gv_yes hg) rfl) (by decide) ?_
        refine wd (does_or rfl (fun hp => (gv_yes (and_1 hp)))) ?_
        refine wl_nil ?_
        refine wc_if rfl (fun hc11 => ?_) (fun hc11 => ?_)
        · replace H := if_t hc11 H
          refine wc_seq (wc_region ?_)
          refine wd (does_as_i rfl) ?_
          refine wd (does_as_i rfl) ?_
          refine wl_nil ?_
          refine wc_ret ?_
          refine ⟨_, (rets2 (retOne_tmp rfl) (retOne_tmp rfl)), ?_⟩
          replace S : St A N w w1 [oR a_0 a0] [] := S.arr [1] []
          obtain rfl := Option.some.inj H
          obtain rfl := aft_r Ho3
          exact ⟨rfl, S⟩
        replace H := if_f hc11 H
        refine wc_skip ?_
        obtain rfl := Option.some.inj H
        exact ⟨rfl, ((((((((((((((((((Dif.refl _ _).upd rfl _).upd rfl _).upd rfl _).upd rfl _).upd rfl _).upd rfl _).upd rfl _).upd rfl _).upd rfl _).upd rfl _).upd rfl _).upd rfl _).upd rfl _).upd rfl _).upd rfl _).upd rfl _).upd rfl _), a0, rfl, S⟩
      · replace H := if_f hc10 H
        refine wc_seq (wc_seq (wc_region ?_))
        refine wd (does_eq rfl rfl) ?_
        refine wd (does_as_b rfl) ?_
        refine wl_nil ?_
        obtain ⟨o12, e12, Ho12⟩ := bind_ex H
        replace H := e12; clear e12
        refine wc_cutq [39, 41, 42] (fun fr W => fr 39 = .bool o12 ∧ St A N w W [oB b2 T_Nd (Nd.C a1), oR a_0 a0] []) ?_ ?_
        · refine wc_if rfl (fun hc13 => ?_) (fun hc13 => ?_)
          · replace H := if_t hc13 H
            refine wc_skip ?_
            obtain rfl := Option.some.inj H
            exact ⟨rfl, (Dif.refl _ _), rfl, S⟩
          · replace H := if_f hc13 H
            refine wc_seq (wc_region ?_)
            refine wd (does_eq rfl rfl) ?_
            refine wd (does_as_b rfl) ?_
            refine wl_nil ?_
            refine wc_if rfl (fun hc14 => ?_) (fun hc14 => ?_)
            · replace H := if_t hc14 H
              refine wc_skip ?_
              obtain rfl := Option.some.inj H
              exact ⟨rfl, (((Dif.refl _ _).upd rfl _).upd rfl _), rfl, S⟩
            · replace H := if_f hc14 H
              refine wc_region ?_
              refine wd (does_eq rfl rfl) ?_
              refine wd (does_as_b rfl) ?_
              refine wl_nil ?_
              obtain rfl := Option.some.inj H
              exact ⟨rfl, (((((Dif.refl _ _).upd rfl _).upd rfl _).upd rfl _).upd rfl _), rfl, S⟩
        rintro g15 u16 ⟨p12_39, S⟩
        have H := Ho12
        refine wc_if p12_39 (fun hc17 => ?_) (fun hc17 => ?_)
        rotate_left
        · replace H := if_f hc17 H
          refine wc_seq (wc_region ?_)
          refine wd (does_as_i rfl) ?_
          refine wd (does_as_i rfl) ?_
          refine wl_nil ?_
          refine wc_ret ?_
          refine ⟨_, (rets2 (retOne_tmp rfl) (retOne_tmp rfl)), ?_⟩
          replace S : St A N w u16 [oR a_0 a0] [] := S.arr [1] []
          obtain rfl := Option.some.inj H
          obtain rfl := aft_r Ho3
          exact ⟨rfl, S⟩
        replace H := if_t hc17 H
        refine wc_seq (wc_region ?_)
        refine wd (does_fieldAddr fl_Nd_name rfl (o' := 1) rfl) ?_
        refine wd (does_load on_string rfl ((S.blk 0).cell (Nd.get_name _))) ?_
        refine wd (does_nes rfl rfl) ?_
        refine wd (does_mv_b rfl) ?_
        refine wl_guard (j := 3) (pol := false) rfl rfl rfl (by decide) (fun hg => does_mv_p rfl) (by decide) ?_
        refine wl_guard (j := 3) (pol := false) rfl rfl rfl (by decide) (fun hg => does_fieldAddr fl_Nd_l rfl (o' := 2) rfl) (by decide) ?_
        refine wl_guard (j := 3) (pol := false) rfl rfl rfl (by decide) (fun hg => does_load on_int (gv_yes hg) ((S.blk 0).cell (Nd.get_l _))) (by decide) ?_
        obtain ⟨r18, er18, H⟩ := bind_ex H
        refine wl_gcall (j := 3) (pol := false) rfl rfl rfl (by decide) (fun hg => does_callg ca_ref03_T_Has (cons2 (gv_yes hg) (cons2 (gv_yes hg) rfl))) (by decide) (fun hg => (have ⟨M, SS⟩ := S.lend ((.o 1 rfl .nil)); quiet (ref03_T_Has_st SS (if_t (by simpa using hg) er18)) (fun v w' h => ⟨h.1, _, _, h.2⟩))) fun w19 hw19 => ?_
        replace S := S.ext hw19
        refine wl_guard (j := 3) (pol := false) rfl rfl rfl (by decide) (fun hg => does_not (gv_yes hg)) (by decide) ?_
        refine wd (does_or rfl (fun hp => (gv_yes (and_1 hp)))) ?_
        refine wd (does_mv_b rfl) ?_
        refine wl_guard (j := 10) (pol := false) rfl rfl rfl (by decide) (fun hg => does_mv_p rfl) (by decide) ?_
        refine wl_guard (j := 10) (pol := false) rfl rfl rfl (by decide) (fun hg => does_fieldAddr fl_Nd_r rfl (o' := 3) rfl) (by decide) ?_
        refine wl_guard (j := 10) (pol := false) rfl rfl rfl (by decide) (fun hg => does_load on_int (gv_yes hg) ((S.blk 0).cell (Nd.get_r _))) (by decide) ?_
        obtain ⟨r20, er20, H⟩ := bind_ex H
        refine wl_gcall (j := 10) (pol := false) rfl rfl rfl (by decide) (fun hg => does_callg ca_ref03_T_Has (cons2 (gv_yes hg) (cons2 (gv_yes hg) rfl))) (by decide) (fun hg => (have ⟨M, SS⟩ := S.lend ((.o 1 rfl .nil)); quiet (ref03_T_Has_st SS (if_t (by simpa using hg) er20)) (fun v w' h => ⟨h.1, _, _, h.2⟩))) fun w21 hw21 => ?_
        replace S := S.ext hw21
        refine wl_guard (j := 10) (pol := false) rfl rfl rfl (by decide) (fun hg => does_not (gv_yes hg)) (by decide) ?_
        refine wd (does_or rfl (fun hp => (gv_yes (and_1 hp)))) ?_
        refine wl_nil ?_
        refine wc_if rfl (fun hc22 => ?_) (fun hc22 => ?_)
        · replace H := if_t hc22 H
          refine wc_seq (wc_region ?_)
          refine wd (does_as_i rfl) ?_
          refine wd (does_as_i rfl) ?_
          refine wl_nil ?_
          refine wc_ret ?_
          refine ⟨_, (rets2 (retOne_tmp rfl) (retOne_tmp rfl)), ?_⟩
          replace S : St A N w w21 [oR a_0 a0] [] := S.arr [1] []
          obtain rfl := Option.some.inj H
          obtain rfl := aft_r Ho3
          exact ⟨rfl, S⟩
        replace H := if_f hc22 H
        refine wc_skip ?_
        obtain rfl := Option.some.inj H
        exact ⟨rfl, (((((((((((((((((((((((((Dif.refl _ _).upd rfl _).upd rfl _).upd rfl _).upd rfl _).upd rfl _).upd rfl _).mask rfl _).upd rfl _).upd rfl _).upd rfl _).upd rfl _).upd rfl _).upd rfl _).upd rfl _).upd rfl _).upd rfl _).upd rfl _).upd rfl _).upd rfl _).upd rfl _).upd rfl _).upd rfl _).upd rfl _).upd rfl _), a0, rfl, S⟩
  rintro g23 u24 ⟨s3, rfl, S⟩
  have H := Ho3
  dsimp only [aft] at H
  refine wc_seq (wc_region ?_)
  refine wd (does_mv_p rfl) ?_
  refine wd (does_load_agg ag_Nd rfl ((S.blk 0).all _ (Nd.len _)) (Nd.len _)) ?_
  obtain ⟨r25, er25, H⟩ := bind_ex H
  obtain ⟨B27, MB27, SB27, back⟩ := S.calln 0 ((.o 1 rfl .nil))
  refine wl_call (does_call ca_ref03_T_Find) (by decide) (ref03_T_Find_st SB27 er25) ?_
  rintro _ w26 ⟨rfl, S2⟩
  replace S : St A N w w26 [oB b2 T_Nd (Nd.C a1), oR a_0 s3] [] := back _ _ _ _ S2 rfl
  clear back S2 SB27
  refine wd (does_mv_t rfl) ?_
  refine wd (does_extract rfl rfl) ?_
  refine wd (does_extract rfl rfl) ?_
  refine wd (does_as_i rfl) ?_
  refine wd (does_as_b rfl) ?_
  refine wl_nil ?_
  refine wc_seq (wc_seq (wc_region ?_))
  refine wd (does_mv_b rfl) ?_
  refine wl_nil ?_
  refine wc_if rfl (fun hc28 => ?_) (fun hc28 => ?_)
  · replace H := if_t hc28 H
    refine wc_seq (wc_region ?_)
    refine wd (does_mv_i rfl) ?_
    refine wd (does_as_i rfl) ?_
    refine wd (does_as_i rfl) ?_
    refine wl_nil ?_
    refine wc_ret ?_
    refine ⟨_, (rets2 (retOne_tmp rfl) (retOne_tmp rfl)), ?_⟩
    replace S : St A N w w26 [oR a_0 s3] [] := S.arr [1] []
    obtain rfl := Option.some.inj H
    exact ⟨rfl, S⟩
  replace H := if_f hc28 H
  refine wc_skip ?_
  refine wc_seq (wc_seq (wc_region ?_))
  refine wd (does_mv_p rfl) ?_
  obtain ⟨ht29, H⟩ := chk_ex H
  obtain ⟨p30, s31, hp32, S⟩ := S.openR 1 ht29
  replace S : St A N w w26 [oB p30 T_RTab (RTab.C ⟨s31⟩), oS T_Nd 4 Nd.C s31 (s3.getD []), oB b2 T_Nd (Nd.C a1)] [] := S
  refine wd (does_nilCheck (congrArg Value.pointer hp32)) ?_
  refine wd (does_fieldAddr fl_RTab_n rfl (o' := 0) rfl) ?_
  refine wd (does_load on_L_api_Node rfl ((S.blk 0).cell (RTab.get_n _))) ?_
  refine wd (does_lenR sl_L_api_Node rfl (S.rdO 1)) ?_
  refine wd (does_ge rfl rfl) ?_
  replace S := S.front 1
  replace S := S.front 1
  replace S : St A N w w26 [oR a_0 (some (s3.getD [])), oB b2 T_Nd (Nd.C a1)] [] := S.shutR hp32
  refine wl_nil ?_
  refine wc_if rfl (fun hc33 => ?_) (fun hc33 => ?_)
  · replace H := if_t hc33 H
    refine wc_seq (wc_region ?_)
    refine wd (does_as_i rfl) ?_
    refine wd (does_as_i rfl) ?_
    refine wl_nil ?_
    refine wc_ret ?_
    refine ⟨_, (rets2 (retOne_tmp rfl) (retOne_tmp rfl)), ?_⟩
    replace S : St A N w w26 [oR a_0 (some (s3.getD []))] [] := S.arr [0] []
    obtain rfl := Option.some.inj H
    exact ⟨rfl, S⟩
  replace H := if_f hc33 H
  refine wc_skip ?_
  refine wc_seq ?_
  obtain ⟨p34, s35, hp36, S⟩ := S.openR 0 rfl
  replace S : St A N w w26 [oB p34 T_RTab (RTab.C ⟨s35⟩), oS T_Nd 4 Nd.C s35 (s3.getD []), oB b2 T_Nd (Nd.C a1)] [] := S
  obtain ⟨ha37, H⟩ := chk_ex H
  have ha37 := of_decide_eq_true ha37
  have hSO := S.sl 1
  have hSlt := hSO.lt
  have SH : ∀ v, Chg s35.fp w26 v → St A (N.or s35.fp) w v [oB p34 T_RTab (RTab.C ⟨s35⟩), oB b2 T_Nd (Nd.C a1)] [] := fun v hc => S.away 1 (hc := hc)
  refine wc_draw 8 ⟨fun L v => Chg s35.fp w26 v ∧ (L 7 = false → Ext w26 v), fun L a b => Chg s35.fp a b ∧ (L 7 = true → Ext a b), fun i v u => match i with
    | 0 => v = Value.pointer a_0
    | 1 => v = Value.pointer a_0
    | 2 => v = Value.pointer (some ⟨p34, 0, none⟩)
    | 3 => v = Value.pointer (some ⟨p34, 0, none⟩)
    | 4 => v = s35.v
    | 5 => v = Value.agg (Nd.C a1).toArray
    | 6 => ∃ b sl, v = SlV.v sl ∧ sl = ⟨some ⟨b, 0, none⟩, 1, 1⟩ ∧ Blk u b T_Nd (Nd.C a1) ∧ ¬ s35.fp b
    | 7 => ∃ s', v = SlV.v s' ∧ Own u 0 T_Nd 4 s' (((s3.getD []) ++ [a1]).map Nd.C) ∧ ∀ i, s'.fp i → s35.fp i ∨ w26.heap.size ≤ i
    | _ => True⟩ hmix (by kernel_rfl) ?_ ⟨(Ext.drawn _).mono (fun _ _ x => x.elim), fun _ => Ext.drawn _⟩ ⟨?_, ?_, ?_, ?_, ?_, ?_, ?_, ?_, trivial⟩ ?_
  · intro L i v a b hLi hle hv
    match i, hLi, hv with
    | 0, _, hv => exact hv
    | 1, _, hv => exact hv
    | 2, _, hv => exact hv
    | 3, _, hv => exact hv
    | 4, _, hv => exact hv
    | 5, _, hv => exact hv
    | 6, _, ⟨b, sl, e1, e2, hb, hn⟩ => exact ⟨b, sl, e1, e2, hb.chg hle.1 hn, hn⟩
    | 7, hLi, ⟨s', e1, ho, hg⟩ => exact ⟨s', e1, ho.ext (hle.2 hLi), hg⟩
    | _ + 8, _, _ => exact trivial
  · rintro L g v hL hT 
    refine wl_does (does_mv_p rfl) (by decide) (wl_nil (ob ⟨hT.1, fun h => hT.2 h⟩ ⟨Chg.refl _ _, fun _ => Ext.refl _⟩ rfl))
  · rintro L g v hL hT 
    refine wl_does (does_mv_p rfl) (by decide) (wl_nil (ob ⟨hT.1, fun h => hT.2 h⟩ ⟨Chg.refl _ _, fun _ => Ext.refl _⟩ rfl))
  · rintro L g v hL hT hv1
    refine wl_does (does_nilCheck ((hv1 : _ = Value.pointer a_0).trans (congrArg Value.pointer hp36))) (by decide) (wl_nil (ob ⟨hT.1, fun h => hT.2 h⟩ ⟨Chg.refl _ _, fun _ => Ext.refl _⟩ rfl))
  · rintro L g v hL hT hv2
    refine wl_does (does_fieldAddr fl_RTab_n hv2 (o' := 0) rfl) (by decide) (wl_nil (ob ⟨hT.1, fun h => hT.2 h⟩ ⟨Chg.refl _ _, fun _ => Ext.refl _⟩ rfl))
  · rintro L g v hL hT hv3
    refine wl_does (does_load on_L_api_Node hv3 (((SH v hT.1).blk 0).cell (RTab.get_n _))) (by decide) (wl_nil (ob ⟨hT.1, fun h => hT.2 h⟩ ⟨Chg.refl _ _, fun _ => Ext.refl _⟩ rfl))
  · rintro L g v hL hT 
    refine wl_does (does_load_agg ag_Nd rfl (((SH v hT.1).blk 1).all _ (Nd.len _)) (Nd.len _)) (by decide) (wl_nil (ob ⟨hT.1, fun h => hT.2 h⟩ ⟨Chg.refl _ _, fun _ => Ext.refl _⟩ rfl))
  · rintro L g v hL hT hv5
    refine wl_lit1 sl_L_api_Node el_Nd.zero hv5 rfl (Nd.len _) (by decide) (by decide) fun b v' sl hn hq => wl_nil (ob ⟨hT.1.thenExt hn.ext, fun h => (hT.2 h).trans hn.ext⟩ ⟨hn.ext.mono (fun _ _ x => x.elim), fun _ => hn.ext⟩ ⟨b, sl, rfl, hq, hn.blk, fun e => by have := hSlt _ e; have := hn.at_; have := hT.1.size; omega⟩)
  · rintro L g v hL hT hv4 ⟨b, sl, hv6, hq, hb, hnb⟩
    refine wl_push (C := Nd.C) sl_L_api_Node el_Nd hv4 hv6 (hSO.ext (hT.2 hL)) hb hq (Nd.len _) (Nd.one _) ha37 (by omega) (by decide) fun s' v' ho hc hg => wl_nil (ob ⟨hT.1.trans hc, fun h => (by cases h)⟩ ⟨hc, fun h => (by rw [hL] at h; cases h)⟩ ⟨s', rfl, ho, fun i e => (hg i e).imp id (fun h => Nat.le_trans hT.1.size h)⟩)
  rintro L g w38 hLm hT hv40_0 hv40_1 hv40_2 hv40_3 hv40_4 hv40_5 ⟨b, sl, hv40_6, hq, hb, hnb⟩ ⟨s39, hv40_7, O, gO⟩
  replace S : St A N w w38 [oS T_Nd 4 Nd.C s39 ((s3.getD []) ++ [a1]), oB p34 T_RTab (RTab.C ⟨s35⟩), oB b2 T_Nd (Nd.C a1)] [] := S.push 1 O (by rw [List.length_append, List.length_singleton]; omega) hT.1 gO
  clear O gO SH hSO hSlt
  refine wd (does_nilCheck ((hv40_0 : _ = Value.pointer a_0).trans (congrArg Value.pointer hp36))) ?_
  refine wd (does_fieldAddr fl_RTab_n rfl (o' := 0) rfl) ?_
  refine wl_store on_L_api_Node rfl hv40_7 (S.blk 1) (by rw [RTab.len]; decide) (SlV.one _ _ rfl) (RTab.set_n _ _) fun w41 B hw41 zw41 => ?_
  replace S : St A N w w41 [oB p34 T_RTab (RTab.C ⟨s39⟩), oS T_Nd 4 Nd.C s39 ((s3.getD []) ++ [a1]), oB b2 T_Nd (Nd.C a1)] [] := S.store 1 B hw41
  clear B
  replace S := S.front 1
  replace S := S.front 1
  replace S : St A N w w41 [oR a_0 (some ((s3.getD []) ++ [a1])), oB b2 T_Nd (Nd.C a1)] [] := S.shutR hp36
  refine wl_nil ?_
  refine wc_seq (wc_region ?_)
  refine wd (does_mv_p rfl) ?_
  obtain ⟨p42, s43, hp44, S⟩ := S.openR 0 rfl
  replace S : St A N w w41 [oB p42 T_RTab (RTab.C ⟨s43⟩), oS T_Nd 4 Nd.C s43 ((s3.getD []) ++ [a1]), oB b2 T_Nd (Nd.C a1)] [] := S
  refine wd (does_nilCheck (congrArg Value.pointer hp44)) ?_
  refine wd (does_fieldAddr fl_RTab_n rfl (o' := 0) rfl) ?_
  refine wd (does_load on_L_api_Node rfl ((S.blk 0).cell (RTab.get_n _))) ?_
  refine wd (does_lenR sl_L_api_Node rfl (S.rdO 1)) ?_
  refine wd (does_sub rfl rfl) ?_
  refine wd (does_as_i rfl) ?_
  refine wd (does_as_i rfl) ?_
  replace S := S.front 1
  replace S := S.front 1
  replace S : St A N w w41 [oR a_0 (some ((s3.getD []) ++ [a1])), oB b2 T_Nd (Nd.C a1)] [] := S.shutR hp44
  refine wl_nil ?_
  refine wc_ret ?_
  refine ⟨_, (rets2 (retOne_tmp rfl) (retOne_tmp rfl)), ?_⟩
  replace S : St A N w w41 [oR a_0 (some ((s3.getD []) ++ [a1]))] [] := S.arr [0] []
  obtain rfl := Option.some.inj H
  exact ⟨rfl, S⟩
theorem ref09_Right_st {A : Nat → Prop} {N : Oth} {w : World} {a0 : Tb} {a_0 : Option Addr} {a1 : Sq} (S : St A N w w [] [oR a_0 a0]) {r : Bool} (H : ref09_Right.f a0 a1 = some r) :
    Calls PP F_ref09_Right #[.pointer a_0, .agg (Sq.C a1).toArray] w fun e w' => ∃ v, e = .returned v ∧ (v = .bool r ∧ St A N w w' [] []) := by
  unfold ref09_Right.f at H
  refine calls_of_wc (n := 27) fn_ref09_Right rfl rfl (by simp) ?_
  refine wc_seq (wc_region ?_)
  refine wl_box_agg rfl (by decide) fun b2 w1 hw1 => ?_
  replace S : St A N w w1 [oB b2 T_Sq (Sq.C a1)] [oR a_0 a0] := S.new hw1
  refine wd (does_as_b rfl) ?_
  refine wl_nil ?_
  refine wc_seq (wc_region ?_)
  refine wd (does_fieldAddr fl_Sq_left rfl (o' := 0) rfl) ?_
  refine wd (does_load_agg ag_Bits rfl ((S.blk 0).cells (Sq.sub_left _)) (Bits.len _)) ?_
  obtain ⟨r3, er3, H⟩ := bind_ex H
  obtain ⟨B5, MB5, SB5, back⟩ := S.calln 0 ((.nil))
  refine wl_call (does_call ca_ref05_List) (by decide) (ref05_List_st SB5 er3) ?_
  rintro _ w4 ⟨s6, rfl, S2⟩
  replace S : St A N w w4 [oS T_int 1 IC s6 r3, oB b2 T_Sq (Sq.C a1)] [oR a_0 a0] := back _ _ _ _ S2 rfl
  clear back S2 SB5
  refine wd (does_as_l rfl) ?_
  refine wl_nil ?_
  refine wc_seq (wc_seq (wc_region ?_))
  refine wd (does_as_i rfl) ?_
  refine wl_nil ?_
  obtain ⟨o7, e7, Ho7⟩ := bind_ex H
  clear H
  refine wc_cutq [4, 6, 10, 11, 12, 13, 14, 15, 16, 17, 18, 19, 20, 21, 22] (fun fr W => ∃ s7 : Unit, o7 = .inl s7 ∧ St A N w W [oS T_int 1 IC s6 r3, oB b2 T_Sq (Sq.C a1)] [oR a_0 a0]) ?_ ?_
  · refine wc_block ?_
    refine wc_loopm (α := Nat × Int × Unit) [4, 6, 10, 11, 12, 13, 14, 15, 16, 17, 18, 19, 20, 21, 22] (fun x fr W => (x.1 : Int) = (r3.length : Int) - x.2.1 ∧ 0 ≤ x.2.1 ∧ forN (fun i s => ref09_Right.b0 a0 r3 i) x.1 x.2.1 x.2.2 = some o7 ∧ fr 6 = .int .i64 x.2.1 ∧ St A N w W [oS T_int 1 IC s6 r3, oB b2 T_Sq (Sq.C a1)] [oR a_0 a0]) (fun x => x.1) (((r3.length : Int) - 0).toNat, 0, ()) ⟨(by dsimp only; have hle := Int.natCast_nonneg (r3.length); omega), (Int.le_refl _), (by dsimp only; exact e7), rfl, S⟩ ?_
    rintro ⟨m7, i7, _⟩ g7 u7 ⟨hm7, hl7, e7, q7_i, S⟩
    try dsimp only at hm7
    try dsimp only at hl7
    try dsimp only at e7
    try dsimp only at S
    try dsimp only at q7_i
    refine wc_seq (wc_seq (wc_region ?_))
    refine wd (does_mv_i q7_i) ?_
    refine wd (does_mv_l rfl) ?_
    refine wd (does_lenR sl_L_int rfl (S.rdO 0)) ?_
    refine wd (does_lt rfl rfl) ?_
    refine wl_nil ?_
    refine wc_if rfl (fun hc8 => ?_) (fun hc8 => ?_)
    rotate_left
    · refine wc_exit ?_
      have hge : (r3.length : Int) ≤ i7 := Int.not_lt.1 (of_decide_eq_false hc8)
      obtain rfl : m7 = 0 := by omega
      replace e7 := forN_0 e7
      exact ⟨rfl, (((((Dif.self _ _ _).upd rfl _).upd rfl _).upd rfl _).upd rfl _), (), e7, S⟩
    refine wc_skip ?_
    have hlt7 : i7 < (r3.length : Int) := of_decide_eq_true hc8
    obtain ⟨m7, rfl⟩ : ∃ m, m7 = m + 1 := ⟨m7 - 1, by omega⟩
    obtain ⟨q7, H, e7⟩ := forN_s e7
    unfold ref09_Right.b0 at H
    try dsimp only at H
    have hb7 := (S.lenO 0)
    refine wc_seq ?_
    refine wc_block ?_
    refine wc_seq (wc_region ?_)
    refine wd (does_mv_p rfl) ?_
    refine wd (does_mv_l rfl) ?_
    refine wd (does_mv_i q7_i) ?_
    refine wd (does_indexR sl_L_int rfl rfl (S.rdO 0) (And.intro (show 0 ≤ i7 by omega) (show i7 < (r3.length : Int) from hlt7)).1 (And.intro (show 0 ≤ i7 by omega) (show i7 < (r3.length : Int) from hlt7)).2) ?_
    refine wd (does_load on_int rfl ((S.rdO 0).one (at_some (0 : Int) (And.intro (show 0 ≤ i7 by omega) (show i7 < (r3.length : Int) from hlt7))) rfl)) ?_
    obtain ⟨r10, er10, H⟩ := bind_ex H
    obtain ⟨B12, MB12, SB12, back⟩ := S.calln 0 ((.z 0 rfl .nil))
    refine wl_call (does_call ca_ref03_T_Has) (by decide) (ref03_T_Has_st SB12 er10) ?_
    rintro _ w11 ⟨rfl, S2⟩
    replace S : St A N w w11 [oS T_int 1 IC s6 r3, oB b2 T_Sq (Sq.C a1)] [oR a_0 a0] := back _ _ _ _ S2 rfl
    clear back S2 SB12
    refine wd (does_not rfl) ?_
    refine wl_nil ?_
    refine wc_if rfl (fun hc13 => ?_) (fun hc13 => ?_)
    · replace H := if_t hc13 H
      refine wc_seq (wc_region ?_)
      refine wd (does_as_b rfl) ?_
      refine wl_nil ?_
      refine wc_ret ?_
      refine ⟨_, (rets1 (retOne_tmp rfl)), ?_⟩
      replace S : St A N w w11 [] [] := S.arr [] []
      obtain rfl := Option.some.inj H
      obtain rfl := e7
      obtain rfl := aft_r Ho7
      exact ⟨rfl, S⟩
    replace H := if_f hc13 H
    refine wc_skip ?_
    refine wc_region ?_
    refine wd (does_mv_i q7_i) ?_
    refine wd (does_addc rfl rfl (c := i7 + 1) rfl (by omega) (by omega)) ?_
    refine wd (does_as_i rfl) ?_
    refine wl_nil ?_
    obtain rfl := Option.some.inj H
    exact ⟨rfl, (((((((((((((((Dif.self _ _ _).upd rfl _).upd rfl _).upd rfl _).upd rfl _).upd rfl _).upd rfl _).upd rfl _).upd rfl _).upd rfl _).upd rfl _).upd rfl _).upd rfl _).upd rfl _).upd rfl _), (m7, i7 + 1, ()), ⟨(by dsimp only; omega), (by dsimp only; omega), e7, rfl, S⟩, by dsimp only; omega⟩
  rintro g14 u15 ⟨s7, rfl, S⟩
  have H := Ho7
  dsimp only [aft] at H
  refine wc_seq (wc_region ?_)
  refine wd (does_mv_p rfl) ?_
  refine wd (does_fieldAddr fl_Sq_goal rfl (o' := 16) rfl) ?_
  refine wd (does_load on_int rfl ((S.blk 1).cell (Sq.get_goal _))) ?_
  obtain ⟨r16, er16, H⟩ := bind_ex H
  obtain ⟨B18, MB18, SB18, back⟩ := S.calln 0 ((.z 0 rfl .nil))
  refine wl_call (does_call ca_ref03_T_Has) (by decide) (ref03_T_Has_st SB18 er16) ?_
  rintro _ w17 ⟨rfl, S2⟩
  replace S : St A N w w17 [oS T_int 1 IC s6 r3, oB b2 T_Sq (Sq.C a1)] [oR a_0 a0] := back _ _ _ _ S2 rfl
  clear back S2 SB18
  refine wd (does_as_b rfl) ?_
  refine wl_nil ?_
  refine wc_ret ?_
  refine ⟨_, (rets1 (retOne_tmp rfl)), ?_⟩
  replace S : St A N w w17 [] [] := S.arr [] []
  obtain rfl := Option.some.inj H
  exact ⟨rfl, S⟩
theorem ref03_From_st {A : Nat → Prop} {N : Oth} {w : World} {a0 : List Nd} {s_0 : SlV} (S : St A N w w [] [fS 4 Nd.C s_0 a0]) {r : Tb × Int} (H : ref03_From.f a0 = some r) :
    Calls PP F_ref03_From #[s_0.v] w fun e w' => ∃ v, e = .returned v ∧ (∃ ao0 : Option Addr, v = .tuple #[.pointer ao0, .int .i64 r.2] ∧ St A N w w' [oR ao0 r.1] []) := by
  unfold ref03_From.f at H
  refine calls_of_wc (n := 32) fn_ref03_From rfl rfl (by simp) ?_
  refine wc_seq (wc_region ?_)
  replace S : St A N w w [oR none none] [fS 4 Nd.C s_0 a0] := S.add (Ext.refl _) (oR.nil _) (fun _ x => x.elim)
  refine wd (does_as_p rfl) ?_
  refine wd (does_as_i rfl) ?_
  refine wl_nil ?_
  refine wc_seq (wc_region ?_)
  refine wd (does_build bu_RTab Bld.nil) ?_
  refine wl_box_agg rfl (by decide) fun b2 w1 hw1 => ?_
  replace S : St A N w w1 [oR (some ⟨b2, 0, none⟩) (some []), oR none none] [fS 4 Nd.C s_0 a0] := ((S.nil T_Nd 4 Nd.C).new hw1).shutR rfl
  refine wd (does_as_p rfl) ?_
  refine wl_nil ?_
  refine wc_seq (wc_seq (wc_region ?_))
  refine wd (does_as_i rfl) ?_
  refine wl_nil ?_
  obtain ⟨o3, e3, Ho3⟩ := bind_ex H
  clear H
  refine wc_cutq [2, 3, 5, 6, 7, 10, 11, 12, 13, 14, 15, 16, 17, 18, 19, 20, 21, 22, 23, 24, 25, 26, 27, 28, 29, 30] (fun fr W => ∃ s3 : Tb, o3 = .inl s3 ∧ St A N w W [oR (some ⟨b2, 0, none⟩) s3, oR none none] [fS 4 Nd.C s_0 a0]) ?_ ?_
  · refine wc_block ?_
    refine wc_loopm (α := Nat × Int × Tb) [2, 3, 5, 6, 7, 10, 11, 12, 13, 14, 15, 16, 17, 18, 19, 20, 21, 22, 23, 24, 25, 26, 27, 28, 29, 30] (fun x fr W => (x.1 : Int) = (a0.length : Int) - x.2.1 ∧ 0 ≤ x.2.1 ∧ forN (fun i s => ref03_From.b0 a0 i s) x.1 x.2.1 x.2.2 = some o3 ∧ fr 5 = .int .i64 x.2.1 ∧ St A N w W [oR (some ⟨b2, 0, none⟩) (x.2.2), oR none none] [fS 4 Nd.C s_0 a0]) (fun x => x.1) (((a0.length : Int) - 0).toNat, 0, (some [])) ⟨(by dsimp only; have hle := Int.natCast_nonneg (a0.length); omega), (Int.le_refl _), (by dsimp only; exact e3), rfl, S⟩ ?_
    rintro ⟨m3, i3, x3_0⟩ g3 u3 ⟨hm3, hl3, e3, q3_i, S⟩
    try dsimp only at hm3
    try dsimp only at hl3
    try dsimp only at e3
    try dsimp only at S
    try dsimp only at q3_i
    refine wc_seq (wc_seq (wc_region ?_))
    refine wd (does_mv_i q3_i) ?_
    refine wd (does_mv_l rfl) ?_
    refine wd (does_lenR sl_L_api_Node rfl (S.rd 0)) ?_
    refine wd (does_lt rfl rfl) ?_
    refine wl_nil ?_
    refine wc_if rfl (fun hc4 => ?_) (fun hc4 => ?_)
    rotate_left
    · refine wc_exit ?_
      have hge : (a0.length : Int) ≤ i3 := Int.not_lt.1 (of_decide_eq_false hc4)
      obtain rfl : m3 = 0 := by omega
      replace e3 := forN_0 e3
      exact ⟨rfl, (((((Dif.self _ _ _).upd rfl _).upd rfl _).upd rfl _).upd rfl _), x3_0, e3, S⟩
    refine wc_skip ?_
    have hlt3 : i3 < (a0.length : Int) := of_decide_eq_true hc4
    obtain ⟨m3, rfl⟩ : ∃ m, m3 = m + 1 := ⟨m3 - 1, by omega⟩
    obtain ⟨q3, H, e3⟩ := forN_s e3
    unfold ref03_From.b0 at H
    try dsimp only at H
    have hb3 := (S.len 0)
    refine wc_seq ?_
    refine wc_block ?_
    refine wc_seq (wc_region ?_)
    refine wd (does_mv_p rfl) ?_
    refine wd (does_mv_l rfl) ?_
    refine wd (does_mv_i q3_i) ?_
    refine wd (does_indexR sl_L_api_Node rfl rfl (S.rd 0) (And.intro (show 0 ≤ i3 by omega) (show i3 < (a0.length : Int) from hlt3)).1 (And.intro (show 0 ≤ i3 by omega) (show i3 < (a0.length : Int) from hlt3)).2) ?_
    refine wd (does_load_agg ag_Nd rfl ((S.rd 0).at (at_some Nd.z (And.intro (show 0 ≤ i3 by omega) (show i3 < (a0.length : Int) from hlt3)))) (Nd.len _)) ?_
    obtain ⟨r6, er6, H⟩ := bind_ex H
    obtain ⟨B8, MB8, SB8, back⟩ := S.calln 1 ((.nil))
    refine wl_call (does_call ca_ref03_T_Put) (by decide) (ref03_T_Put_st SB8 er6) ?_
    rintro _ w7 ⟨rfl, S2⟩
    replace S : St A N w w7 [oR (some ⟨b2, 0, none⟩) r6.1, oR none none] [fS 4 Nd.C s_0 a0] := back _ _ _ _ S2 rfl
    clear back S2 SB8
    refine wd (does_mv_t rfl) ?_
    refine wd (does_extract rfl rfl) ?_
    refine wd (does_extract rfl rfl) ?_
    refine wd (does_as_i rfl) ?_
    refine wd (does_as_i rfl) ?_
    refine wl_nil ?_
    refine wc_seq (wc_seq (wc_region ?_))
    refine wd (does_mv_i rfl) ?_
    refine wd (does_ne rfl rfl) ?_
    refine wl_nil ?_
    refine wc_if rfl (fun hc9 => ?_) (fun hc9 => ?_)
    · replace H := if_t hc9 H
      refine wc_seq (wc_region ?_)
      refine wd (does_mv_i rfl) ?_
      replace S : St A N w w7 [oR none none, oR (some ⟨b2, 0, none⟩) r6.1, oR none none] [fS 4 Nd.C s_0 a0] := S.add (Ext.refl _) (oR.nil _) (fun _ x => x.elim)
      refine wd (does_as_p rfl) ?_
      refine wd (does_as_i rfl) ?_
      refine wl_nil ?_
      refine wc_ret ?_
      refine ⟨_, (rets2 (retOne_tmp rfl) (retOne_tmp rfl)), ?_⟩
      replace S : St A N w w7 [oR none none] [] := S.arr [0] []
      obtain rfl := Option.some.inj H
      obtain rfl := e3
      obtain rfl := aft_r Ho3
      exact ⟨none, rfl, S⟩
    replace H := if_f hc9 H
    refine wc_skip ?_
    refine wc_seq (wc_region ?_)
    refine wd (does_mv_i rfl) ?_
    refine wd (does_mv_i q3_i) ?_
    refine wd (does_ne rfl rfl) ?_
    refine wl_nil ?_
    refine wc_if rfl (fun hc10 => ?_) (fun hc10 => ?_)
    · replace H := if_t hc10 H
      refine wc_seq (wc_region ?_)
      replace S : St A N w w7 [oR none none, oR (some ⟨b2, 0, none⟩) r6.1, oR none none] [fS 4 Nd.C s_0 a0] := S.add (Ext.refl _) (oR.nil _) (fun _ x => x.elim)
      refine wd (does_as_p rfl) ?_
      refine wd (does_as_i rfl) ?_
      refine wl_nil ?_
      refine wc_ret ?_
      refine ⟨_, (rets2 (retOne_tmp rfl) (retOne_tmp rfl)), ?_⟩
      replace S : St A N w w7 [oR none none] [] := S.arr [0] []
      obtain rfl := Option.some.inj H
      obtain rfl := e3
      obtain rfl := aft_r Ho3
      exact ⟨none, rfl, S⟩
    replace H := if_f hc10 H
    refine wc_skip ?_
    refine wc_region ?_
    refine wd (does_mv_i q3_i) ?_
    refine wd (does_addc rfl rfl (c := i3 + 1) rfl (by omega) (by omega)) ?_
    refine wd (does_as_i rfl) ?_
    refine wl_nil ?_
    obtain rfl := Option.some.inj H
    exact ⟨rfl, ((((((((((((((((((((((((Dif.self _ _ _).upd rfl _).upd rfl _).upd rfl _).upd rfl _).upd rfl _).upd rfl _).upd rfl _).upd rfl _).upd rfl _).upd rfl _).upd rfl _).upd rfl _).upd rfl _).upd rfl _).upd rfl _).upd rfl _).upd rfl _).upd rfl _).upd rfl _).upd rfl _).upd rfl _).upd rfl _).upd rfl _), (m3, i3 + 1, r6.1), ⟨(by dsimp only; omega), (by dsimp only; omega), e3, rfl, S⟩, by dsimp only; omega⟩
  rintro g11 u12 ⟨s3, rfl, S⟩
  have H := Ho3
  dsimp only [aft] at H
  refine wc_seq (wc_region ?_)
  refine wd (does_mv_p rfl) ?_
  refine wd (does_as_p rfl) ?_
  refine wd (does_as_i rfl) ?_
  refine wl_nil ?_
  refine wc_ret ?_
  refine ⟨_, (rets2 (retOne_tmp rfl) (retOne_tmp rfl)), ?_⟩
  replace S : St A N w u12 [oR (some ⟨b2, 0, none⟩) s3] [] := S.arr [0] []
  obtain rfl := Option.some.inj H
  exact ⟨(some ⟨b2, 0, none⟩), rfl, S⟩
theorem law03_Both_st {A : Nat → Prop} {N : Oth} {w : World} {a0 : List Nd} {s_0 : SlV} (S : St A N w w [] [fS 4 Nd.C s_0 a0]) {r : Tb × Tb × Bool} (H : law03_Both.f a0 = some r) :
    Calls PP F_law03_Both #[s_0.v] w fun e w' => ∃ v, e = .returned v ∧ (∃ ao0 : Option Addr, ∃ ao1 : Option Addr, v = .tuple #[.pointer ao0, .pointer ao1, .bool r.2.2] ∧ St A N w w' [oT ao0 r.1, oR ao1 r.2.1] []) := by
  unfold law03_Both.f at H
  refine calls_of_wc (n := 27) fn_law03_Both rfl rfl (by simp) ?_
  refine wc_seq (wc_region ?_)
  replace S : St A N w w [oT none none] [fS 4 Nd.C s_0 a0] := S.add (Ext.refl _) (oT.nil _) (fun _ x => x.elim)
  refine wd (does_as_p rfl) ?_
  replace S : St A N w w [oR none none, oT none none] [fS 4 Nd.C s_0 a0] := S.add (Ext.refl _) (oR.nil _) (fun _ x => x.elim)
  refine wd (does_as_p rfl) ?_
  refine wd (does_as_b rfl) ?_
  refine wl_nil ?_
  refine wc_seq (wc_region ?_)
  refine wl_lits (C := Nd.C) (l := ([] : List Nd)) (vs := []) sl_L_api_Node el_Nd.zero rfl rfl (fun a _ => Nd.len a) (by decide) rfl (by decide) fun b2 w1 s3 hBw1 hw1 => ?_
  replace S : St A N w w1 [oS T_Nd 4 Nd.C s3 ([] : List Nd), oR none none, oT none none] [fS 4 Nd.C s_0 a0] := S.lit hBw1 hw1 (by simp)
  refine wd (does_mv_l rfl) ?_
  obtain ⟨ha6, H⟩ := chk_ex H
  have ha6 := of_decide_eq_true ha6
  refine wl_appendm (C := Nd.C) sl_L_api_Node el_Nd rfl rfl (S.sl 0) (S.rd 0) Nd.one ha6 (by omega) (by decide) fun s5 w4 O hw4 gw4 => ?_
  replace S : St A N w w4 [oS T_Nd 4 Nd.C s5 (([] : List Nd) ++ a0), oR none none, oT none none] [fS 4 Nd.C s_0 a0] := S.push 0 O (by first | (simp; done) | (simp; omega)) hw4 gw4
  clear O
  refine wd (does_as_l rfl) ?_
  refine wl_nil ?_
  refine wc_seq (wc_region ?_)
  refine wd (does_mv_l rfl) ?_
  obtain ⟨r7, er7, H⟩ := bind_ex H
  obtain ⟨B9, MB9, SB9, back⟩ := S.calln 0 ((.z 0 rfl .nil))
  refine wl_call (does_call ca_ref03_From) (by decide) (ref03_From_st SB9 er7) ?_
  rintro _ w8 ⟨a10, rfl, S2⟩
  replace S : St A N w w8 [oR a10 r7.1, oS T_Nd 4 Nd.C s5 (([] : List Nd) ++ a0), oR none none, oT none none] [fS 4 Nd.C s_0 a0] := back _ _ _ _ S2 rfl
  clear back S2 SB9
  refine wd (does_mv_t rfl) ?_
  refine wd (does_extract rfl rfl) ?_
  refine wd (does_extract rfl rfl) ?_
  refine wd (does_as_p rfl) ?_
  refine wd (does_as_i rfl) ?_
  refine wl_nil ?_
  refine wc_seq (wc_seq (wc_region ?_))
  refine wd (does_mv_i rfl) ?_
  refine wd (does_ne rfl rfl) ?_
  refine wl_nil ?_
  refine wc_if rfl (fun hc11 => ?_) (fun hc11 => ?_)
  · replace H := if_t hc11 H
    refine wc_seq (wc_region ?_)
    replace S : St A N w w8 [oT none none, oR a10 r7.1, oS T_Nd 4 Nd.C s5 (([] : List Nd) ++ a0), oR none none, oT none none] [fS 4 Nd.C s_0 a0] := S.add (Ext.refl _) (oT.nil _) (fun _ x => x.elim)
    refine wd (does_as_p rfl) ?_
    replace S : St A N w w8 [oR none none, oT none none, oR a10 r7.1, oS T_Nd 4 Nd.C s5 (([] : List Nd) ++ a0), oR none none, oT none none] [fS 4 Nd.C s_0 a0] := S.add (Ext.refl _) (oR.nil _) (fun _ x => x.elim)
    refine wd (does_as_p rfl) ?_
    refine wd (does_as_b rfl) ?_
    refine wl_nil ?_
    refine wc_ret ?_
    refine ⟨_, (rets3 (retOne_tmp rfl) (retOne_tmp rfl) (retOne_tmp rfl)), ?_⟩
    replace S : St A N w w8 [oT none none, oR none none] [] := S.arr [1, 0] []
    obtain rfl := Option.some.inj H
    exact ⟨none, none, rfl, S⟩
  replace H := if_f hc11 H
  refine wc_skip ?_
  refine wc_seq (wc_region ?_)
  refine wd (does_mv_l rfl) ?_
  obtain ⟨r12, er12, H⟩ := bind_ex H
  obtain ⟨B14, MB14, SB14, back⟩ := S.calln 0 ((.s 1 rfl .nil))
  refine wl_call (does_call ca_formula_From) (by decide) (formula_From_st SB14 er12) ?_
  rintro _ w13 ⟨a15, rfl, S2⟩
  replace S : St A N w w13 [oT a15 r12.1, oR a10 r7.1, oS T_Nd 4 Nd.C s5 (([] : List Nd) ++ a0), oR none none, oT none none] [fS 4 Nd.C s_0 a0] := back _ _ _ _ S2 rfl
  clear back S2 SB14
  refine wd (does_mv_t rfl) ?_
  refine wd (does_extract rfl rfl) ?_
  refine wd (does_extract rfl rfl) ?_
  refine wd (does_as_p rfl) ?_
  refine wd (does_as_i rfl) ?_
  refine wl_nil ?_
  refine wc_seq (wc_region ?_)
  refine wd (does_mv_p rfl) ?_
  refine wd (does_mv_p rfl) ?_
  refine wd (does_as_p rfl) ?_
  refine wd (does_as_p rfl) ?_
  refine wd (does_as_b rfl) ?_
  refine wl_nil ?_
  refine wc_ret ?_
  refine ⟨_, (rets3 (retOne_tmp rfl) (retOne_tmp rfl) (retOne_tmp rfl)), ?_⟩
  replace S : St A N w w13 [oT a15 r12.1, oR a10 r7.1] [] := S.arr [0, 1] []
  obtain rfl := Option.some.inj H
  exact ⟨a15, a10, rfl, S⟩
end Go.Proofs.YtjjkhjieegmphaaDoor
end
section
namespace Go.Proofs.YtjjkhjieegmphaaDoor
open Gw Go.RowKit
set_option maxHeartbeats 4000000
theorem law11_heads_st {A : Nat → Prop} {N : Oth} {w : World}  (S : St A N w w [] [oTz]) {k : Nat} {r : Bool} (H : law11_heads.f k  = some r) :
    Calls PP F_law11_heads #[] w fun e w' => ∃ v, e = .returned v ∧ (v = .bool r ∧ St A N w w' [] []) := by
  unfold law11_heads.f at H
  refine calls_of_wc (n := 119) fn_law11_heads rfl rfl (by simp) ?_
  refine wc_seq (wc_region ?_)
  refine wd (does_as_b rfl) ?_
  refine wl_nil ?_
  refine wc_seq (wc_region ?_)
  refine wd (does_build bu_Nd (Bld.one rfl rfl (by rw [Nd.len]; decide) (Nd.set_kind _ _) (Bld.one rfl rfl (by rw [Nd.len]; decide) (Nd.set_name _ _) Bld.nil))) ?_
  refine wd (does_build bu_Nd (Bld.one rfl rfl (by rw [Nd.len]; decide) (Nd.set_kind _ _) (Bld.one rfl rfl (by rw [Nd.len]; decide) (Nd.set_name _ _) Bld.nil))) ?_
  refine wd (does_build bu_Nd (Bld.one rfl rfl (by rw [Nd.len]; decide) (Nd.set_kind _ _) Bld.nil)) ?_
  refine wd (does_build bu_Nd (Bld.one rfl rfl (by rw [Nd.len]; decide) (Nd.set_kind _ _) (Bld.one rfl rfl (by rw [Nd.len]; decide) (Nd.set_l _ _) (Bld.one rfl rfl (by rw [Nd.len]; decide) (Nd.set_r _ _) Bld.nil)))) ?_
  refine wd (does_build bu_Nd (Bld.one rfl rfl (by rw [Nd.len]; decide) (Nd.set_kind _ _) (Bld.one rfl rfl (by rw [Nd.len]; decide) (Nd.set_l _ _) (Bld.one rfl rfl (by rw [Nd.len]; decide) (Nd.set_r _ _) Bld.nil)))) ?_
  refine wd (does_build bu_Nd (Bld.one rfl rfl (by rw [Nd.len]; decide) (Nd.set_kind _ _) (Bld.one rfl rfl (by rw [Nd.len]; decide) (Nd.set_l _ _) (Bld.one rfl rfl (by rw [Nd.len]; decide) (Nd.set_r _ _) Bld.nil)))) ?_
  refine wl_lits (C := Nd.C) (l := [{ Nd.z with kind := 1, name := (⟨#[112]⟩ : ByteArray) }, { Nd.z with kind := 1, name := (⟨#[113]⟩ : ByteArray) }, { Nd.z with kind := 2 }, { Nd.z with kind := 4, l := 0, r := 1 }, { Nd.z with kind := 5, l := 0, r := 2 }, { Nd.z with kind := 4, l := 0, r := 4 }]) (vs := [.agg (Nd.C ({ Nd.z with kind := 1, name := (⟨#[112]⟩ : ByteArray) })).toArray, .agg (Nd.C ({ Nd.z with kind := 1, name := (⟨#[113]⟩ : ByteArray) })).toArray, .agg (Nd.C ({ Nd.z with kind := 2 })).toArray, .agg (Nd.C ({ Nd.z with kind := 4, l := 0, r := 1 })).toArray, .agg (Nd.C ({ Nd.z with kind := 5, l := 0, r := 2 })).toArray, .agg (Nd.C ({ Nd.z with kind := 4, l := 0, r := 4 })).toArray]) sl_L_api_Node el_Nd.zero rfl rfl (fun a _ => Nd.len a) (by decide) rfl (by decide) fun b2 w1 s3 hBw1 hw1 => ?_
  replace S : St A N w w1 [oS T_Nd 4 Nd.C s3 ([{ Nd.z with kind := 1, name := (⟨#[112]⟩ : ByteArray) }, { Nd.z with kind := 1, name := (⟨#[113]⟩ : ByteArray) }, { Nd.z with kind := 2 }, { Nd.z with kind := 4, l := 0, r := 1 }, { Nd.z with kind := 5, l := 0, r := 2 }, { Nd.z with kind := 4, l := 0, r := 4 }])] [oTz] := S.lit hBw1 hw1 (by simp)
  obtain ⟨r4, er4, H⟩ := bind_ex H
  obtain ⟨B6, MB6, SB6, back⟩ := S.calln 0 ((.s 0 rfl .nil))
  refine wl_call (does_call ca_formula_From) (by decide) (formula_From_st SB6 er4) ?_
  rintro _ w5 ⟨a7, rfl, S2⟩
  replace S : St A N w w5 [oT a7 r4.1, oS T_Nd 4 Nd.C s3 ([{ Nd.z with kind := 1, name := (⟨#[112]⟩ : ByteArray) }, { Nd.z with kind := 1, name := (⟨#[113]⟩ : ByteArray) }, { Nd.z with kind := 2 }, { Nd.z with kind := 4, l := 0, r := 1 }, { Nd.z with kind := 5, l := 0, r := 2 }, { Nd.z with kind := 4, l := 0, r := 4 }])] [oTz] := back _ _ _ _ S2 rfl
  clear back S2 SB6
  refine wd (does_mv_t rfl) ?_
  refine wd (does_extract rfl rfl) ?_
  refine wd (does_extract rfl rfl) ?_
  refine wd (does_as_p rfl) ?_
  refine wd (does_as_i rfl) ?_
  refine wl_nil ?_
  refine wc_seq (wc_region ?_)
  refine wd (does_mv_p rfl) ?_
  refine wd (does_build bu_Sq (Bld.one rfl rfl (by rw [Sq.len]; decide) (Sq.set_goal _ _) Bld.nil)) ?_
  obtain ⟨r8, er8, H⟩ := bind_ex H
  obtain ⟨B10, MB10, SB10, back⟩ := S.calln 1 ((.z 0 rfl .nil))
  refine wl_call (does_call ca_search_Run) (by decide) (search_Run_st SB10 er8) ?_
  rintro _ w9 ⟨s11, rfl, S2⟩
  replace S : St A N w w9 [oT a7 r8.1, oDStep s11 r8.2.1.steps, oS T_Nd 4 Nd.C s3 ([{ Nd.z with kind := 1, name := (⟨#[112]⟩ : ByteArray) }, { Nd.z with kind := 1, name := (⟨#[113]⟩ : ByteArray) }, { Nd.z with kind := 2 }, { Nd.z with kind := 4, l := 0, r := 1 }, { Nd.z with kind := 5, l := 0, r := 2 }, { Nd.z with kind := 4, l := 0, r := 4 }])] [oTz] := back _ _ _ _ S2 rfl
  clear back S2 SB10
  refine wd (does_mv_t rfl) ?_
  refine wd (does_extract rfl rfl) ?_
  refine wd (does_extract rfl rfl) ?_
  refine wl_alloc ze_Found (by decide) fun b13 w12 hw12 => ?_
  replace S : St A N w w12 [oB b13 T_Found (Found.C (⟨false, SlV.nil, 0⟩ : Found)), oT a7 r8.1, oDStep s11 r8.2.1.steps, oS T_Nd 4 Nd.C s3 ([{ Nd.z with kind := 1, name := (⟨#[112]⟩ : ByteArray) }, { Nd.z with kind := 1, name := (⟨#[113]⟩ : ByteArray) }, { Nd.z with kind := 2 }, { Nd.z with kind := 4, l := 0, r := 1 }, { Nd.z with kind := 5, l := 0, r := 2 }, { Nd.z with kind := 4, l := 0, r := 4 }])] [oTz] := S.new hw12
  refine wl_store_agg ag_Found rfl rfl (S.blk 0) (Found.len _) (by rw [Found.len]; decide) (Found.one _) (store_all (Found.len _)) fun w14 B hw14 zw14 => ?_
  replace S : St A N w w14 [oB b13 T_Found (Found.C (⟨r8.2.1.proved, s11, r8.2.1.visits⟩ : Found)), oT a7 r8.1, oDStep s11 r8.2.1.steps, oS T_Nd 4 Nd.C s3 ([{ Nd.z with kind := 1, name := (⟨#[112]⟩ : ByteArray) }, { Nd.z with kind := 1, name := (⟨#[113]⟩ : ByteArray) }, { Nd.z with kind := 2 }, { Nd.z with kind := 4, l := 0, r := 1 }, { Nd.z with kind := 5, l := 0, r := 2 }, { Nd.z with kind := 4, l := 0, r := 4 }])] [oTz] := S.store 0 B hw14
  clear B
  refine wd (does_as_i rfl) ?_
  refine wl_nil ?_
  refine wc_seq (wc_region ?_)
  refine wd (does_mv_p rfl) ?_
  refine wd (does_build bu_Sq (Bld.one rfl rfl (by rw [Sq.len]; decide) (Sq.set_goal _ _) Bld.nil)) ?_
  obtain ⟨r15, er15, H⟩ := bind_ex H
  replace S : St A N w w14 [oT a7 r8.1, oB b13 T_Found (Found.C (⟨r8.2.1.proved, s11, r8.2.1.visits⟩ : Found)), oDStep s11 r8.2.1.steps, oS T_Nd 4 Nd.C s3 ([{ Nd.z with kind := 1, name := (⟨#[112]⟩ : ByteArray) }, { Nd.z with kind := 1, name := (⟨#[113]⟩ : ByteArray) }, { Nd.z with kind := 2 }, { Nd.z with kind := 4, l := 0, r := 1 }, { Nd.z with kind := 5, l := 0, r := 2 }, { Nd.z with kind := 4, l := 0, r := 4 }])] [oTz] := S.front 1
  obtain ⟨B17, MB17, SB17, back⟩ := S.calln 1 ((.z 0 rfl .nil))
  refine wl_call (does_call ca_search_Run) (by decide) (search_Run_st SB17 er15) ?_
  rintro _ w16 ⟨s18, rfl, S2⟩
  replace S : St A N w w16 [oT a7 r15.1, oDStep s18 r15.2.1.steps, oB b13 T_Found (Found.C (⟨r8.2.1.proved, s11, r8.2.1.visits⟩ : Found)), oDStep s11 r8.2.1.steps, oS T_Nd 4 Nd.C s3 ([{ Nd.z with kind := 1, name := (⟨#[112]⟩ : ByteArray) }, { Nd.z with kind := 1, name := (⟨#[113]⟩ : ByteArray) }, { Nd.z with kind := 2 }, { Nd.z with kind := 4, l := 0, r := 1 }, { Nd.z with kind := 5, l := 0, r := 2 }, { Nd.z with kind := 4, l := 0, r := 4 }])] [oTz] := back _ _ _ _ S2 rfl
  clear back S2 SB17
  refine wd (does_mv_t rfl) ?_
  refine wd (does_extract rfl rfl) ?_
  refine wd (does_extract rfl rfl) ?_
  refine wl_alloc ze_Found (by decide) fun b20 w19 hw19 => ?_
  replace S : St A N w w19 [oB b20 T_Found (Found.C (⟨false, SlV.nil, 0⟩ : Found)), oT a7 r15.1, oDStep s18 r15.2.1.steps, oB b13 T_Found (Found.C (⟨r8.2.1.proved, s11, r8.2.1.visits⟩ : Found)), oDStep s11 r8.2.1.steps, oS T_Nd 4 Nd.C s3 ([{ Nd.z with kind := 1, name := (⟨#[112]⟩ : ByteArray) }, { Nd.z with kind := 1, name := (⟨#[113]⟩ : ByteArray) }, { Nd.z with kind := 2 }, { Nd.z with kind := 4, l := 0, r := 1 }, { Nd.z with kind := 5, l := 0, r := 2 }, { Nd.z with kind := 4, l := 0, r := 4 }])] [oTz] := S.new hw19
  refine wl_store_agg ag_Found rfl rfl (S.blk 0) (Found.len _) (by rw [Found.len]; decide) (Found.one _) (store_all (Found.len _)) fun w21 B hw21 zw21 => ?_
  replace S : St A N w w21 [oB b20 T_Found (Found.C (⟨r15.2.1.proved, s18, r15.2.1.visits⟩ : Found)), oT a7 r15.1, oDStep s18 r15.2.1.steps, oB b13 T_Found (Found.C (⟨r8.2.1.proved, s11, r8.2.1.visits⟩ : Found)), oDStep s11 r8.2.1.steps, oS T_Nd 4 Nd.C s3 ([{ Nd.z with kind := 1, name := (⟨#[112]⟩ : ByteArray) }, { Nd.z with kind := 1, name := (⟨#[113]⟩ : ByteArray) }, { Nd.z with kind := 2 }, { Nd.z with kind := 4, l := 0, r := 1 }, { Nd.z with kind := 5, l := 0, r := 2 }, { Nd.z with kind := 4, l := 0, r := 4 }])] [oTz] := S.store 0 B hw21
  clear B
  refine wd (does_as_i rfl) ?_
  refine wl_nil ?_
  refine wc_seq (wc_region ?_)
  refine wd (does_mv_p rfl) ?_
  refine wd (does_buildc (vs := [(0, .int .u64 1)]) (out := Bits.C (Bits.put Bits.z 0 1)) (consP rfl rfl) (by kernel_rfl)) ?_
  refine wd (does_build bu_Sq (Bld.step rfl (congrArg Value.cells rfl) (Bits.len _) (by rw [Sq.len]; decide) (Sq.put_left _ _) (Bld.one rfl rfl (by rw [Sq.len]; decide) (Sq.set_goal _ _) Bld.nil))) ?_
  obtain ⟨r22, er22, H⟩ := bind_ex H
  replace S : St A N w w21 [oT a7 r15.1, oB b20 T_Found (Found.C (⟨r15.2.1.proved, s18, r15.2.1.visits⟩ : Found)), oDStep s18 r15.2.1.steps, oB b13 T_Found (Found.C (⟨r8.2.1.proved, s11, r8.2.1.visits⟩ : Found)), oDStep s11 r8.2.1.steps, oS T_Nd 4 Nd.C s3 ([{ Nd.z with kind := 1, name := (⟨#[112]⟩ : ByteArray) }, { Nd.z with kind := 1, name := (⟨#[113]⟩ : ByteArray) }, { Nd.z with kind := 2 }, { Nd.z with kind := 4, l := 0, r := 1 }, { Nd.z with kind := 5, l := 0, r := 2 }, { Nd.z with kind := 4, l := 0, r := 4 }])] [oTz] := S.front 1
  obtain ⟨B24, MB24, SB24, back⟩ := S.calln 1 ((.z 0 rfl .nil))
  refine wl_call (does_call ca_search_Run) (by decide) (search_Run_st SB24 er22) ?_
  rintro _ w23 ⟨s25, rfl, S2⟩
  replace S : St A N w w23 [oT a7 r22.1, oDStep s25 r22.2.1.steps, oB b20 T_Found (Found.C (⟨r15.2.1.proved, s18, r15.2.1.visits⟩ : Found)), oDStep s18 r15.2.1.steps, oB b13 T_Found (Found.C (⟨r8.2.1.proved, s11, r8.2.1.visits⟩ : Found)), oDStep s11 r8.2.1.steps, oS T_Nd 4 Nd.C s3 ([{ Nd.z with kind := 1, name := (⟨#[112]⟩ : ByteArray) }, { Nd.z with kind := 1, name := (⟨#[113]⟩ : ByteArray) }, { Nd.z with kind := 2 }, { Nd.z with kind := 4, l := 0, r := 1 }, { Nd.z with kind := 5, l := 0, r := 2 }, { Nd.z with kind := 4, l := 0, r := 4 }])] [oTz] := back _ _ _ _ S2 rfl
  clear back S2 SB24
  refine wd (does_mv_t rfl) ?_
  refine wd (does_extract rfl rfl) ?_
  refine wd (does_extract rfl rfl) ?_
  refine wl_alloc ze_Found (by decide) fun b27 w26 hw26 => ?_
  replace S : St A N w w26 [oB b27 T_Found (Found.C (⟨false, SlV.nil, 0⟩ : Found)), oT a7 r22.1, oDStep s25 r22.2.1.steps, oB b20 T_Found (Found.C (⟨r15.2.1.proved, s18, r15.2.1.visits⟩ : Found)), oDStep s18 r15.2.1.steps, oB b13 T_Found (Found.C (⟨r8.2.1.proved, s11, r8.2.1.visits⟩ : Found)), oDStep s11 r8.2.1.steps, oS T_Nd 4 Nd.C s3 ([{ Nd.z with kind := 1, name := (⟨#[112]⟩ : ByteArray) }, { Nd.z with kind := 1, name := (⟨#[113]⟩ : ByteArray) }, { Nd.z with kind := 2 }, { Nd.z with kind := 4, l := 0, r := 1 }, { Nd.z with kind := 5, l := 0, r := 2 }, { Nd.z with kind := 4, l := 0, r := 4 }])] [oTz] := S.new hw26
  refine wl_store_agg ag_Found rfl rfl (S.blk 0) (Found.len _) (by rw [Found.len]; decide) (Found.one _) (store_all (Found.len _)) fun w28 B hw28 zw28 => ?_
  replace S : St A N w w28 [oB b27 T_Found (Found.C (⟨r22.2.1.proved, s25, r22.2.1.visits⟩ : Found)), oT a7 r22.1, oDStep s25 r22.2.1.steps, oB b20 T_Found (Found.C (⟨r15.2.1.proved, s18, r15.2.1.visits⟩ : Found)), oDStep s18 r15.2.1.steps, oB b13 T_Found (Found.C (⟨r8.2.1.proved, s11, r8.2.1.visits⟩ : Found)), oDStep s11 r8.2.1.steps, oS T_Nd 4 Nd.C s3 ([{ Nd.z with kind := 1, name := (⟨#[112]⟩ : ByteArray) }, { Nd.z with kind := 1, name := (⟨#[113]⟩ : ByteArray) }, { Nd.z with kind := 2 }, { Nd.z with kind := 4, l := 0, r := 1 }, { Nd.z with kind := 5, l := 0, r := 2 }, { Nd.z with kind := 4, l := 0, r := 4 }])] [oTz] := S.store 0 B hw28
  clear B
  refine wd (does_as_i rfl) ?_
  refine wl_nil ?_
  refine wc_seq (wc_seq (wc_region ?_))
  refine wd (does_mv_i rfl) ?_
  refine wd (does_ne rfl rfl) ?_
  refine wd (does_mv_b rfl) ?_
  refine wl_guard (j := 2) (pol := false) rfl rfl rfl (by decide) (fun hg => does_mv_i rfl) (by decide) ?_
  refine wl_guard (j := 2) (pol := false) rfl rfl rfl (by decide) (fun hg => does_ne (gv_yes hg) rfl) (by decide) ?_
  refine wd (does_or rfl (fun hp => (gv_yes (and_1 hp)))) ?_
  refine wd (does_mv_b rfl) ?_
  refine wl_guard (j := 6) (pol := false) rfl rfl rfl (by decide) (fun hg => does_mv_i rfl) (by decide) ?_
  refine wl_guard (j := 6) (pol := false) rfl rfl rfl (by decide) (fun hg => does_ne (gv_yes hg) rfl) (by decide) ?_
  refine wd (does_or rfl (fun hp => (gv_yes (and_1 hp)))) ?_
  refine wd (does_mv_b rfl) ?_
  refine wl_guard (j := 10) (pol := false) rfl rfl rfl (by decide) (fun hg => does_mv_i rfl) (by decide) ?_
  refine wl_guard (j := 10) (pol := false) rfl rfl rfl (by decide) (fun hg => does_ne (gv_yes hg) rfl) (by decide) ?_
  refine wd (does_or rfl (fun hp => (gv_yes (and_1 hp)))) ?_
  refine wd (does_mv_b rfl) ?_
  refine wl_guard (j := 14) (pol := false) rfl rfl rfl (by decide) (fun hg => does_fieldAddr fl_Found_proved rfl (o' := 0) rfl) (by decide) ?_
  refine wl_guard (j := 14) (pol := false) rfl rfl rfl (by decide) (fun hg => does_load on_bool (gv_yes hg) ((S.blk 5).cell (Found.get_proved _))) (by decide) ?_
  refine wd (does_or rfl (fun hp => (gv_yes (and_1 hp)))) ?_
  refine wd (does_mv_b rfl) ?_
  refine wl_guard (j := 18) (pol := false) rfl rfl rfl (by decide) (fun hg => does_fieldAddr fl_Found_visits rfl (o' := 2) rfl) (by decide) ?_
  refine wl_guard (j := 18) (pol := false) rfl rfl rfl (by decide) (fun hg => does_load on_int (gv_yes hg) ((S.blk 5).cell (Found.get_visits _))) (by decide) ?_
  refine wl_guard (j := 18) (pol := false) rfl rfl rfl (by decide) (fun hg => does_ne (gv_yes hg) rfl) (by decide) ?_
  refine wd (does_or rfl (fun hp => (gv_yes (and_1 hp)))) ?_
  refine wd (does_mv_b rfl) ?_
  refine wl_guard (j := 23) (pol := false) rfl rfl rfl (by decide) (fun hg => does_fieldAddr fl_Found_steps rfl (o' := 1) rfl) (by decide) ?_
  refine wl_guard (j := 23) (pol := false) rfl rfl rfl (by decide) (fun hg => does_load on_L_api_Step (gv_yes hg) ((S.blk 5).cell (Found.get_steps _))) (by decide) ?_
  refine wl_guard (j := 23) (pol := false) rfl rfl rfl (by decide) (fun hg => does_lenD sl_L_api_Step (gv_yes hg) (S.onO 6)) (by decide) ?_
  refine wl_guard (j := 23) (pol := false) rfl rfl rfl (by decide) (fun hg => does_ne (gv_yes hg) rfl) (by decide) ?_
  refine wd (does_or rfl (fun hp => (gv_yes (and_1 hp)))) ?_
  refine wd (does_mv_b rfl) ?_
  refine wl_guard (j := 29) (pol := false) rfl rfl rfl (by decide) (fun hg => does_fieldAddr fl_Found_proved rfl (o' := 0) rfl) (by decide) ?_
  refine wl_guard (j := 29) (pol := false) rfl rfl rfl (by decide) (fun hg => does_load on_bool (gv_yes hg) ((S.blk 0).cell (Found.get_proved _))) (by decide) ?_
  refine wl_guard (j := 29) (pol := false) rfl rfl rfl (by decide) (fun hg => does_not (gv_yes hg)) (by decide) ?_
  refine wd (does_or rfl (fun hp => (gv_yes (and_1 hp)))) ?_
  refine wd (does_mv_b rfl) ?_
  refine wl_guard (j := 34) (pol := false) rfl rfl rfl (by decide) (fun hg => does_fieldAddr fl_Found_steps rfl (o' := 1) rfl) (by decide) ?_
  refine wl_guard (j := 34) (pol := false) rfl rfl rfl (by decide) (fun hg => does_load on_L_api_Step (gv_yes hg) ((S.blk 0).cell (Found.get_steps _))) (by decide) ?_
  refine wl_guard (j := 34) (pol := false) rfl rfl rfl (by decide) (fun hg => does_lenD sl_L_api_Step (gv_yes hg) (S.onO 2)) (by decide) ?_
  refine wl_guard (j := 34) (pol := false) rfl rfl rfl (by decide) (fun hg => does_ne (gv_yes hg) rfl) (by decide) ?_
  refine wd (does_or rfl (fun hp => (gv_yes (and_1 hp)))) ?_
  refine wl_nil ?_
  refine wc_if rfl (fun hc29 => ?_) (fun hc29 => ?_)
  · replace H := if_t hc29 H
    refine wc_seq (wc_region ?_)
    refine wd (does_as_b rfl) ?_
    refine wl_nil ?_
    refine wc_ret ?_
    refine ⟨_, (rets1 (retOne_tmp rfl)), ?_⟩
    replace S : St A N w w28 [] [] := S.arr [] []
    obtain rfl := Option.some.inj H
    exact ⟨rfl, S⟩
  replace H := if_f hc29 H
  refine wc_skip ?_
  refine wc_seq (wc_region ?_)
  refine wd (does_fieldAddr fl_Found_steps rfl (o' := 1) rfl) ?_
  refine wd (does_load on_L_api_Step rfl ((S.blk 5).cell (Found.get_steps _))) ?_
  obtain ⟨hi30, H⟩ := chk_ex H
  refine wd (does_indexD sl_L_api_Step rfl rfl (S.onO 6) (inb_ex hi30).1 (inb_ex hi30).2) ?_
  refine wd (does_fieldAddr fl_Step_rule rfl (o' := _) rfl) ?_
  refine wd (does_load on_api_Rule rfl (oD.cell (z := PStep.z) (S.onO 6) (inb_ex hi30) (fun _ => rStep.get_rule))) ?_
  refine wd (does_eq rfl rfl) ?_
  refine wd (does_mv_b rfl) ?_
  refine wl_guard (j := 6) (pol := true) rfl rfl rfl (by decide) (fun hg => does_fieldAddr fl_Found_steps rfl (o' := 1) rfl) (by decide) ?_
  refine wl_guard (j := 6) (pol := true) rfl rfl rfl (by decide) (fun hg => does_load on_L_api_Step (gv_yes hg) ((S.blk 5).cell (Found.get_steps _))) (by decide) ?_
  obtain ⟨hi31, H⟩ := chk_g H
  refine wl_guard (j := 6) (pol := true) rfl rfl rfl (by decide) (fun hg => does_indexD sl_L_api_Step (gv_yes hg) rfl (S.onO 6) (inb_ex (hi31 (by simpa using hg))).1 (inb_ex (hi31 (by simpa using hg))).2) (by decide) ?_
  refine wl_guard (j := 6) (pol := true) rfl rfl rfl (by decide) (fun hg => does_fieldAddr fl_Step_kids (gv_yes hg) (o' := _) rfl) (by decide) ?_
  obtain ⟨hg32, H⟩ := chk_ex H
  refine wl_gon (j := 6) (pol := true) rfl rfl rfl (by decide) (by simpa using hg32) ?_
  replace S : St A N w w28 [oB b27 T_Found (Found.C (⟨r22.2.1.proved, s25, r22.2.1.visits⟩ : Found)), oT a7 r22.1, oDStep s25 r22.2.1.steps, oB b20 T_Found (Found.C (⟨r15.2.1.proved, s18, r15.2.1.visits⟩ : Found)), oDStep s18 r15.2.1.steps, oB b13 T_Found (Found.C (⟨r8.2.1.proved, s11, r8.2.1.visits⟩ : Found)), oS T_Nd 4 Nd.C s3 ([{ Nd.z with kind := 1, name := (⟨#[112]⟩ : ByteArray) }, { Nd.z with kind := 1, name := (⟨#[113]⟩ : ByteArray) }, { Nd.z with kind := 2 }, { Nd.z with kind := 4, l := 0, r := 1 }, { Nd.z with kind := 5, l := 0, r := 2 }, { Nd.z with kind := 4, l := 0, r := 4 }])] [oDStep s11 r8.2.1.steps, oTz] := S.frzO 6
  obtain ⟨s33, hc34, S⟩ := S.viewStep 0 (inb_ex (hi31 (by simpa using hg32)))
  replace S : St A N w w28 [oB b27 T_Found (Found.C (⟨r22.2.1.proved, s25, r22.2.1.visits⟩ : Found)), oT a7 r22.1, oDStep s25 r22.2.1.steps, oB b20 T_Found (Found.C (⟨r15.2.1.proved, s18, r15.2.1.visits⟩ : Found)), oDStep s18 r15.2.1.steps, oB b13 T_Found (Found.C (⟨r8.2.1.proved, s11, r8.2.1.visits⟩ : Found)), oS T_Nd 4 Nd.C s3 ([{ Nd.z with kind := 1, name := (⟨#[112]⟩ : ByteArray) }, { Nd.z with kind := 1, name := (⟨#[113]⟩ : ByteArray) }, { Nd.z with kind := 2 }, { Nd.z with kind := 4, l := 0, r := 1 }, { Nd.z with kind := 5, l := 0, r := 2 }, { Nd.z with kind := 4, l := 0, r := 4 }])] [fS 1 IC s33 ((at_ PStep.z r8.2.1.steps 2).kids), oDStep s11 r8.2.1.steps, oTz] := S
  refine wd (does_load on_L_int (gv_yes (by simpa using hg32)) (hc34.get (Step.get_kids _))) ?_
  obtain ⟨hg35, H⟩ := chk_ex H
  refine wl_gon (j := 6) (pol := true) rfl rfl rfl (by decide) (by simpa using hg35) ?_
  refine wl_lits (C := IC) (l := [1]) (vs := [.int .i64 1]) sl_L_int el_int.zero rfl rfl (fun _ _ => rfl) (by decide) rfl (by decide) fun b37 w36 s38 hBw36 hw36 => ?_
  replace S : St A N w w36 [oS T_int 1 IC s38 ([1]), oB b27 T_Found (Found.C (⟨r22.2.1.proved, s25, r22.2.1.visits⟩ : Found)), oT a7 r22.1, oDStep s25 r22.2.1.steps, oB b20 T_Found (Found.C (⟨r15.2.1.proved, s18, r15.2.1.visits⟩ : Found)), oDStep s18 r15.2.1.steps, oB b13 T_Found (Found.C (⟨r8.2.1.proved, s11, r8.2.1.visits⟩ : Found)), oS T_Nd 4 Nd.C s3 ([{ Nd.z with kind := 1, name := (⟨#[112]⟩ : ByteArray) }, { Nd.z with kind := 1, name := (⟨#[113]⟩ : ByteArray) }, { Nd.z with kind := 2 }, { Nd.z with kind := 4, l := 0, r := 1 }, { Nd.z with kind := 5, l := 0, r := 2 }, { Nd.z with kind := 4, l := 0, r := 4 }])] [fS 1 IC s33 ((at_ PStep.z r8.2.1.steps 2).kids), oDStep s11 r8.2.1.steps, oTz] := S.lit hBw36 hw36 (by simp)
  obtain ⟨r39, er39, H⟩ := bind_ex H
  refine wl_gcall (j := 6) (pol := true) rfl rfl rfl (by decide) (fun hg => does_callg ca_ref03_Ints (cons2 rfl (cons2 rfl rfl))) (by decide) (fun hg => (have ⟨M, SS⟩ := S.lend ((.z 0 rfl (.s 0 rfl .nil))); quiet (ref03_Ints_st SS (if_t (by simpa using hg) er39)) (fun v w' h => ⟨h.1, _, _, h.2⟩))) fun w40 hw40 => ?_
  replace S := S.ext hw40
  refine wd (does_and rfl (fun hp => (gv_yes (and_1 hp)))) ?_
  refine wd (does_mv_b rfl) ?_
  refine wl_guard (j := 15) (pol := true) rfl rfl rfl (by decide) (fun hg => does_fieldAddr fl_Found_steps rfl (o' := 1) rfl) (by decide) ?_
  refine wl_guard (j := 15) (pol := true) rfl rfl rfl (by decide) (fun hg => does_load on_L_api_Step (gv_yes hg) ((S.blk 6).cell (Found.get_steps _))) (by decide) ?_
  obtain ⟨hi41, H⟩ := chk_g H
  refine wl_guard (j := 15) (pol := true) rfl rfl rfl (by decide) (fun hg => does_indexD sl_L_api_Step (gv_yes hg) rfl (S.onZ 1) (inb_ex (hi41 (by simpa using hg))).1 (inb_ex (hi41 (by simpa using hg))).2) (by decide) ?_
  refine wl_guard (j := 15) (pol := true) rfl rfl rfl (by decide) (fun hg => does_fieldAddr fl_Step_rule (gv_yes hg) (o' := _) rfl) (by decide) ?_
  refine wl_guard (j := 15) (pol := true) rfl rfl rfl (by decide) (fun hg => does_load on_api_Rule (gv_yes hg) (oD.cell (z := PStep.z) (S.onZ 1) (inb_ex (hi41 (by simpa using hg))) (fun _ => rStep.get_rule))) (by decide) ?_
  refine wl_guard (j := 15) (pol := true) rfl rfl rfl (by decide) (fun hg => does_eq (gv_yes hg) rfl) (by decide) ?_
  refine wd (does_and rfl (fun hp => (gv_yes (and_1 hp)))) ?_
  refine wd (does_mv_b rfl) ?_
  refine wl_guard (j := 23) (pol := true) rfl rfl rfl (by decide) (fun hg => does_fieldAddr fl_Found_steps rfl (o' := 1) rfl) (by decide) ?_
  refine wl_guard (j := 23) (pol := true) rfl rfl rfl (by decide) (fun hg => does_load on_L_api_Step (gv_yes hg) ((S.blk 6).cell (Found.get_steps _))) (by decide) ?_
  obtain ⟨hi42, H⟩ := chk_g H
  refine wl_guard (j := 23) (pol := true) rfl rfl rfl (by decide) (fun hg => does_indexD sl_L_api_Step (gv_yes hg) rfl (S.onZ 1) (inb_ex (hi42 (by simpa using hg))).1 (inb_ex (hi42 (by simpa using hg))).2) (by decide) ?_
  refine wl_guard (j := 23) (pol := true) rfl rfl rfl (by decide) (fun hg => does_fieldAddr fl_Step_kids (gv_yes hg) (o' := _) rfl) (by decide) ?_
  obtain ⟨hg43, H⟩ := chk_ex H
  refine wl_gon (j := 23) (pol := true) rfl rfl rfl (by decide) (by simpa using hg43) ?_
  obtain ⟨s44, hc45, S⟩ := S.viewStep 1 (inb_ex (hi42 (by simpa using hg43)))
  replace S : St A N w w40 [oS T_int 1 IC s38 ([1]), oB b27 T_Found (Found.C (⟨r22.2.1.proved, s25, r22.2.1.visits⟩ : Found)), oT a7 r22.1, oDStep s25 r22.2.1.steps, oB b20 T_Found (Found.C (⟨r15.2.1.proved, s18, r15.2.1.visits⟩ : Found)), oDStep s18 r15.2.1.steps, oB b13 T_Found (Found.C (⟨r8.2.1.proved, s11, r8.2.1.visits⟩ : Found)), oS T_Nd 4 Nd.C s3 ([{ Nd.z with kind := 1, name := (⟨#[112]⟩ : ByteArray) }, { Nd.z with kind := 1, name := (⟨#[113]⟩ : ByteArray) }, { Nd.z with kind := 2 }, { Nd.z with kind := 4, l := 0, r := 1 }, { Nd.z with kind := 5, l := 0, r := 2 }, { Nd.z with kind := 4, l := 0, r := 4 }])] [fS 1 IC s44 ((at_ PStep.z r8.2.1.steps 3).kids), fS 1 IC s33 ((at_ PStep.z r8.2.1.steps 2).kids), oDStep s11 r8.2.1.steps, oTz] := S
  refine wd (does_load on_L_int (gv_yes (by simpa using hg43)) (hc45.get (Step.get_kids _))) ?_
  obtain ⟨hg46, H⟩ := chk_ex H
  refine wl_gon (j := 23) (pol := true) rfl rfl rfl (by decide) (by simpa using hg46) ?_
  refine wl_lits (C := IC) (l := [0, 2]) (vs := [.int .i64 0, .int .i64 2]) sl_L_int el_int.zero rfl rfl (fun _ _ => rfl) (by decide) rfl (by decide) fun b48 w47 s49 hBw47 hw47 => ?_
  replace S : St A N w w47 [oS T_int 1 IC s49 ([0, 2]), oS T_int 1 IC s38 ([1]), oB b27 T_Found (Found.C (⟨r22.2.1.proved, s25, r22.2.1.visits⟩ : Found)), oT a7 r22.1, oDStep s25 r22.2.1.steps, oB b20 T_Found (Found.C (⟨r15.2.1.proved, s18, r15.2.1.visits⟩ : Found)), oDStep s18 r15.2.1.steps, oB b13 T_Found (Found.C (⟨r8.2.1.proved, s11, r8.2.1.visits⟩ : Found)), oS T_Nd 4 Nd.C s3 ([{ Nd.z with kind := 1, name := (⟨#[112]⟩ : ByteArray) }, { Nd.z with kind := 1, name := (⟨#[113]⟩ : ByteArray) }, { Nd.z with kind := 2 }, { Nd.z with kind := 4, l := 0, r := 1 }, { Nd.z with kind := 5, l := 0, r := 2 }, { Nd.z with kind := 4, l := 0, r := 4 }])] [fS 1 IC s44 ((at_ PStep.z r8.2.1.steps 3).kids), fS 1 IC s33 ((at_ PStep.z r8.2.1.steps 2).kids), oDStep s11 r8.2.1.steps, oTz] := S.lit hBw47 hw47 (by simp)
  obtain ⟨r50, er50, H⟩ := bind_ex H
  refine wl_gcall (j := 23) (pol := true) rfl rfl rfl (by decide) (fun hg => does_callg ca_ref03_Ints (cons2 rfl (cons2 rfl rfl))) (by decide) (fun hg => (have ⟨M, SS⟩ := S.lend ((.z 0 rfl (.s 0 rfl .nil))); quiet (ref03_Ints_st SS (if_t (by simpa using hg) er50)) (fun v w' h => ⟨h.1, _, _, h.2⟩))) fun w51 hw51 => ?_
  replace S := S.ext hw51
  refine wd (does_and rfl (fun hp => (gv_yes (and_1 hp)))) ?_
  refine wd (does_mv_b rfl) ?_
  refine wl_guard (j := 32) (pol := true) rfl rfl rfl (by decide) (fun hg => does_fieldAddr fl_Found_steps rfl (o' := 1) rfl) (by decide) ?_
  refine wl_guard (j := 32) (pol := true) rfl rfl rfl (by decide) (fun hg => does_load on_L_api_Step (gv_yes hg) ((S.blk 2).cell (Found.get_steps _))) (by decide) ?_
  obtain ⟨hi52, H⟩ := chk_g H
  refine wl_guard (j := 32) (pol := true) rfl rfl rfl (by decide) (fun hg => does_indexD sl_L_api_Step (gv_yes hg) rfl (S.onO 4) (inb_ex (hi52 (by simpa using hg))).1 (inb_ex (hi52 (by simpa using hg))).2) (by decide) ?_
  refine wl_guard (j := 32) (pol := true) rfl rfl rfl (by decide) (fun hg => does_fieldAddr fl_Step_rule (gv_yes hg) (o' := _) rfl) (by decide) ?_
  refine wl_guard (j := 32) (pol := true) rfl rfl rfl (by decide) (fun hg => does_load on_api_Rule (gv_yes hg) (oD.cell (z := PStep.z) (S.onO 4) (inb_ex (hi52 (by simpa using hg))) (fun _ => rStep.get_rule))) (by decide) ?_
  refine wl_guard (j := 32) (pol := true) rfl rfl rfl (by decide) (fun hg => does_eq (gv_yes hg) rfl) (by decide) ?_
  refine wd (does_and rfl (fun hp => (gv_yes (and_1 hp)))) ?_
  refine wd (does_as_b rfl) ?_
  refine wl_nil ?_
  refine wc_ret ?_
  refine ⟨_, (rets1 (retOne_tmp rfl)), ?_⟩
  replace S : St A N w w51 [] [] := S.arr [] []
  obtain rfl := Option.some.inj H
  exact ⟨rfl, S⟩
theorem law11_told_st {A : Nat → Prop} {N : Oth} {w : World} {a0 : Tb} {a_0 : Option Addr} {a1 : Sq} (S : St A N w w [oT a_0 a0] [oTz]) {k : Nat} {r : Tb × Int} (H : law11_told.f k a0 a1 = some r) :
    Calls PP F_law11_told #[.pointer a_0, .agg (Sq.C a1).toArray] w fun e w' => ∃ v, e = .returned v ∧ (v = .int .i64 r.2 ∧ St A N w w' [oT a_0 r.1] []) := by
  unfold law11_told.f at H
  refine calls_of_wc (n := 17) fn_law11_told rfl rfl (by simp) ?_
  refine wc_seq (wc_region ?_)
  refine wl_box_agg rfl (by decide) fun b2 w1 hw1 => ?_
  replace S : St A N w w1 [oB b2 T_Sq (Sq.C a1), oT a_0 a0] [oTz] := S.new hw1
  refine wd (does_as_i rfl) ?_
  refine wl_nil ?_
  refine wc_seq (wc_region ?_)
  refine wd (does_mv_p rfl) ?_
  refine wd (does_load_agg ag_Sq rfl ((S.blk 0).all _ (Sq.len _)) (Sq.len _)) ?_
  obtain ⟨r3, er3, H⟩ := bind_ex H
  replace S : St A N w w1 [oT a_0 a0, oB b2 T_Sq (Sq.C a1)] [oTz] := S.front 1
  obtain ⟨B5, MB5, SB5, back⟩ := S.calln 1 ((.z 0 rfl .nil))
  refine wl_call (does_call ca_search_Run) (by decide) (search_Run_st SB5 er3) ?_
  rintro _ w4 ⟨s6, rfl, S2⟩
  replace S : St A N w w4 [oT a_0 r3.1, oDStep s6 r3.2.1.steps, oB b2 T_Sq (Sq.C a1)] [oTz] := back _ _ _ _ S2 rfl
  clear back S2 SB5
  refine wd (does_mv_t rfl) ?_
  refine wd (does_extract rfl rfl) ?_
  refine wd (does_extract rfl rfl) ?_
  refine wl_alloc ze_Found (by decide) fun b8 w7 hw7 => ?_
  replace S : St A N w w7 [oB b8 T_Found (Found.C (⟨false, SlV.nil, 0⟩ : Found)), oT a_0 r3.1, oDStep s6 r3.2.1.steps, oB b2 T_Sq (Sq.C a1)] [oTz] := S.new hw7
  refine wl_store_agg ag_Found rfl rfl (S.blk 0) (Found.len _) (by rw [Found.len]; decide) (Found.one _) (store_all (Found.len _)) fun w9 B hw9 zw9 => ?_
  replace S : St A N w w9 [oB b8 T_Found (Found.C (⟨r3.2.1.proved, s6, r3.2.1.visits⟩ : Found)), oT a_0 r3.1, oDStep s6 r3.2.1.steps, oB b2 T_Sq (Sq.C a1)] [oTz] := S.store 0 B hw9
  clear B
  refine wd (does_as_i rfl) ?_
  refine wl_nil ?_
  refine wc_seq (wc_seq (wc_region ?_))
  refine wd (does_mv_i rfl) ?_
  refine wd (does_ne rfl rfl) ?_
  refine wl_nil ?_
  refine wc_if rfl (fun hc10 => ?_) (fun hc10 => ?_)
  · replace H := if_t hc10 H
    refine wc_seq (wc_region ?_)
    refine wd (does_as_i rfl) ?_
    refine wl_nil ?_
    refine wc_ret ?_
    refine ⟨_, (rets1 (retOne_tmp rfl)), ?_⟩
    replace S : St A N w w9 [oT a_0 r3.1] [] := S.arr [1] []
    obtain rfl := Option.some.inj H
    exact ⟨rfl, S⟩
  replace H := if_f hc10 H
  refine wc_skip ?_
  refine wc_seq (wc_seq (wc_region ?_))
  refine wd (does_fieldAddr fl_Found_proved rfl (o' := 0) rfl) ?_
  refine wd (does_load on_bool rfl ((S.blk 0).cell (Found.get_proved _))) ?_
  refine wl_nil ?_
  refine wc_if rfl (fun hc11 => ?_) (fun hc11 => ?_)
  · replace H := if_t hc11 H
    refine wc_seq (wc_region ?_)
    refine wd (does_as_i rfl) ?_
    refine wl_nil ?_
    refine wc_ret ?_
    refine ⟨_, (rets1 (retOne_tmp rfl)), ?_⟩
    replace S : St A N w w9 [oT a_0 r3.1] [] := S.arr [1] []
    obtain rfl := Option.some.inj H
    exact ⟨rfl, S⟩
  replace H := if_f hc11 H
  refine wc_skip ?_
  refine wc_seq (wc_region ?_)
  refine wd (does_as_i rfl) ?_
  refine wl_nil ?_
  refine wc_ret ?_
  refine ⟨_, (rets1 (retOne_tmp rfl)), ?_⟩
  replace S : St A N w w9 [oT a_0 r3.1] [] := S.arr [1] []
  obtain rfl := Option.some.inj H
  exact ⟨rfl, S⟩
end Go.Proofs.YtjjkhjieegmphaaDoor
end
section
namespace Go.Proofs.YtjjkhjieegmphaaDoor
open Gw Go.RowKit
set_option maxHeartbeats 4000000
theorem law11_SearchTrue_st {A : Nat → Prop} {N : Oth} {w : World} {a0 : List Nd} {s_0 : SlV} {a1 : Sq} {a2 : Int} (S : St A N w w [] [fS 4 Nd.C s_0 a0, oTz]) {k : Nat} {r : Bool} (H : law11_SearchTrue.f k a0 a1 a2 = some r) :
    Calls PP F_law11_SearchTrue #[s_0.v, .agg (Sq.C a1).toArray, .int .u64 a2] w fun e w' => ∃ v, e = .returned v ∧ (v = .bool r ∧ St A N w w' [] []) := by
  unfold law11_SearchTrue.f at H
  refine calls_of_wc (n := 143) fn_law11_SearchTrue rfl rfl (by simp) ?_
  refine wc_seq (wc_region ?_)
  refine wl_box_agg rfl (by decide) fun b2 w1 hw1 => ?_
  replace S : St A N w w1 [oB b2 T_Sq (Sq.C a1)] [fS 4 Nd.C s_0 a0, oTz] := S.new hw1
  refine wd (does_as_b rfl) ?_
  refine wl_nil ?_
  refine wc_seq (wc_region ?_)
  refine wd (does_mv_l rfl) ?_
  obtain ⟨r3, er3, H⟩ := bind_ex H
  obtain ⟨B5, MB5, SB5, back⟩ := S.calln 0 ((.z 0 rfl .nil))
  refine wl_call (does_call ca_law03_Both) (by decide) (law03_Both_st SB5 er3) ?_
  rintro _ w4 ⟨a6, a7, rfl, S2⟩
  replace S : St A N w w4 [oT a6 r3.1, oR a7 r3.2.1, oB b2 T_Sq (Sq.C a1)] [fS 4 Nd.C s_0 a0, oTz] := back _ _ _ _ S2 rfl
  clear back S2 SB5
  refine wd (does_mv_t rfl) ?_
  refine wd (does_extract rfl rfl) ?_
  refine wd (does_extract rfl rfl) ?_
  refine wd (does_extract rfl rfl) ?_
  refine wd (does_as_p rfl) ?_
  refine wd (does_as_p rfl) ?_
  refine wd (does_as_b rfl) ?_
  refine wl_nil ?_
  refine wc_seq (wc_seq (wc_region ?_))
  refine wd (does_mv_b rfl) ?_
  refine wd (does_not rfl) ?_
  refine wd (does_mv_b rfl) ?_
  refine wl_guard (j := 2) (pol := false) rfl rfl rfl (by decide) (fun hg => does_mv_p rfl) (by decide) ?_
  refine wl_guard (j := 2) (pol := false) rfl rfl rfl (by decide) (fun hg => does_load_agg ag_Sq rfl ((S.blk 2).all _ (Sq.len _)) (Sq.len _)) (by decide) ?_
  obtain ⟨r8, er8, H⟩ := bind_ex H
  refine wl_gcall (j := 2) (pol := false) rfl rfl rfl (by decide) (fun hg => does_callg ca_ref09_Right (cons2 (gv_yes hg) (cons2 (gv_yes hg) rfl))) (by decide) (fun hg => (have ⟨M, SS⟩ := S.lend ((.o 1 rfl .nil)); quiet (ref09_Right_st SS (if_t (by simpa using hg) er8)) (fun v w' h => ⟨h.1, _, _, h.2⟩))) fun w9 hw9 => ?_
  replace S := S.ext hw9
  refine wl_guard (j := 2) (pol := false) rfl rfl rfl (by decide) (fun hg => does_not (gv_yes hg)) (by decide) ?_
  refine wd (does_or rfl (fun hp => (gv_yes (and_1 hp)))) ?_
  refine wl_nil ?_
  refine wc_if rfl (fun hc10 => ?_) (fun hc10 => ?_)
  · replace H := if_t hc10 H
    refine wc_seq (wc_region ?_)
    obtain ⟨r11, er11, H⟩ := bind_ex H
    obtain ⟨B13, MB13, SB13, back⟩ := S.calln 0 ((.z 1 rfl .nil))
    refine wl_call (does_call ca_law11_heads) (by decide) (law11_heads_st SB13 er11) ?_
    rintro _ w12 ⟨rfl, S2⟩
    replace S : St A N w w12 [oT a6 r3.1, oR a7 r3.2.1, oB b2 T_Sq (Sq.C a1)] [fS 4 Nd.C s_0 a0, oTz] := back _ _ _ _ S2 rfl
    clear back S2 SB13
    refine wd (does_as_b rfl) ?_
    refine wl_nil ?_
    refine wc_ret ?_
    refine ⟨_, (rets1 (retOne_tmp rfl)), ?_⟩
    replace S : St A N w w12 [] [] := S.arr [] []
    obtain rfl := Option.some.inj H
    exact ⟨rfl, S⟩
  replace H := if_f hc10 H
  refine wc_skip ?_
  refine wc_seq (wc_seq (wc_region ?_))
  refine wd (does_mv_p rfl) ?_
  refine wd (does_load_agg ag_Sq rfl ((S.blk 2).all _ (Sq.len _)) (Sq.len _)) ?_
  obtain ⟨r14, er14, H⟩ := bind_ex H
  obtain ⟨B16, MB16, SB16, back⟩ := S.calln 1 ((.z 1 rfl .nil))
  refine wl_call (does_call ca_law11_told) (by decide) (law11_told_st SB16 er14) ?_
  rintro _ w15 ⟨rfl, S2⟩
  replace S : St A N w w15 [oT a6 r14.1, oR a7 r3.2.1, oB b2 T_Sq (Sq.C a1)] [fS 4 Nd.C s_0 a0, oTz] := back _ _ _ _ S2 rfl
  clear back S2 SB16
  refine wd (does_ne rfl rfl) ?_
  refine wl_nil ?_
  refine wc_if rfl (fun hc17 => ?_) (fun hc17 => ?_)
  · replace H := if_t hc17 H
    refine wc_seq (wc_region ?_)
    obtain ⟨r18, er18, H⟩ := bind_ex H
    obtain ⟨B20, MB20, SB20, back⟩ := S.calln 0 ((.z 1 rfl .nil))
    refine wl_call (does_call ca_law11_heads) (by decide) (law11_heads_st SB20 er18) ?_
    rintro _ w19 ⟨rfl, S2⟩
    replace S : St A N w w19 [oT a6 r14.1, oR a7 r3.2.1, oB b2 T_Sq (Sq.C a1)] [fS 4 Nd.C s_0 a0, oTz] := back _ _ _ _ S2 rfl
    clear back S2 SB20
    refine wd (does_as_b rfl) ?_
    refine wl_nil ?_
    refine wc_ret ?_
    refine ⟨_, (rets1 (retOne_tmp rfl)), ?_⟩
    replace S : St A N w w19 [] [] := S.arr [] []
    obtain rfl := Option.some.inj H
    exact ⟨rfl, S⟩
  replace H := if_f hc17 H
  refine wc_skip ?_
  refine wc_seq (wc_region ?_)
  refine wd (does_mv_l rfl) ?_
  refine wd (does_lenR sl_L_api_Node rfl (S.rd 0)) ?_
  obtain ⟨hm24, H⟩ := chk_ex H
  have hm24 := of_decide_eq_true hm24
  refine wl_make1 (C := bc) (z := false) sl_L_bool el_bool zv_bool rfl rfl rfl rfl hm24.1 (by omega) hm24.2 (by decide) fun b22 w21 s23 hBw21 hw21 => ?_
  replace S : St A N w w21 [oS T_bool 1 bc s23 (List.replicate ((a0.length : Int)).toNat false), oT a6 r14.1, oR a7 r3.2.1, oB b2 T_Sq (Sq.C a1)] [fS 4 Nd.C s_0 a0, oTz] := S.lit hBw21 hw21 (by rw [List.length_replicate]; omega)
  refine wd (does_as_l rfl) ?_
  refine wl_nil ?_
  refine wc_seq (wc_region ?_)
  refine wd (does_as_i rfl) ?_
  refine wl_nil ?_
  refine wc_seq (wc_seq (wc_region ?_))
  refine wd (does_as_i rfl) ?_
  refine wl_nil ?_
  obtain ⟨o25, e25, Ho25⟩ := bind_ex H
  clear H
  refine wc_cutq [11, 12, 13, 39, 40, 41, 42, 43, 44, 45, 46, 47, 48, 49, 50, 51, 52, 53, 54, 55, 56, 57, 58, 59, 60, 61, 62, 63, 64, 65, 66, 67, 68, 69, 70, 71, 72, 73, 74, 75, 76, 77, 78, 79, 80, 81, 82, 83, 84, 85, 86, 87, 88, 89, 90, 91, 92, 93, 94, 95, 96, 97, 98, 99, 100, 101, 102, 103, 104, 105, 106, 107, 108, 109, 110, 111, 112, 113, 114, 115, 116] (fun fr W => fr 11 = .int .i64 o25.1 ∧ St A N w W [oS T_bool 1 bc s23 o25.2, oT a6 r14.1, oR a7 r3.2.1, oB b2 T_Sq (Sq.C a1)] [fS 4 Nd.C s_0 a0, oTz]) ?_ ?_
  · refine wc_block ?_
    refine wc_loopm (α := Nat × Int × (Int × List Bool)) [11, 12, 13, 39, 40, 41, 42, 43, 44, 45, 46, 47, 48, 49, 50, 51, 52, 53, 54, 55, 56, 57, 58, 59, 60, 61, 62, 63, 64, 65, 66, 67, 68, 69, 70, 71, 72, 73, 74, 75, 76, 77, 78, 79, 80, 81, 82, 83, 84, 85, 86, 87, 88, 89, 90, 91, 92, 93, 94, 95, 96, 97, 98, 99, 100, 101, 102, 103, 104, 105, 106, 107, 108, 109, 110, 111, 112, 113, 114, 115, 116] (fun x fr W => (x.1 : Int) = (a0.length : Int) - x.2.1 ∧ 0 ≤ x.2.1 ∧ forS (fun i s => law11_SearchTrue.b0 a0 a2 i s.1 s.2) x.1 x.2.1 x.2.2 = some o25 ∧ fr 12 = .int .i64 x.2.1 ∧ fr 11 = .int .i64 (x.2.2.1) ∧ St A N w W [oS T_bool 1 bc s23 (x.2.2.2), oT a6 r14.1, oR a7 r3.2.1, oB b2 T_Sq (Sq.C a1)] [fS 4 Nd.C s_0 a0, oTz]) (fun x => x.1) (((a0.length : Int) - 0).toNat, 0, (0, List.replicate ((a0.length : Int)).toNat false)) ⟨(by dsimp only; have hle := Int.natCast_nonneg (a0.length); omega), (Int.le_refl _), (by dsimp only; exact e25), rfl, rfl, S⟩ ?_
    rintro ⟨m25, i25, ⟨x25_0, x25_1⟩⟩ g25 u25 ⟨hm25, hl25, e25, q25_i, q25_11, S⟩
    try dsimp only at hm25
    try dsimp only at hl25
    try dsimp only at e25
    try dsimp only at S
    try dsimp only at q25_i
    try dsimp only at q25_11
    refine wc_seq (wc_seq (wc_region ?_))
    refine wd (does_mv_i q25_i) ?_
    refine wd (does_mv_l rfl) ?_
    refine wd (does_lenR sl_L_api_Node rfl (S.rd 0)) ?_
    refine wd (does_lt rfl rfl) ?_
    refine wl_nil ?_
    refine wc_if rfl (fun hc26 => ?_) (fun hc26 => ?_)
    rotate_left
    · refine wc_exit ?_
      have hge : (a0.length : Int) ≤ i25 := Int.not_lt.1 (of_decide_eq_false hc26)
      obtain rfl : m25 = 0 := by omega
      replace e25 := forS_0 e25
      obtain rfl := e25
      exact ⟨rfl, (((((Dif.self _ _ _).upd rfl _).upd rfl _).upd rfl _).upd rfl _), q25_11, S⟩
    refine wc_skip ?_
    have hlt25 : i25 < (a0.length : Int) := of_decide_eq_true hc26
    obtain ⟨m25, rfl⟩ : ∃ m, m25 = m + 1 := ⟨m25 - 1, by omega⟩
    obtain ⟨q25, H, e25⟩ := forS_s e25
    unfold law11_SearchTrue.b0 at H
    try dsimp only at H
    have hb25 := (S.len 0)
    refine wc_seq ?_
    refine wc_block ?_
    refine wc_seq (wc_region ?_)
    refine wd (does_mv_l rfl) ?_
    refine wd (does_mv_i q25_i) ?_
    refine wd (does_indexR sl_L_api_Node rfl rfl (S.rd 0) (And.intro (show 0 ≤ i25 by omega) (show i25 < (a0.length : Int) from hlt25)).1 (And.intro (show 0 ≤ i25 by omega) (show i25 < (a0.length : Int) from hlt25)).2) ?_
    refine wd (does_load_agg ag_Nd rfl ((S.rd 0).at (at_some Nd.z (And.intro (show 0 ≤ i25 by omega) (show i25 < (a0.length : Int) from hlt25)))) (Nd.len _)) ?_
    refine wl_alloc ze_Nd (by decide) fun b29 w28 hw28 => ?_
    replace S : St A N w w28 [oB b29 T_Nd (Nd.C Nd.z), oS T_bool 1 bc s23 x25_1, oT a6 r14.1, oR a7 r3.2.1, oB b2 T_Sq (Sq.C a1)] [fS 4 Nd.C s_0 a0, oTz] := S.new hw28
    refine wl_store_agg ag_Nd rfl rfl (S.blk 0) (Nd.len _) (by rw [Nd.len]; decide) (Nd.one _) (store_all (Nd.len _)) fun w30 B hw30 zw30 => ?_
    replace S : St A N w w30 [oB b29 T_Nd (Nd.C (at_ Nd.z a0 i25)), oS T_bool 1 bc s23 x25_1, oT a6 r14.1, oR a7 r3.2.1, oB b2 T_Sq (Sq.C a1)] [fS 4 Nd.C s_0 a0, oTz] := S.store 0 B hw30
    clear B
    refine wl_nil ?_
    refine wc_seq (wc_region ?_)
    refine wd (does_fieldAddr fl_Nd_kind rfl (o' := 0) rfl) ?_
    refine wd (does_load on_api_Kind rfl ((S.blk 0).cell (Nd.get_kind _))) ?_
    refine wl_nil ?_
    refine wc_block ?_
    refine wc_seq (wc_region ?_)
    refine wd (does_eq rfl rfl) ?_
    refine wd (does_as_b rfl) ?_
    refine wl_nil ?_
    refine wc_if rfl (fun hc31 => ?_) (fun hc31 => ?_)
    · replace H := if_t hc31 H
      refine wc_seq (wc_region ?_)
      refine wd (does_mv_l rfl) ?_
      refine wd (does_mv_i q25_i) ?_
      refine wd (does_mv_i rfl) ?_
      refine wd (does_mv_i q25_11) ?_
      refine wd (does_rem rfl rfl (by decide)) ?_
      refine wd (does_conv un_int un_uint rfl) ?_
      obtain ⟨hz33, H⟩ := chk_ex H
      refine wd (does_shr rfl rfl (of_decide_eq_true hz33)) ?_
      refine wd (does_bits (by simp) rfl rfl) ?_
      refine wd (does_eq rfl rfl) ?_
      obtain ⟨hi34, H⟩ := chk_ex H
      refine wd (does_indexR sl_L_bool rfl rfl (S.rdO 1) (inb_ex hi34).1 (inb_ex hi34).2) ?_
      refine wl_store1 (C := bc) (a := decide (bitsOp .and .u64 (Int.fdiv a2 (2 ^ (min (IntKind.u64.wrap (Int.tmod x25_0 64)).toNat IntKind.u64.bits))) 1 = 1)) on_bool rfl rfl (S.sl 1) (inb_ex hi34) rfl rfl fun w35 O hw35 => ?_
      have hlw35 := S.lenO 1
      replace S : St A N w w35 [oS T_bool 1 bc s23 (x25_1.set (i25).toNat (decide (bitsOp .and .u64 (Int.fdiv a2 (2 ^ (min (IntKind.u64.wrap (Int.tmod x25_0 64)).toNat IntKind.u64.bits))) 1 = 1))), oB b29 T_Nd (Nd.C (at_ Nd.z a0 i25)), oT a6 r14.1, oR a7 r3.2.1, oB b2 T_Sq (Sq.C a1)] [fS 4 Nd.C s_0 a0, oTz] := S.push 1 O (by rw [List.length_set]; exact hlw35) hw35 (fun i hi => .inl hi)
      clear O
      refine wl_nil ?_
      refine wc_region ?_
      refine wd (does_mv_i q25_11) ?_
      refine wd (does_add rfl rfl) ?_
      refine wd (does_as_i rfl) ?_
      refine wl_nil ?_
      refine wc_region ?_
      refine wd (does_mv_i q25_i) ?_
      refine wd (does_addc rfl rfl (c := i25 + 1) rfl (by omega) (by omega)) ?_
      refine wd (does_as_i rfl) ?_
      refine wl_nil ?_
      replace S : St A N w w35 [oS T_bool 1 bc s23 (x25_1.set (i25).toNat (decide (bitsOp .and .u64 (Int.fdiv a2 (2 ^ (min (IntKind.u64.wrap (Int.tmod x25_0 64)).toNat IntKind.u64.bits))) 1 = 1))), oT a6 r14.1, oR a7 r3.2.1, oB b2 T_Sq (Sq.C a1)] [fS 4 Nd.C s_0 a0, oTz] := S.arr [0, 2, 3, 4] [0, 1]
      obtain rfl := Option.some.inj H
      exact ⟨rfl, ((((((((((((((((((((((((((((((Dif.self _ _ _).upd rfl _).upd rfl _).upd rfl _).upd rfl _).upd rfl _).upd rfl _).upd rfl _).upd rfl _).upd rfl _).upd rfl _).upd rfl _).upd rfl _).upd rfl _).upd rfl _).upd rfl _).upd rfl _).upd rfl _).upd rfl _).upd rfl _).upd rfl _).upd rfl _).upd rfl _).upd rfl _).upd rfl _).upd rfl _).upd rfl _).upd rfl _).upd rfl _).upd rfl _), (m25, i25 + 1, (IntKind.i64.wrap (x25_0 + 1), x25_1.set (i25).toNat (decide (bitsOp .and .u64 (Int.fdiv a2 (2 ^ (min (IntKind.u64.wrap (Int.tmod x25_0 64)).toNat IntKind.u64.bits))) 1 = 1)))), ⟨(by dsimp only; omega), (by dsimp only; omega), e25, rfl, rfl, S⟩, by dsimp only; omega⟩
    · replace H := if_f hc31 H
      refine wc_seq (wc_region ?_)
      refine wd (does_eq rfl rfl) ?_
      refine wd (does_as_b rfl) ?_
      refine wl_nil ?_
      refine wc_if rfl (fun hc36 => ?_) (fun hc36 => ?_)
      · replace H := if_t hc36 H
        refine wc_region ?_
        refine wd (does_mv_l rfl) ?_
        refine wd (does_mv_i q25_i) ?_
        refine wd (does_mv_l rfl) ?_
        refine wd (does_fieldAddr fl_Nd_l rfl (o' := 2) rfl) ?_
        refine wd (does_load on_int rfl ((S.blk 0).cell (Nd.get_l _))) ?_
        obtain ⟨hi37, H⟩ := chk_ex H
        refine wd (does_indexR sl_L_bool rfl rfl (S.rdO 1) (inb_ex hi37).1 (inb_ex hi37).2) ?_
        refine wd (does_load on_bool rfl ((S.rdO 1).one (at_some false (inb_ex hi37)) rfl)) ?_
        refine wd (does_mv_b rfl) ?_
        refine wl_guard (j := 7) (pol := true) rfl rfl rfl (by decide) (fun hg => does_mv_l rfl) (by decide) ?_
        refine wl_guard (j := 7) (pol := true) rfl rfl rfl (by decide) (fun hg => does_fieldAddr fl_Nd_r rfl (o' := 3) rfl) (by decide) ?_
        refine wl_guard (j := 7) (pol := true) rfl rfl rfl (by decide) (fun hg => does_load on_int (gv_yes hg) ((S.blk 0).cell (Nd.get_r _))) (by decide) ?_
        obtain ⟨hi38, H⟩ := chk_g H
        refine wl_guard (j := 7) (pol := true) rfl rfl rfl (by decide) (fun hg => does_indexR sl_L_bool (gv_yes hg) (gv_yes hg) (S.rdO 1) (inb_ex (hi38 (by simpa using hg))).1 (inb_ex (hi38 (by simpa using hg))).2) (by decide) ?_
        refine wl_guard (j := 7) (pol := true) rfl rfl rfl (by decide) (fun hg => does_load on_bool (gv_yes hg) ((S.rdO 1).one (at_some false (inb_ex (hi38 (by simpa using hg)))) rfl)) (by decide) ?_
        refine wd (does_and rfl (fun hp => (gv_yes (and_1 hp)))) ?_
        obtain ⟨hi39, H⟩ := chk_ex H
        refine wd (does_indexR sl_L_bool rfl rfl (S.rdO 1) (inb_ex hi39).1 (inb_ex hi39).2) ?_
        refine wl_store1 (C := bc) (a := (at_ false x25_1 ((at_ Nd.z a0 i25).l)) && (at_ false x25_1 ((at_ Nd.z a0 i25).r))) on_bool rfl rfl (S.sl 1) (inb_ex hi39) rfl rfl fun w40 O hw40 => ?_
        have hlw40 := S.lenO 1
        replace S : St A N w w40 [oS T_bool 1 bc s23 (x25_1.set (i25).toNat ((at_ false x25_1 ((at_ Nd.z a0 i25).l)) && (at_ false x25_1 ((at_ Nd.z a0 i25).r)))), oB b29 T_Nd (Nd.C (at_ Nd.z a0 i25)), oT a6 r14.1, oR a7 r3.2.1, oB b2 T_Sq (Sq.C a1)] [fS 4 Nd.C s_0 a0, oTz] := S.push 1 O (by rw [List.length_set]; exact hlw40) hw40 (fun i hi => .inl hi)
        clear O
        refine wl_nil ?_
        refine wc_region ?_
        refine wd (does_mv_i q25_i) ?_
        refine wd (does_addc rfl rfl (c := i25 + 1) rfl (by omega) (by omega)) ?_
        refine wd (does_as_i rfl) ?_
        refine wl_nil ?_
        replace S : St A N w w40 [oS T_bool 1 bc s23 (x25_1.set (i25).toNat ((at_ false x25_1 ((at_ Nd.z a0 i25).l)) && (at_ false x25_1 ((at_ Nd.z a0 i25).r)))), oT a6 r14.1, oR a7 r3.2.1, oB b2 T_Sq (Sq.C a1)] [fS 4 Nd.C s_0 a0, oTz] := S.arr [0, 2, 3, 4] [0, 1]
        obtain rfl := Option.some.inj H
        exact ⟨rfl, ((((((((((((((((((((((((((((((((((Dif.self _ _ _).upd rfl _).upd rfl _).upd rfl _).upd rfl _).upd rfl _).upd rfl _).upd rfl _).upd rfl _).upd rfl _).upd rfl _).upd rfl _).upd rfl _).upd rfl _).upd rfl _).upd rfl _).upd rfl _).upd rfl _).upd rfl _).upd rfl _).upd rfl _).upd rfl _).upd rfl _).upd rfl _).upd rfl _).upd rfl _).upd rfl _).upd rfl _).upd rfl _).upd rfl _).upd rfl _).upd rfl _).upd rfl _).upd rfl _), (m25, i25 + 1, (x25_0, x25_1.set (i25).toNat ((at_ false x25_1 ((at_ Nd.z a0 i25).l)) && (at_ false x25_1 ((at_ Nd.z a0 i25).r))))), ⟨(by dsimp only; omega), (by dsimp only; omega), e25, rfl, q25_11, S⟩, by dsimp only; omega⟩
      · replace H := if_f hc36 H
        refine wc_seq (wc_region ?_)
        refine wd (does_eq rfl rfl) ?_
        refine wd (does_as_b rfl) ?_
        refine wl_nil ?_
        refine wc_if rfl (fun hc41 => ?_) (fun hc41 => ?_)
        · replace H := if_t hc41 H
          refine wc_region ?_
          refine wd (does_mv_l rfl) ?_
          refine wd (does_mv_i q25_i) ?_
          refine wd (does_mv_l rfl) ?_
          refine wd (does_fieldAddr fl_Nd_l rfl (o' := 2) rfl) ?_
          refine wd (does_load on_int rfl ((S.blk 0).cell (Nd.get_l _))) ?_
          obtain ⟨hi42, H⟩ := chk_ex H
          refine wd (does_indexR sl_L_bool rfl rfl (S.rdO 1) (inb_ex hi42).1 (inb_ex hi42).2) ?_
          refine wd (does_load on_bool rfl ((S.rdO 1).one (at_some false (inb_ex hi42)) rfl)) ?_
          refine wd (does_mv_b rfl) ?_
          refine wl_guard (j := 7) (pol := false) rfl rfl rfl (by decide) (fun hg => does_mv_l rfl) (by decide) ?_
          refine wl_guard (j := 7) (pol := false) rfl rfl rfl (by decide) (fun hg => does_fieldAddr fl_Nd_r rfl (o' := 3) rfl) (by decide) ?_
          refine wl_guard (j := 7) (pol := false) rfl rfl rfl (by decide) (fun hg => does_load on_int (gv_yes hg) ((S.blk 0).cell (Nd.get_r _))) (by decide) ?_
          obtain ⟨hi43, H⟩ := chk_g H
          refine wl_guard (j := 7) (pol := false) rfl rfl rfl (by decide) (fun hg => does_indexR sl_L_bool (gv_yes hg) (gv_yes hg) (S.rdO 1) (inb_ex (hi43 (by simpa using hg))).1 (inb_ex (hi43 (by simpa using hg))).2) (by decide) ?_
          refine wl_guard (j := 7) (pol := false) rfl rfl rfl (by decide) (fun hg => does_load on_bool (gv_yes hg) ((S.rdO 1).one (at_some false (inb_ex (hi43 (by simpa using hg)))) rfl)) (by decide) ?_
          refine wd (does_or rfl (fun hp => (gv_yes (and_1 hp)))) ?_
          obtain ⟨hi44, H⟩ := chk_ex H
          refine wd (does_indexR sl_L_bool rfl rfl (S.rdO 1) (inb_ex hi44).1 (inb_ex hi44).2) ?_
          refine wl_store1 (C := bc) (a := (at_ false x25_1 ((at_ Nd.z a0 i25).l)) || (at_ false x25_1 ((at_ Nd.z a0 i25).r))) on_bool rfl rfl (S.sl 1) (inb_ex hi44) rfl rfl fun w45 O hw45 => ?_
          have hlw45 := S.lenO 1
          replace S : St A N w w45 [oS T_bool 1 bc s23 (x25_1.set (i25).toNat ((at_ false x25_1 ((at_ Nd.z a0 i25).l)) || (at_ false x25_1 ((at_ Nd.z a0 i25).r)))), oB b29 T_Nd (Nd.C (at_ Nd.z a0 i25)), oT a6 r14.1, oR a7 r3.2.1, oB b2 T_Sq (Sq.C a1)] [fS 4 Nd.C s_0 a0, oTz] := S.push 1 O (by rw [List.length_set]; exact hlw45) hw45 (fun i hi => .inl hi)
          clear O
          refine wl_nil ?_
          refine wc_region ?_
          refine wd (does_mv_i q25_i) ?_
          refine wd (does_addc rfl rfl (c := i25 + 1) rfl (by omega) (by omega)) ?_
          refine wd (does_as_i rfl) ?_
          refine wl_nil ?_
          replace S : St A N w w45 [oS T_bool 1 bc s23 (x25_1.set (i25).toNat ((at_ false x25_1 ((at_ Nd.z a0 i25).l)) || (at_ false x25_1 ((at_ Nd.z a0 i25).r)))), oT a6 r14.1, oR a7 r3.2.1, oB b2 T_Sq (Sq.C a1)] [fS 4 Nd.C s_0 a0, oTz] := S.arr [0, 2, 3, 4] [0, 1]
          obtain rfl := Option.some.inj H
          exact ⟨rfl, ((((((((((((((((((((((((((((((((((((Dif.self _ _ _).upd rfl _).upd rfl _).upd rfl _).upd rfl _).upd rfl _).upd rfl _).upd rfl _).upd rfl _).upd rfl _).upd rfl _).upd rfl _).upd rfl _).upd rfl _).upd rfl _).upd rfl _).upd rfl _).upd rfl _).upd rfl _).upd rfl _).upd rfl _).upd rfl _).upd rfl _).upd rfl _).upd rfl _).upd rfl _).upd rfl _).upd rfl _).upd rfl _).upd rfl _).upd rfl _).upd rfl _).upd rfl _).upd rfl _).upd rfl _).upd rfl _), (m25, i25 + 1, (x25_0, x25_1.set (i25).toNat ((at_ false x25_1 ((at_ Nd.z a0 i25).l)) || (at_ false x25_1 ((at_ Nd.z a0 i25).r))))), ⟨(by dsimp only; omega), (by dsimp only; omega), e25, rfl, q25_11, S⟩, by dsimp only; omega⟩
        · replace H := if_f hc41 H
          refine wc_seq (wc_region ?_)
          refine wd (does_eq rfl rfl) ?_
          refine wd (does_as_b rfl) ?_
          refine wl_nil ?_
          refine wc_if rfl (fun hc46 => ?_) (fun hc46 => ?_)
          · replace H := if_t hc46 H
            refine wc_region ?_
            refine wd (does_mv_l rfl) ?_
            refine wd (does_mv_i q25_i) ?_
            refine wd (does_mv_l rfl) ?_
            refine wd (does_fieldAddr fl_Nd_l rfl (o' := 2) rfl) ?_
            refine wd (does_load on_int rfl ((S.blk 0).cell (Nd.get_l _))) ?_
            obtain ⟨hi47, H⟩ := chk_ex H
            refine wd (does_indexR sl_L_bool rfl rfl (S.rdO 1) (inb_ex hi47).1 (inb_ex hi47).2) ?_
            refine wd (does_load on_bool rfl ((S.rdO 1).one (at_some false (inb_ex hi47)) rfl)) ?_
            refine wd (does_not rfl) ?_
            refine wd (does_mv_b rfl) ?_
            refine wl_guard (j := 8) (pol := false) rfl rfl rfl (by decide) (fun hg => does_mv_l rfl) (by decide) ?_
            refine wl_guard (j := 8) (pol := false) rfl rfl rfl (by decide) (fun hg => does_fieldAddr fl_Nd_r rfl (o' := 3) rfl) (by decide) ?_
            refine wl_guard (j := 8) (pol := false) rfl rfl rfl (by decide) (fun hg => does_load on_int (gv_yes hg) ((S.blk 0).cell (Nd.get_r _))) (by decide) ?_
            obtain ⟨hi48, H⟩ := chk_g H
            refine wl_guard (j := 8) (pol := false) rfl rfl rfl (by decide) (fun hg => does_indexR sl_L_bool (gv_yes hg) (gv_yes hg) (S.rdO 1) (inb_ex (hi48 (by simpa using hg))).1 (inb_ex (hi48 (by simpa using hg))).2) (by decide) ?_
            refine wl_guard (j := 8) (pol := false) rfl rfl rfl (by decide) (fun hg => does_load on_bool (gv_yes hg) ((S.rdO 1).one (at_some false (inb_ex (hi48 (by simpa using hg)))) rfl)) (by decide) ?_
            refine wd (does_or rfl (fun hp => (gv_yes (and_1 hp)))) ?_
            obtain ⟨hi49, H⟩ := chk_ex H
            refine wd (does_indexR sl_L_bool rfl rfl (S.rdO 1) (inb_ex hi49).1 (inb_ex hi49).2) ?_
            refine wl_store1 (C := bc) (a := (!(at_ false x25_1 ((at_ Nd.z a0 i25).l))) || (at_ false x25_1 ((at_ Nd.z a0 i25).r))) on_bool rfl rfl (S.sl 1) (inb_ex hi49) rfl rfl fun w50 O hw50 => ?_
            have hlw50 := S.lenO 1
            replace S : St A N w w50 [oS T_bool 1 bc s23 (x25_1.set (i25).toNat ((!(at_ false x25_1 ((at_ Nd.z a0 i25).l))) || (at_ false x25_1 ((at_ Nd.z a0 i25).r)))), oB b29 T_Nd (Nd.C (at_ Nd.z a0 i25)), oT a6 r14.1, oR a7 r3.2.1, oB b2 T_Sq (Sq.C a1)] [fS 4 Nd.C s_0 a0, oTz] := S.push 1 O (by rw [List.length_set]; exact hlw50) hw50 (fun i hi => .inl hi)
            clear O
            refine wl_nil ?_
            refine wc_region ?_
            refine wd (does_mv_i q25_i) ?_
            refine wd (does_addc rfl rfl (c := i25 + 1) rfl (by omega) (by omega)) ?_
            refine wd (does_as_i rfl) ?_
            refine wl_nil ?_
            replace S : St A N w w50 [oS T_bool 1 bc s23 (x25_1.set (i25).toNat ((!(at_ false x25_1 ((at_ Nd.z a0 i25).l))) || (at_ false x25_1 ((at_ Nd.z a0 i25).r)))), oT a6 r14.1, oR a7 r3.2.1, oB b2 T_Sq (Sq.C a1)] [fS 4 Nd.C s_0 a0, oTz] := S.arr [0, 2, 3, 4] [0, 1]
            obtain rfl := Option.some.inj H
            exact ⟨rfl, (((((((((((((((((((((((((((((((((((((((Dif.self _ _ _).upd rfl _).upd rfl _).upd rfl _).upd rfl _).upd rfl _).upd rfl _).upd rfl _).upd rfl _).upd rfl _).upd rfl _).upd rfl _).upd rfl _).upd rfl _).upd rfl _).upd rfl _).upd rfl _).upd rfl _).upd rfl _).upd rfl _).upd rfl _).upd rfl _).upd rfl _).upd rfl _).upd rfl _).upd rfl _).upd rfl _).upd rfl _).upd rfl _).upd rfl _).upd rfl _).upd rfl _).upd rfl _).upd rfl _).upd rfl _).upd rfl _).upd rfl _).upd rfl _).upd rfl _), (m25, i25 + 1, (x25_0, x25_1.set (i25).toNat ((!(at_ false x25_1 ((at_ Nd.z a0 i25).l))) || (at_ false x25_1 ((at_ Nd.z a0 i25).r))))), ⟨(by dsimp only; omega), (by dsimp only; omega), e25, rfl, q25_11, S⟩, by dsimp only; omega⟩
          · replace H := if_f hc46 H
            refine wc_skip ?_
            refine wc_region ?_
            refine wd (does_mv_i q25_i) ?_
            refine wd (does_addc rfl rfl (c := i25 + 1) rfl (by omega) (by omega)) ?_
            refine wd (does_as_i rfl) ?_
            refine wl_nil ?_
            replace S : St A N w w30 [oS T_bool 1 bc s23 x25_1, oT a6 r14.1, oR a7 r3.2.1, oB b2 T_Sq (Sq.C a1)] [fS 4 Nd.C s_0 a0, oTz] := S.arr [1, 2, 3, 4] [0, 1]
            obtain rfl := Option.some.inj H
            exact ⟨rfl, (((((((((((((((((((((((Dif.self _ _ _).upd rfl _).upd rfl _).upd rfl _).upd rfl _).upd rfl _).upd rfl _).upd rfl _).upd rfl _).upd rfl _).upd rfl _).upd rfl _).upd rfl _).upd rfl _).upd rfl _).upd rfl _).upd rfl _).upd rfl _).upd rfl _).upd rfl _).upd rfl _).upd rfl _).upd rfl _), (m25, i25 + 1, (x25_0, x25_1)), ⟨(by dsimp only; omega), (by dsimp only; omega), e25, rfl, q25_11, S⟩, by dsimp only; omega⟩
  rintro g51 u52 ⟨p25_11, S⟩
  have H := Ho25
  refine wc_seq (wc_region ?_)
  refine wd (does_fieldAddr fl_Sq_left rfl (o' := 0) rfl) ?_
  refine wd (does_load_agg ag_Bits rfl ((S.blk 3).cells (Sq.sub_left _)) (Bits.len _)) ?_
  obtain ⟨r53, er53, H⟩ := bind_ex H
  obtain ⟨B55, MB55, SB55, back⟩ := S.calln 0 ((.nil))
  refine wl_call (does_call ca_ref05_List) (by decide) (ref05_List_st SB55 er53) ?_
  rintro _ w54 ⟨s56, rfl, S2⟩
  replace S : St A N w w54 [oS T_int 1 IC s56 r53, oS T_bool 1 bc s23 o25.2, oT a6 r14.1, oR a7 r3.2.1, oB b2 T_Sq (Sq.C a1)] [fS 4 Nd.C s_0 a0, oTz] := back _ _ _ _ S2 rfl
  clear back S2 SB55
  refine wd (does_as_l rfl) ?_
  refine wl_nil ?_
  refine wc_seq (wc_seq (wc_region ?_))
  refine wd (does_as_i rfl) ?_
  refine wl_nil ?_
  obtain ⟨o57, e57, Ho57⟩ := bind_ex H
  clear H
  refine wc_cutq [6, 15, 120, 121, 122, 123, 124, 125, 126, 127, 128, 129, 130, 131, 132, 133, 134] (fun fr W => ∃ s57 : Unit, o57 = .inl s57 ∧ St A N w W [oS T_int 1 IC s56 r53, oS T_bool 1 bc s23 o25.2, oT a6 r14.1, oR a7 r3.2.1, oB b2 T_Sq (Sq.C a1)] [fS 4 Nd.C s_0 a0, oTz]) ?_ ?_
  · refine wc_block ?_
    refine wc_loopm (α := Nat × Int × Unit) [6, 15, 120, 121, 122, 123, 124, 125, 126, 127, 128, 129, 130, 131, 132, 133, 134] (fun x fr W => (x.1 : Int) = (r53.length : Int) - x.2.1 ∧ 0 ≤ x.2.1 ∧ forN (fun i s => law11_SearchTrue.b1 r53 o25 k i) x.1 x.2.1 x.2.2 = some o57 ∧ fr 15 = .int .i64 x.2.1 ∧ St A N w W [oS T_int 1 IC s56 r53, oS T_bool 1 bc s23 o25.2, oT a6 r14.1, oR a7 r3.2.1, oB b2 T_Sq (Sq.C a1)] [fS 4 Nd.C s_0 a0, oTz]) (fun x => x.1) (((r53.length : Int) - 0).toNat, 0, ()) ⟨(by dsimp only; have hle := Int.natCast_nonneg (r53.length); omega), (Int.le_refl _), (by dsimp only; exact e57), rfl, S⟩ ?_
    rintro ⟨m57, i57, _⟩ g57 u57 ⟨hm57, hl57, e57, q57_i, S⟩
    try dsimp only at hm57
    try dsimp only at hl57
    try dsimp only at e57
    try dsimp only at S
    try dsimp only at q57_i
    refine wc_seq (wc_seq (wc_region ?_))
    refine wd (does_mv_i q57_i) ?_
    refine wd (does_mv_l rfl) ?_
    refine wd (does_lenR sl_L_int rfl (S.rdO 0)) ?_
    refine wd (does_lt rfl rfl) ?_
    refine wl_nil ?_
    refine wc_if rfl (fun hc58 => ?_) (fun hc58 => ?_)
    rotate_left
    · refine wc_exit ?_
      have hge : (r53.length : Int) ≤ i57 := Int.not_lt.1 (of_decide_eq_false hc58)
      obtain rfl : m57 = 0 := by omega
      replace e57 := forN_0 e57
      exact ⟨rfl, (((((Dif.self _ _ _).upd rfl _).upd rfl _).upd rfl _).upd rfl _), (), e57, S⟩
    refine wc_skip ?_
    have hlt57 : i57 < (r53.length : Int) := of_decide_eq_true hc58
    obtain ⟨m57, rfl⟩ : ∃ m, m57 = m + 1 := ⟨m57 - 1, by omega⟩
    obtain ⟨q57, H, e57⟩ := forN_s e57
    unfold law11_SearchTrue.b1 at H
    try dsimp only at H
    have hb57 := (S.lenO 0)
    refine wc_seq ?_
    refine wc_block ?_
    refine wc_seq (wc_region ?_)
    refine wd (does_mv_l rfl) ?_
    refine wd (does_mv_l rfl) ?_
    refine wd (does_mv_i q57_i) ?_
    refine wd (does_indexR sl_L_int rfl rfl (S.rdO 0) (And.intro (show 0 ≤ i57 by omega) (show i57 < (r53.length : Int) from hlt57)).1 (And.intro (show 0 ≤ i57 by omega) (show i57 < (r53.length : Int) from hlt57)).2) ?_
    refine wd (does_load on_int rfl ((S.rdO 0).one (at_some (0 : Int) (And.intro (show 0 ≤ i57 by omega) (show i57 < (r53.length : Int) from hlt57))) rfl)) ?_
    obtain ⟨hi60, H⟩ := chk_ex H
    refine wd (does_indexR sl_L_bool rfl rfl (S.rdO 1) (inb_ex hi60).1 (inb_ex hi60).2) ?_
    refine wd (does_load on_bool rfl ((S.rdO 1).one (at_some false (inb_ex hi60)) rfl)) ?_
    refine wd (does_not rfl) ?_
    refine wl_nil ?_
    refine wc_if rfl (fun hc61 => ?_) (fun hc61 => ?_)
    · replace H := if_t hc61 H
      refine wc_seq (wc_region ?_)
      obtain ⟨r62, er62, H⟩ := bind_ex H
      obtain ⟨B64, MB64, SB64, back⟩ := S.calln 0 ((.z 1 rfl .nil))
      refine wl_call (does_call ca_law11_heads) (by decide) (law11_heads_st SB64 er62) ?_
      rintro _ w63 ⟨rfl, S2⟩
      replace S : St A N w w63 [oS T_int 1 IC s56 r53, oS T_bool 1 bc s23 o25.2, oT a6 r14.1, oR a7 r3.2.1, oB b2 T_Sq (Sq.C a1)] [fS 4 Nd.C s_0 a0, oTz] := back _ _ _ _ S2 rfl
      clear back S2 SB64
      refine wd (does_as_b rfl) ?_
      refine wl_nil ?_
      refine wc_ret ?_
      refine ⟨_, (rets1 (retOne_tmp rfl)), ?_⟩
      replace S : St A N w w63 [] [] := S.arr [] []
      obtain rfl := Option.some.inj H
      obtain rfl := e57
      obtain rfl := aft_r Ho57
      exact ⟨rfl, S⟩
    replace H := if_f hc61 H
    refine wc_skip ?_
    refine wc_region ?_
    refine wd (does_mv_i q57_i) ?_
    refine wd (does_addc rfl rfl (c := i57 + 1) rfl (by omega) (by omega)) ?_
    refine wd (does_as_i rfl) ?_
    refine wl_nil ?_
    obtain rfl := Option.some.inj H
    exact ⟨rfl, ((((((((((((((((Dif.self _ _ _).upd rfl _).upd rfl _).upd rfl _).upd rfl _).upd rfl _).upd rfl _).upd rfl _).upd rfl _).upd rfl _).upd rfl _).upd rfl _).upd rfl _).upd rfl _).upd rfl _).upd rfl _), (m57, i57 + 1, ()), ⟨(by dsimp only; omega), (by dsimp only; omega), e57, rfl, S⟩, by dsimp only; omega⟩
  rintro g65 u66 ⟨s57, rfl, S⟩
  have H := Ho57
  dsimp only [aft] at H
  refine wc_seq (wc_region ?_)
  refine wd (does_mv_l rfl) ?_
  refine wd (does_fieldAddr fl_Sq_goal rfl (o' := 16) rfl) ?_
  refine wd (does_load on_int rfl ((S.blk 4).cell (Sq.get_goal _))) ?_
  obtain ⟨hi67, H⟩ := chk_ex H
  refine wd (does_indexR sl_L_bool rfl rfl (S.rdO 1) (inb_ex hi67).1 (inb_ex hi67).2) ?_
  refine wd (does_load on_bool rfl ((S.rdO 1).one (at_some false (inb_ex hi67)) rfl)) ?_
  refine wd (does_mv_b rfl) ?_
  obtain ⟨r68, er68, H⟩ := bind_ex H
  refine wl_gcall (j := 5) (pol := true) rfl rfl rfl (by decide) (fun hg => does_callg ca_law11_heads rfl) (by decide) (fun hg => (have ⟨M, SS⟩ := S.lend ((.z 1 rfl .nil)); quiet (law11_heads_st SS (if_t (by simpa using hg) er68)) (fun v w' h => ⟨h.1, _, _, h.2⟩))) fun w69 hw69 => ?_
  replace S := S.ext hw69
  refine wd (does_and rfl (fun hp => (gv_yes (and_1 hp)))) ?_
  refine wd (does_as_b rfl) ?_
  refine wl_nil ?_
  refine wc_ret ?_
  refine ⟨_, (rets1 (retOne_tmp rfl)), ?_⟩
  replace S : St A N w w69 [] [] := S.arr [] []
  obtain rfl := Option.some.inj H
  exact ⟨rfl, S⟩
end Go.Proofs.YtjjkhjieegmphaaDoor
end
section
namespace Go.Proofs.YtjjkhjieegmphaaDoor
open Gw
theorem forE_find {α σ ρ : Type} {b : α → σ → Option (Stp σ ρ)} {p : α → Bool} {r : α → ρ} : ∀ (l : List α) (s : σ), (∀ x ∈ l, b x s = some (if p x then .ret (r x) else .go s)) → forE b l s = some (match l.find? p with | some x => .inr (r x) | none => .inl s)
  | [], s, _ => rfl
  | x :: l, s, h => by
    rw [forE, h x (by simp)]
    cases hp : p x with
    | true => simp [hp, List.find?_cons]
    | false => simpa [hp, List.find?_cons] using forE_find l s fun y hy => h y (by simp [hy])
theorem forN_find {σ ρ : Type} {b : Int → σ → Option (Stp σ ρ)} {p : Nat → Bool} {r : Nat → ρ} : ∀ (n i : Nat) (s : σ), (∀ j : Nat, i ≤ j → j < i + n → b j s = some (if p j then .ret (r j) else .go s)) → forN b n i s = some (match (List.range' i n).find? p with | some j => .inr (r j) | none => .inl s)
  | 0, i, s, _ => rfl
  | n + 1, i, s, h => by
    rw [forN, h i (Nat.le_refl _) (by omega), List.range'_succ]
    cases hp : p i with
    | true => simp [hp, List.find?_cons]
    | false =>
      have := forN_find n (i + 1) s fun j h1 h2 => h j (by omega) (by omega)
      simpa [hp, List.find?_cons] using this
theorem forE_two {b : Nat → List Int × List Int → Option (Stp (List Int × List Int) Empty)} {p : Nat → Bool} : ∀ (l : List Nat) (m : Nat) (x y : List Int), (∀ (j : Nat) (x y : List Int), j ∈ l → x.length ≤ 2 + 1024 → y.length ≤ 2 + 1024 → b j (x, y) = some (.go (if p j then (x ++ [(j : Int)], y ++ [13]) else (x, y)))) → x.length + l.length ≤ 2 + 1024 → y.length + l.length ≤ 2 + 1024 →
    forE b l (x, y) = some (.inl (x ++ (l.filter p).map (fun (j : Nat) => (j : Int)), y ++ (l.filter p).map fun _ => 13))
  | [], m, x, y, _, _, _ => by simp [forE]
  | j :: l, m, x, y, h, hx, hy => by
    simp only [List.length_cons] at hx hy
    rw [forE, h j x y (by simp) (by omega) (by omega)]
    cases hp : p j with
    | true =>
      have := forE_two (b := b) (p := p) l m (x ++ [(j : Int)]) (y ++ [13]) (fun i x y h1 => h i x y (by simp [h1])) (by simp; omega) (by simp; omega)
      simpa [hp] using this
    | false =>
      have := forE_two (b := b) (p := p) l m x y (fun i x y h1 => h i x y (by simp [h1])) (by omega) (by omega)
      simpa [hp] using this
theorem list_find {b : Bits} {n : Nat} (hn : n ≤ 1024) (h : ∀ j ∈ b.list, j < n) (p : Nat → Bool) : b.list.find? p = (List.range n).find? fun (j : Nat) => b.has j && p j := by
  have h1 : b.list = (List.range n).filter fun (j : Nat) => b.has j := by
    unfold Bits.list
    rw [show (1024 : Nat) = n + (1024 - n) by omega, List.range_add, List.filter_append, List.append_right_eq_self]
    refine List.filter_eq_nil_iff.2 fun x hx hb => ?_
    obtain ⟨k, hk, rfl⟩ := List.mem_map.1 hx
    have := h (n + k) (Bits.mem_list.2 ⟨by have := List.mem_range.1 hk; omega, hb⟩)
    omega
  rw [h1, List.find?_filter]
  refine congrArg (fun q => (List.range n).find? q) (funext fun a => ?_)
  cases b.has a <;> cases p a <;> simp
abbrev nd (M : List Nd) (i : Int) : Nd := (nodeS M i).1
theorem nd_at {M : List Nd} {i : Int} (h : inb i M.length = true) : at_ Nd.z M i = nd M i := by
  have h := inb_ex h
  unfold nd nodeS hasRow at_
  simp [h]
theorem node_some (M : List Nd) (i : Int) : rule_node.f (some M) i = some (nd M i) := by simp [rule_node.f, formula_Table_Node.f]
def onV (M : List Nd) (b : Bits) (i : Int) : Int :=
  if (nd M i).kind = 2 then 1 else if (nd M i).kind = 3 then 3 else if (nd M i).kind = 4 then 10 else if (nd M i).kind = 5 then
    (if (nd M (nd M i).l).kind = 1 then (if b.has (nd M i).l then 4 else 0) else if (nd M (nd M i).l).kind = 2 then 5 else if (nd M (nd M i).l).kind = 3 then 6 else if (nd M (nd M i).l).kind = 4 then 7 else if (nd M (nd M i).l).kind = 5 then 13 else 0)
  else 0
theorem on_some {M : List Nd} {s : Sq} (hb : s.left.okB = true) (i : Int) : rule_on.f (some M) s i = some (onV M s.left i) := by
  unfold rule_on.f onV
  simp only [node_some, bits_Has.f, hb, chk, Option.bind_some, decide_eq_true_eq, if_true]
  repeat (first | rfl | split)
def fitsV (M : List Nd) (s : Sq) (r i : Int) : Bool :=
  if inb i M.length = false then false else if r = 2 then decide (i = s.goal) && s.left.has i else if r = 8 then decide (i = s.goal) && decide ((nd M i).kind = 5) else if r = 9 then decide (i = s.goal) && decide ((nd M i).kind = 3)
  else if r = 11 ∨ r = 12 then decide (i = s.goal) && decide ((nd M i).kind = 4) else decide (r ≠ 0) && s.left.has i && decide (onV M s.left i = r)
theorem fits_some {M : List Nd} {s : Sq} (hb : s.left.okB = true) (r i : Int) : rule_fits.f (some M) s r i = some (fitsV M s r i) := by
  unfold rule_fits.f fitsV inb
  by_cases h0 : i < 0
  · have : ¬ 0 ≤ i := by omega
    simp [h0, this]
  · by_cases h1 : (M.length : Int) ≤ i
    · have h2 : ¬ i < M.length := by omega
      simp [h0, formula_Table_Len.f, h1, h2]
    · have h2 : i < M.length := by omega
      have h3 : 0 ≤ i := by omega
      simp only [h0, formula_Table_Len.f, h1, h2, h3, node_some, on_some hb, bits_Has.f, hb, chk, decide_false, decide_true, Bool.not_false, if_true, Option.map_some, Option.bind_some, Bool.false_or, Bool.and_self, Bool.true_eq_false, if_false, decide_eq_true_eq, Bool.false_eq_true]
      by_cases r2 : r = 2
      · simp [r2]
      by_cases r8 : r = 8
      · simp [r8]
      by_cases r9 : r = 9
      · simp [r9]
      by_cases r11 : r = 11
      · simp [r11]
      by_cases r12 : r = 12
      · simp [r12]
      simp only [r2, r8, r9, r11, r12, if_false, decide_false, Option.bind_some, or_self, Bool.false_eq_true]
      by_cases hr : r = 0
      · simp [hr]
      · cases s.left.has i <;> simp [hr]
structure Wf (M : List Nd) : Prop where
  len : M.length ≤ 1024
  nodup : M.Nodup
  kind : ∀ i : Int, inb i M.length = true → (nd M i).kind = 1 ∨ (nd M i).kind = 2 ∨ (nd M i).kind = 3 ∨ (nd M i).kind = 4 ∨ (nd M i).kind = 5
  kids : ∀ i : Int, inb i M.length = true → (nd M i).kind = 3 ∨ (nd M i).kind = 4 ∨ (nd M i).kind = 5 → (0 ≤ (nd M i).l ∧ (nd M i).l < i) ∧ 0 ≤ (nd M i).r ∧ (nd M i).r < i
theorem Wf.left {M : List Nd} (h : Wf M) {i : Int} (hi : inb i M.length = true) (hk : (nd M i).kind = 3 ∨ (nd M i).kind = 4 ∨ (nd M i).kind = 5) : inb (nd M i).l M.length = true := by
  have h1 := h.kids i hi hk
  have h2 := inb_ex hi
  simp only [inb, Bool.and_eq_true, decide_eq_true_eq]; omega
theorem Wf.right {M : List Nd} (h : Wf M) {i : Int} (hi : inb i M.length = true) (hk : (nd M i).kind = 3 ∨ (nd M i).kind = 4 ∨ (nd M i).kind = 5) : inb (nd M i).r M.length = true := by
  have h1 := h.kids i hi hk
  have h2 := inb_ex hi
  simp only [inb, Bool.and_eq_true, decide_eq_true_eq]; omega
theorem docHas (M : List Nd) (i : Int) : ref03_T_Has.f (some M) i = some (inb i M.length) := by simp [ref03_T_Has.f, chk, inb]
theorem docKind {M : List Nd} {i : Int} (hi : inb i M.length = true) : ref09_kind.f (some M) i = some (nd M i).kind := by
  simp only [ref09_kind.f, chk, Option.isSome_some, Option.getD_some, hi, if_true, nd_at hi]
theorem docFits {M : List Nd} {s : Sq} (hw : Wf M) (hb : s.left.okB = true) (r i : Int) : ref09_Fits.f (some M) s r i = some (fitsV M s r i) := by
  unfold ref09_Fits.f
  rw [docHas]
  cases hi : inb i M.length with
  | false => simp [fitsV, hi]
  | true =>
    simp only [Option.bind_some, Bool.not_true, Bool.false_eq_true, if_false, Option.isSome_some, Option.getD_some, chk, if_true, nd_at hi, ref05_Has.f, hb, hi, fitsV, Bool.true_eq_false]
    have hk := hw.kind i hi
    rcases hk with k | k | k | k | k
    · have ho : onV M s.left i = 0 := by simp [onV, k]
      by_cases r1 : r = 1
      · subst r1; cases s.left.has i <;> simp [k, ho]
      by_cases r2 : r = 2
      · subst r2; cases s.left.has i <;> simp [k, ho]
      by_cases r3 : r = 3
      · subst r3; cases s.left.has i <;> simp [k, ho]
      by_cases r4 : r = 4
      · subst r4; cases s.left.has i <;> simp [k, ho]
      by_cases r5 : r = 5
      · subst r5; cases s.left.has i <;> simp [k, ho]
      by_cases r6 : r = 6
      · subst r6; cases s.left.has i <;> simp [k, ho]
      by_cases r7 : r = 7
      · subst r7; cases s.left.has i <;> simp [k, ho]
      by_cases r8 : r = 8
      · subst r8; cases s.left.has i <;> simp [k, ho]
      by_cases r9 : r = 9
      · subst r9; cases s.left.has i <;> simp [k, ho]
      by_cases r10 : r = 10
      · subst r10; cases s.left.has i <;> simp [k, ho]
      by_cases r11 : r = 11
      · subst r11; cases s.left.has i <;> simp [k, ho]
      by_cases r12 : r = 12
      · subst r12; cases s.left.has i <;> simp [k, ho]
      by_cases r13 : r = 13
      · subst r13; cases s.left.has i <;> simp [k, ho]
      simp only [k, ho]
      simp [r1, r2, r3, r4, r5, r6, r7, r8, r9, r10, r11, r12, r13]
      try (intro h; omega)
    · have ho : onV M s.left i = 1 := by simp [onV, k]
      by_cases r1 : r = 1
      · subst r1; cases s.left.has i <;> simp [k, ho]
      by_cases r2 : r = 2
      · subst r2; cases s.left.has i <;> simp [k, ho]
      by_cases r3 : r = 3
      · subst r3; cases s.left.has i <;> simp [k, ho]
      by_cases r4 : r = 4
      · subst r4; cases s.left.has i <;> simp [k, ho]
      by_cases r5 : r = 5
      · subst r5; cases s.left.has i <;> simp [k, ho]
      by_cases r6 : r = 6
      · subst r6; cases s.left.has i <;> simp [k, ho]
      by_cases r7 : r = 7
      · subst r7; cases s.left.has i <;> simp [k, ho]
      by_cases r8 : r = 8
      · subst r8; cases s.left.has i <;> simp [k, ho]
      by_cases r9 : r = 9
      · subst r9; cases s.left.has i <;> simp [k, ho]
      by_cases r10 : r = 10
      · subst r10; cases s.left.has i <;> simp [k, ho]
      by_cases r11 : r = 11
      · subst r11; cases s.left.has i <;> simp [k, ho]
      by_cases r12 : r = 12
      · subst r12; cases s.left.has i <;> simp [k, ho]
      by_cases r13 : r = 13
      · subst r13; cases s.left.has i <;> simp [k, ho]
      have ho2 : ¬ (1 : Int) = r := by omega
      cases s.left.has i <;> simp [k, ho, ho2, r1, r2, r3, r4, r5, r6, r7, r8, r9, r10, r11, r12, r13]
      try omega
    · have ho : onV M s.left i = 3 := by simp [onV, k]
      by_cases r1 : r = 1
      · subst r1; cases s.left.has i <;> simp [k, ho]
      by_cases r2 : r = 2
      · subst r2; cases s.left.has i <;> simp [k, ho]
      by_cases r3 : r = 3
      · subst r3; cases s.left.has i <;> simp [k, ho]
      by_cases r4 : r = 4
      · subst r4; cases s.left.has i <;> simp [k, ho]
      by_cases r5 : r = 5
      · subst r5; cases s.left.has i <;> simp [k, ho]
      by_cases r6 : r = 6
      · subst r6; cases s.left.has i <;> simp [k, ho]
      by_cases r7 : r = 7
      · subst r7; cases s.left.has i <;> simp [k, ho]
      by_cases r8 : r = 8
      · subst r8; cases s.left.has i <;> simp [k, ho]
      by_cases r9 : r = 9
      · subst r9; cases s.left.has i <;> simp [k, ho]
      by_cases r10 : r = 10
      · subst r10; cases s.left.has i <;> simp [k, ho]
      by_cases r11 : r = 11
      · subst r11; cases s.left.has i <;> simp [k, ho]
      by_cases r12 : r = 12
      · subst r12; cases s.left.has i <;> simp [k, ho]
      by_cases r13 : r = 13
      · subst r13; cases s.left.has i <;> simp [k, ho]
      have ho2 : ¬ (3 : Int) = r := by omega
      cases s.left.has i <;> simp [k, ho, ho2, r1, r2, r3, r4, r5, r6, r7, r8, r9, r10, r11, r12, r13]
      try omega
    · have ho : onV M s.left i = 10 := by simp [onV, k]
      by_cases r1 : r = 1
      · subst r1; cases s.left.has i <;> simp [k, ho]
      by_cases r2 : r = 2
      · subst r2; cases s.left.has i <;> simp [k, ho]
      by_cases r3 : r = 3
      · subst r3; cases s.left.has i <;> simp [k, ho]
      by_cases r4 : r = 4
      · subst r4; cases s.left.has i <;> simp [k, ho]
      by_cases r5 : r = 5
      · subst r5; cases s.left.has i <;> simp [k, ho]
      by_cases r6 : r = 6
      · subst r6; cases s.left.has i <;> simp [k, ho]
      by_cases r7 : r = 7
      · subst r7; cases s.left.has i <;> simp [k, ho]
      by_cases r8 : r = 8
      · subst r8; cases s.left.has i <;> simp [k, ho]
      by_cases r9 : r = 9
      · subst r9; cases s.left.has i <;> simp [k, ho]
      by_cases r10 : r = 10
      · subst r10; cases s.left.has i <;> simp [k, ho]
      by_cases r11 : r = 11
      · subst r11; cases s.left.has i <;> simp [k, ho]
      by_cases r12 : r = 12
      · subst r12; cases s.left.has i <;> simp [k, ho]
      by_cases r13 : r = 13
      · subst r13; cases s.left.has i <;> simp [k, ho]
      have ho2 : ¬ (10 : Int) = r := by omega
      cases s.left.has i <;> simp [k, ho, ho2, r1, r2, r3, r4, r5, r6, r7, r8, r9, r10, r11, r12, r13]
      try omega
    · have hl := hw.left hi (.inr (.inr k))
      have hk2 := hw.kind _ hl
      rw [docKind hl]
      rcases hk2 with c | c | c | c | c
      · cases hh : s.left.has (nd M i).l with
        | true =>
          have ho : onV M s.left i = 4 := by simp [onV, k, c, hh]
          by_cases r1 : r = 1
          · subst r1; cases s.left.has i <;> simp [k, ho, c, hh]
          by_cases r2 : r = 2
          · subst r2; cases s.left.has i <;> simp [k, ho, c, hh]
          by_cases r3 : r = 3
          · subst r3; cases s.left.has i <;> simp [k, ho, c, hh]
          by_cases r4 : r = 4
          · subst r4; cases s.left.has i <;> simp [k, ho, c, hh]
          by_cases r5 : r = 5
          · subst r5; cases s.left.has i <;> simp [k, ho, c, hh]
          by_cases r6 : r = 6
          · subst r6; cases s.left.has i <;> simp [k, ho, c, hh]
          by_cases r7 : r = 7
          · subst r7; cases s.left.has i <;> simp [k, ho, c, hh]
          by_cases r8 : r = 8
          · subst r8; cases s.left.has i <;> simp [k, ho, c, hh]
          by_cases r9 : r = 9
          · subst r9; cases s.left.has i <;> simp [k, ho, c, hh]
          by_cases r10 : r = 10
          · subst r10; cases s.left.has i <;> simp [k, ho, c, hh]
          by_cases r11 : r = 11
          · subst r11; cases s.left.has i <;> simp [k, ho, c, hh]
          by_cases r12 : r = 12
          · subst r12; cases s.left.has i <;> simp [k, ho, c, hh]
          by_cases r13 : r = 13
          · subst r13; cases s.left.has i <;> simp [k, ho, c, hh]
          have ho2 : ¬ (4 : Int) = r := by omega
          cases s.left.has i <;> simp [k, ho, ho2, c, hh, r1, r2, r3, r4, r5, r6, r7, r8, r9, r10, r11, r12, r13]
          try omega
        | false =>
          have ho : onV M s.left i = 0 := by simp [onV, k, c, hh]
          by_cases r1 : r = 1
          · subst r1; cases s.left.has i <;> simp [k, ho, c, hh]
          by_cases r2 : r = 2
          · subst r2; cases s.left.has i <;> simp [k, ho, c, hh]
          by_cases r3 : r = 3
          · subst r3; cases s.left.has i <;> simp [k, ho, c, hh]
          by_cases r4 : r = 4
          · subst r4; cases s.left.has i <;> simp [k, ho, c, hh]
          by_cases r5 : r = 5
          · subst r5; cases s.left.has i <;> simp [k, ho, c, hh]
          by_cases r6 : r = 6
          · subst r6; cases s.left.has i <;> simp [k, ho, c, hh]
          by_cases r7 : r = 7
          · subst r7; cases s.left.has i <;> simp [k, ho, c, hh]
          by_cases r8 : r = 8
          · subst r8; cases s.left.has i <;> simp [k, ho, c, hh]
          by_cases r9 : r = 9
          · subst r9; cases s.left.has i <;> simp [k, ho, c, hh]
          by_cases r10 : r = 10
          · subst r10; cases s.left.has i <;> simp [k, ho, c, hh]
          by_cases r11 : r = 11
          · subst r11; cases s.left.has i <;> simp [k, ho, c, hh]
          by_cases r12 : r = 12
          · subst r12; cases s.left.has i <;> simp [k, ho, c, hh]
          by_cases r13 : r = 13
          · subst r13; cases s.left.has i <;> simp [k, ho, c, hh]
          cases s.left.has i <;> simp [k, ho, c, hh, r1, r2, r3, r4, r5, r6, r7, r8, r9, r10, r11, r12, r13]
          try omega
      · have ho : onV M s.left i = 5 := by simp [onV, k, c]
        by_cases r1 : r = 1
        · subst r1; cases s.left.has i <;> simp [k, ho, c]
        by_cases r2 : r = 2
        · subst r2; cases s.left.has i <;> simp [k, ho, c]
        by_cases r3 : r = 3
        · subst r3; cases s.left.has i <;> simp [k, ho, c]
        by_cases r4 : r = 4
        · subst r4; cases s.left.has i <;> simp [k, ho, c]
        by_cases r5 : r = 5
        · subst r5; cases s.left.has i <;> simp [k, ho, c]
        by_cases r6 : r = 6
        · subst r6; cases s.left.has i <;> simp [k, ho, c]
        by_cases r7 : r = 7
        · subst r7; cases s.left.has i <;> simp [k, ho, c]
        by_cases r8 : r = 8
        · subst r8; cases s.left.has i <;> simp [k, ho, c]
        by_cases r9 : r = 9
        · subst r9; cases s.left.has i <;> simp [k, ho, c]
        by_cases r10 : r = 10
        · subst r10; cases s.left.has i <;> simp [k, ho, c]
        by_cases r11 : r = 11
        · subst r11; cases s.left.has i <;> simp [k, ho, c]
        by_cases r12 : r = 12
        · subst r12; cases s.left.has i <;> simp [k, ho, c]
        by_cases r13 : r = 13
        · subst r13; cases s.left.has i <;> simp [k, ho, c]
        have ho2 : ¬ (5 : Int) = r := by omega
        cases s.left.has i <;> simp [k, ho, ho2, c, r1, r2, r3, r4, r5, r6, r7, r8, r9, r10, r11, r12, r13]
        try omega
      · have ho : onV M s.left i = 6 := by simp [onV, k, c]
        by_cases r1 : r = 1
        · subst r1; cases s.left.has i <;> simp [k, ho, c]
        by_cases r2 : r = 2
        · subst r2; cases s.left.has i <;> simp [k, ho, c]
        by_cases r3 : r = 3
        · subst r3; cases s.left.has i <;> simp [k, ho, c]
        by_cases r4 : r = 4
        · subst r4; cases s.left.has i <;> simp [k, ho, c]
        by_cases r5 : r = 5
        · subst r5; cases s.left.has i <;> simp [k, ho, c]
        by_cases r6 : r = 6
        · subst r6; cases s.left.has i <;> simp [k, ho, c]
        by_cases r7 : r = 7
        · subst r7; cases s.left.has i <;> simp [k, ho, c]
        by_cases r8 : r = 8
        · subst r8; cases s.left.has i <;> simp [k, ho, c]
        by_cases r9 : r = 9
        · subst r9; cases s.left.has i <;> simp [k, ho, c]
        by_cases r10 : r = 10
        · subst r10; cases s.left.has i <;> simp [k, ho, c]
        by_cases r11 : r = 11
        · subst r11; cases s.left.has i <;> simp [k, ho, c]
        by_cases r12 : r = 12
        · subst r12; cases s.left.has i <;> simp [k, ho, c]
        by_cases r13 : r = 13
        · subst r13; cases s.left.has i <;> simp [k, ho, c]
        have ho2 : ¬ (6 : Int) = r := by omega
        cases s.left.has i <;> simp [k, ho, ho2, c, r1, r2, r3, r4, r5, r6, r7, r8, r9, r10, r11, r12, r13]
        try omega
      · have ho : onV M s.left i = 7 := by simp [onV, k, c]
        by_cases r1 : r = 1
        · subst r1; cases s.left.has i <;> simp [k, ho, c]
        by_cases r2 : r = 2
        · subst r2; cases s.left.has i <;> simp [k, ho, c]
        by_cases r3 : r = 3
        · subst r3; cases s.left.has i <;> simp [k, ho, c]
        by_cases r4 : r = 4
        · subst r4; cases s.left.has i <;> simp [k, ho, c]
        by_cases r5 : r = 5
        · subst r5; cases s.left.has i <;> simp [k, ho, c]
        by_cases r6 : r = 6
        · subst r6; cases s.left.has i <;> simp [k, ho, c]
        by_cases r7 : r = 7
        · subst r7; cases s.left.has i <;> simp [k, ho, c]
        by_cases r8 : r = 8
        · subst r8; cases s.left.has i <;> simp [k, ho, c]
        by_cases r9 : r = 9
        · subst r9; cases s.left.has i <;> simp [k, ho, c]
        by_cases r10 : r = 10
        · subst r10; cases s.left.has i <;> simp [k, ho, c]
        by_cases r11 : r = 11
        · subst r11; cases s.left.has i <;> simp [k, ho, c]
        by_cases r12 : r = 12
        · subst r12; cases s.left.has i <;> simp [k, ho, c]
        by_cases r13 : r = 13
        · subst r13; cases s.left.has i <;> simp [k, ho, c]
        have ho2 : ¬ (7 : Int) = r := by omega
        cases s.left.has i <;> simp [k, ho, ho2, c, r1, r2, r3, r4, r5, r6, r7, r8, r9, r10, r11, r12, r13]
        try omega
      · have ho : onV M s.left i = 13 := by simp [onV, k, c]
        by_cases r1 : r = 1
        · subst r1; cases s.left.has i <;> simp [k, ho, c]
        by_cases r2 : r = 2
        · subst r2; cases s.left.has i <;> simp [k, ho, c]
        by_cases r3 : r = 3
        · subst r3; cases s.left.has i <;> simp [k, ho, c]
        by_cases r4 : r = 4
        · subst r4; cases s.left.has i <;> simp [k, ho, c]
        by_cases r5 : r = 5
        · subst r5; cases s.left.has i <;> simp [k, ho, c]
        by_cases r6 : r = 6
        · subst r6; cases s.left.has i <;> simp [k, ho, c]
        by_cases r7 : r = 7
        · subst r7; cases s.left.has i <;> simp [k, ho, c]
        by_cases r8 : r = 8
        · subst r8; cases s.left.has i <;> simp [k, ho, c]
        by_cases r9 : r = 9
        · subst r9; cases s.left.has i <;> simp [k, ho, c]
        by_cases r10 : r = 10
        · subst r10; cases s.left.has i <;> simp [k, ho, c]
        by_cases r11 : r = 11
        · subst r11; cases s.left.has i <;> simp [k, ho, c]
        by_cases r12 : r = 12
        · subst r12; cases s.left.has i <;> simp [k, ho, c]
        by_cases r13 : r = 13
        · subst r13; cases s.left.has i <;> simp [k, ho, c]
        have ho2 : ¬ (13 : Int) = r := by omega
        cases s.left.has i <;> simp [k, ho, ho2, c, r1, r2, r3, r4, r5, r6, r7, r8, r9, r10, r11, r12, r13]
        try omega
theorem find_congr {α : Type} {p q : α → Bool} : ∀ {l : List α}, (∀ x ∈ l, p x = q x) → l.find? p = l.find? q
  | [], _ => rfl
  | x :: l, h => by
    rw [List.find?_cons, List.find?_cons, h x (by simp), find_congr fun y hy => h y (by simp [hy])]
theorem any_find {α : Type} {p : α → Bool} : ∀ (l : List α), l.any p = (l.find? p).isSome
  | [] => rfl
  | x :: l => by
    rw [List.any_cons, List.find?_cons, any_find l]
    cases p x <;> rfl
theorem find_idx {α : Type} (l : List α) (d : α) (p : α → Bool) : l.find? p = ((List.range' 0 l.length).find? fun k => p (l.getD k d)).map fun k => l.getD k d := by
  have h : l = (List.range' 0 l.length).map fun k => l.getD k d := by
    refine List.ext_getElem? fun i => ?_
    by_cases hi : i < l.length
    · simp [hi]
    · simp [hi]
  conv => lhs; rw [h]
  rw [List.find?_map]; rfl
def firstV (M : List Nd) (s : Sq) (c : Int → Bool) : Option Nat := (List.range M.length).find? fun (j : Nat) => s.left.has j && c (onV M s.left j)
theorem firstV_some {M : List Nd} {s : Sq} {c : Int → Bool} {j : Nat} (h : firstV M s c = some j) : j < M.length ∧ s.left.has j = true ∧ c (onV M s.left j) = true := by
  have h1 := List.find?_some h
  have h2 := List.mem_of_find?_eq_some h
  simp only [Bool.and_eq_true] at h1
  exact ⟨List.mem_range.1 h2, h1.1, h1.2⟩
def applyV (M : List Nd) (s : Sq) : Int × Int :=
  match firstV M s (fun r => decide (r = 1)) with
  | some j => (1, j)
  | none => if s.left.has s.goal then (2, s.goal) else
    match firstV M s (fun r => decide (3 ≤ r) && decide (r ≤ 7)) with
    | some j => (onV M s.left j, j)
    | none => if (nd M s.goal).kind = 5 then (8, s.goal) else if (nd M s.goal).kind = 3 then (9, s.goal) else
      match firstV M s (fun r => decide (r = 10)) with
      | some j => (10, j)
      | none => (14, 0)
structure Rt (M : List Nd) (s : Sq) : Prop where
  ok : s.left.okB = true
  left : ∀ j ∈ s.left.list, j < M.length
  goal : inb s.goal M.length = true
theorem least1 {M : List Nd} {s : Sq} (hM : M.length ≤ 1024) (h : Rt M s) : rule_least__rule_apply_1_1.f (some M) s = some (match firstV M s (fun r => decide (r = 1)) with | some j => ((⟨onV M s.left j, j⟩ : Fnd), true) | none => (Fnd.z, false)) := by
  unfold rule_least__rule_apply_1_1.f
  rw [h.ok, chk, if_pos rfl, forE_find (p := fun (j : Nat) => decide (onV M s.left j = 1)) (r := fun (j : Nat) => (true, (⟨onV M s.left j, j⟩ : Fnd))), list_find hM h.left]
  · unfold firstV
    cases (List.range M.length).find? fun (j : Nat) => s.left.has j && decide (onV M s.left j = 1) <;> rfl
  · intro x _
    simp [rule_least__rule_apply_1_1.b0, on_some h.ok, rule_apply_1_1.f]
    split <;> rfl
theorem least3 {M : List Nd} {s : Sq} (hM : M.length ≤ 1024) (h : Rt M s) : rule_least__rule_apply_3_1.f (some M) s = some (match firstV M s (fun r => decide (3 ≤ r) && decide (r ≤ 7)) with | some j => ((⟨onV M s.left j, j⟩ : Fnd), true) | none => (Fnd.z, false)) := by
  unfold rule_least__rule_apply_3_1.f
  rw [h.ok, chk, if_pos rfl, forE_find (p := fun (j : Nat) => decide (3 ≤ onV M s.left j) && decide (onV M s.left j ≤ 7)) (r := fun (j : Nat) => (true, (⟨onV M s.left j, j⟩ : Fnd))), list_find hM h.left]
  · unfold firstV
    cases (List.range M.length).find? fun (j : Nat) => s.left.has j && (decide (3 ≤ onV M s.left j) && decide (onV M s.left j ≤ 7)) <;> rfl
  · intro x _
    simp [rule_least__rule_apply_3_1.b0, on_some h.ok, rule_apply_3_1.f]
    split <;> rfl
theorem least6 {M : List Nd} {s : Sq} (hM : M.length ≤ 1024) (h : Rt M s) : rule_least__rule_apply_6_1.f (some M) s = some (match firstV M s (fun r => decide (r = 10)) with | some j => ((⟨onV M s.left j, j⟩ : Fnd), true) | none => (Fnd.z, false)) := by
  unfold rule_least__rule_apply_6_1.f
  rw [h.ok, chk, if_pos rfl, forE_find (p := fun (j : Nat) => decide (onV M s.left j = 10)) (r := fun (j : Nat) => (true, (⟨onV M s.left j, j⟩ : Fnd))), list_find hM h.left]
  · unfold firstV
    cases (List.range M.length).find? fun (j : Nat) => s.left.has j && decide (onV M s.left j = 10) <;> rfl
  · intro x _
    simp [rule_least__rule_apply_6_1.b0, on_some h.ok, rule_apply_6_1.f]
    split <;> rfl
theorem apply_some {M : List Nd} {s : Sq} (hM : M.length ≤ 1024) (h : Rt M s) : rule_apply.f (some M) s = some ⟨(applyV M s).1, (applyV M s).2⟩ := by
  unfold rule_apply.f rule_apply_1.f rule_apply_2.f rule_apply_3.f rule_apply_4.f rule_apply_5.f rule_apply_6.f applyV
  simp only [least1 hM h, least3 hM h, least6 hM h, node_some, bits_Has.f, h.ok, chk, if_true, Option.bind_some]
  cases h1 : firstV M s (fun r => decide (r = 1)) with
  | some j =>
    have := (firstV_some h1).2.2
    simp only [decide_eq_true_eq] at this
    simp [this]
  | none =>
    simp only [Bool.false_eq_true, if_false]
    by_cases hg : s.left.has s.goal = true
    · simp [hg]
    simp only [hg, if_false]
    cases h3 : firstV M s (fun r => decide (3 ≤ r) && decide (r ≤ 7)) with
    | some j => simp
    | none =>
      simp only [Bool.false_eq_true, if_false]
      by_cases h5 : (nd M s.goal).kind = 5
      · simp [h5]
      by_cases h6 : (nd M s.goal).kind = 3
      · simp [h6]
      simp only [h5, h6, decide_false, Bool.false_eq_true, if_false]
      cases h10 : firstV M s (fun r => decide (r = 10)) with
      | some j =>
        have := (firstV_some h10).2.2
        simp only [decide_eq_true_eq] at this
        simp [this]
      | none => simp
end Go.Proofs.YtjjkhjieegmphaaDoor
end
section
namespace Go.Proofs.YtjjkhjieegmphaaDoor
open Gw
theorem inb_nat (j n : Nat) : inb (j : Int) n = decide (j < n) := by
  unfold inb
  rw [decide_eq_true (show 0 ≤ (j : Int) by omega), Bool.true_and, decide_eq_decide]
  omega
theorem list_eq {b : Bits} {n : Nat} (hn : n ≤ 1024) (h : ∀ j ∈ b.list, j < n) : b.list = (List.range n).filter fun (j : Nat) => b.has j := by
  unfold Bits.list
  rw [show (1024 : Nat) = n + (1024 - n) by omega, List.range_add, List.filter_append, List.append_right_eq_self]
  refine List.filter_eq_nil_iff.2 fun x hx hb => ?_
  obtain ⟨k, hk, rfl⟩ := List.mem_map.1 hx
  have := h (n + k) (Bits.mem_list.2 ⟨by have := List.mem_range.1 hk; omega, hb⟩)
  omega
def lookV (M : List Nd) (s : Sq) : Bool := (s.left.list.all fun j => decide (j < M.length)) && inb s.goal M.length
theorem lookV_rt {M : List Nd} {s : Sq} (hb : s.left.okB = true) (h : lookV M s = true) : Rt M s := by
  simp only [lookV, Bool.and_eq_true, List.all_eq_true, decide_eq_true_eq] at h
  exact ⟨hb, h.1, h.2⟩
theorem look_some {M : List Nd} {s : Sq} (hb : s.left.okB = true) : rule_look.f (some M) s = some (if lookV M s then 0 else 31) := by
  unfold rule_look.f
  simp only [formula_Table_Not_neg.f, Option.bind_some, hb, chk, if_true, show (decide ((31 : Int) = 1)) = false from rfl, Bool.false_eq_true, if_false]
  rw [forE_find (p := fun (j : Nat) => decide ((M.length : Int) ≤ (j : Int))) (r := fun _ => (31 : Int))]
  · have ha : (s.left.list.all fun j => decide (j < M.length)) = !(s.left.list.find? fun (j : Nat) => decide ((M.length : Int) ≤ (j : Int))).isSome := by
      rw [← any_find, List.all_eq_not_any_not]
      congr 2
      funext j
      by_cases hj : j < M.length
      · have : ¬ (M.length : Int) ≤ j := by omega
        simp [hj, this]
      · have : (M.length : Int) ≤ j := by omega
        simp [hj, this]
    unfold lookV
    rw [ha]
    cases s.left.list.find? fun (j : Nat) => decide ((M.length : Int) ≤ (j : Int)) with
    | some j => simp [fin]
    | none =>
      simp only [Option.bind_some, fin, Option.isSome_none, Bool.not_false, Bool.true_and, formula_Table_Len.f, Option.map_some]
      by_cases h0 : s.goal < 0
      · have h1 : ¬ 0 ≤ s.goal := by omega
        simp [h0, inb, h1]
      · have h1 : 0 ≤ s.goal := by omega
        by_cases h2 : (M.length : Int) ≤ s.goal
        · have h3 : ¬ s.goal < M.length := by omega
          simp [h0, inb, h1, h2, h3]
        · have h3 : s.goal < M.length := by omega
          simp [h0, inb, h1, h2, h3]
  · intro x _
    simp only [rule_look.b0, formula_Table_Len.f, Option.map_some, Option.bind_some]
    split <;> rfl
theorem docRight {M : List Nd} {s : Sq} (hb : s.left.okB = true) : ref09_Right.f (some M) s = some (lookV M s) := by
  unfold ref09_Right.f
  simp only [ref05_List.f, hb, chk, if_true, Option.bind_some]
  generalize hl : s.left.list.map (fun (n : Nat) => (n : Int)) = l
  have h1 := forN_find (b := fun i s_1 => ref09_Right.b0 (some M) l i) (p := fun k => !inb (l.getD k 0) M.length) (r := fun _ => false) l.length 0 () (by
    intro k _ hk
    unfold ref09_Right.b0 at_
    rw [Int.toNat_natCast, docHas]
    simp only [Option.bind_some]
    split <;> rfl)
  have e0 : (((l.length : Nat) : Int) - 0).toNat = l.length := by omega
  rw [e0, show (0 : Int) = ((0 : Nat) : Int) from rfl, h1, docHas]
  have ha : (s.left.list.all fun j => decide (j < M.length)) = !((List.range' 0 l.length).find? fun k => !inb (l.getD k 0) M.length).isSome := by
    have h2 := find_idx l 0 (fun i => !inb i M.length)
    have h3 : (l.find? fun i => !inb i M.length).isSome = ((List.range' 0 l.length).find? fun k => !inb (l.getD k 0) M.length).isSome := by rw [h2]; simp
    rw [← h3, ← any_find, ← hl, List.any_map, List.all_eq_not_any_not]
    refine congrArg (fun q => !s.left.list.any q) (funext fun j => ?_)
    show (!decide (j < M.length)) = !inb (j : Int) M.length
    rw [inb_nat]
  unfold lookV
  rw [ha]
  cases (List.range' 0 l.length).find? fun k => !inb (l.getD k 0) M.length <;> simp [aft]
def choicesV (M : List Nd) (s : Sq) : List Int × List Int :=
  if (applyV M s).1 = 14 then
    ((if (nd M s.goal).kind = 4 then [11, 12] else []) ++ ((List.range M.length).filter fun (j : Nat) => s.left.has j && decide (onV M s.left j = 13)).map (fun _ => 13),
     (if (nd M s.goal).kind = 4 then [s.goal, s.goal] else []) ++ ((List.range M.length).filter fun (j : Nat) => s.left.has j && decide (onV M s.left j = 13)).map fun (j : Nat) => (j : Int))
  else ([], [])
theorem choices_some {M : List Nd} {s : Sq} (hM : M.length ≤ 1024) (hl : lookV M s = true) (hb : s.left.okB = true) : rule_Choices.f (some M) s = some ((choicesV M s).1, (choicesV M s).2, 0) := by
  have h := lookV_rt hb hl
  unfold rule_Choices.f choicesV
  simp only [look_some hb, hl, if_true, Option.bind_some, apply_some hM h, node_some, decide_eq_true_eq, ne_eq, not_true_eq_false, decide_false, Bool.false_eq_true, if_false]
  by_cases h14 : (applyV M s).1 = 14
  · simp only [h14, not_true_eq_false, if_false, if_true]
    have hll : s.left.list.length ≤ 1024 := by
      unfold Bits.list
      exact Nat.le_trans (List.length_filter_le _ _) (by simp)
    have key : ∀ x y : List Int, x.length ≤ 2 → y.length ≤ 2 → forE (fun (x : Nat) (s_1 : List Int × List Int) => rule_Choices.b0 (some M) s (x : Int) s_1.1 s_1.2) s.left.list (x, y) =
        some (.inl (x ++ (s.left.list.filter fun (j : Nat) => decide (onV M s.left j = 13)).map (fun (j : Nat) => (j : Int)), y ++ (s.left.list.filter fun (j : Nat) => decide (onV M s.left j = 13)).map fun _ => 13)) := by
      intro x y hx hy
      refine forE_two _ 0 x y (fun j x y hj h1 h2 => ?_) (by omega) (by omega)
      unfold rule_Choices.b0
      simp only [on_some hb, Option.bind_some, chk, List.length_cons, List.length_nil, decide_eq_true_eq]
      by_cases h13 : onV M s.left j = 13
      · have e1 : (x.length + (0 + 1)) * 8 ≤ 140737488355328 := by omega
        have e2 : (y.length + (0 + 1)) * 8 ≤ 140737488355328 := by omega
        simp only [h13, e1, e2, decide_true, if_true]
      · simp only [h13, decide_false, if_false, Bool.false_eq_true]
    have hf : (s.left.list.filter fun (j : Nat) => decide (onV M s.left j = 13)) = (List.range M.length).filter fun (j : Nat) => s.left.has j && decide (onV M s.left j = 13) := by
      rw [list_eq hM h.left, List.filter_filter]
      exact congrArg (fun q => (List.range M.length).filter q) (funext fun j => Bool.and_comm _ _)
    by_cases h4 : (nd M s.goal).kind = 4
    · simp only [h4, if_true, chk, List.length_nil, List.length_cons, Option.bind_some, hb, List.nil_append]
      simp only [show decide ((0 + (0 + 1 + 1)) * 8 ≤ 140737488355328) = true from rfl, if_true]
      simp only [Option.bind_some]
      rw [key _ _ (by simp) (by simp), hf]
      simp [fin]
    · simp only [h4, if_false, Option.bind_some, hb, chk, if_true]
      rw [key _ _ (by simp) (by simp), hf]
      simp [fin]
  · simp [h14]
end Go.Proofs.YtjjkhjieegmphaaDoor
end
section
namespace Go.Proofs.YtjjkhjieegmphaaDoor
open Gw
end Go.Proofs.YtjjkhjieegmphaaDoor
end
