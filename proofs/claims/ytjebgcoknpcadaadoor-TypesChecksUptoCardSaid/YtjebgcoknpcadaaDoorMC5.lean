/- TypesChecks, where what it reads is of the bulk that the row names: the row's statement and its card. The variable errors.errorType reads as the program lays it. Printed by card13.py, a program of mine. -/
import Derived.Test.YtjebgcoknpcadaaDoorMC4
import Derived.Test.YtjebgcoknpcadaaDoorCards
import Derived.Test.YtjebgcoknpcadaaDoorTie
import Derived.WalkKit
import Derived.ProofKit
import Derived.OpenShut
import Derived.Deep.DeepHandedRow
import Derived.Deep.Slices
import Derived.LaidHandle
set_option linter.unusedVariables false
set_option linter.unusedSimpArgs false
section
namespace Go.Proofs.YtjebgcoknpcadaaDoor
open Gw Go.RowKit
set_option maxHeartbeats 4000000
set_option maxRecDepth 20000
theorem ref13_Infer_st {A : Nat → Prop} {N : Oth} {w : World} {a0 : Tb} {a_0 : Option Addr} {a1 : List Hyp} {s_1 : SlV} {a2 : PTerm} {s_2 : SlV} (S : St A N w w [oR a_0 a0] [fS 2 Hyp.C s_1 a1, oDTerm s_2 a2.sub]) {k : Nat} {r : Tb × Int × Int} (H : ref13_Infer.f k a0 a1 a2 = some r) :
  Calls PP F_ref13_Infer #[.pointer a_0, s_1.v, .agg (Term.C (⟨a2.kind, a2.name, a2.other, a2.form, s_2⟩ : Term)).toArray] w fun e w' => ∃ v, e = .returned v ∧ (v = .tuple #[.int .i64 r.2.1, .int .i64 r.2.2] ∧ St A N w w' [oR a_0 r.1] []) := by
 unfold ref13_Infer.f at H
 refine calls_of_wc (n := 23) fn_ref13_Infer rfl rfl (by simp) ?_
 refine wc_seq (wc_region ?_)
 refine wl_box_agg rfl (by decide) fun b2 w1 hw1 => ?_
 replace S : St A N w w1 [oB b2 T_Term (Term.C (⟨a2.kind, a2.name, a2.other, a2.form, s_2⟩ : Term)), oR a_0 a0] [fS 2 Hyp.C s_1 a1, oDTerm s_2 a2.sub] := S.new hw1
 refine wd (does_as_i rfl) ?_
 refine wd (does_as_i rfl) ?_
 refine wl_nil ?_
 refine wc_seq (wc_region ?_)
 refine wd (does_mv_p rfl) ?_
 refine wd (does_mv_l rfl) ?_
 refine wd (does_load_agg ag_Term rfl ((S.blk 0).all _ (Term.len _)) (Term.len _)) ?_
 obtain ⟨r3, er3, H⟩ := bind_ex H
 obtain ⟨B5, MB5, SB5, back⟩ := S.calln 0 ((.o 1 rfl (.z 0 rfl (.z 1 rfl .nil))))
 refine wl_call (does_call ca_ref13_ahead) (by decide) (ref13_ahead_st (a2 := a2) SB5 er3) ?_
 rintro _ w4 ⟨rfl, S2⟩
 replace S : St A N w w4 [oB b2 T_Term (Term.C (⟨a2.kind, a2.name, a2.other, a2.form, s_2⟩ : Term)), oR a_0 a0] [fS 2 Hyp.C s_1 a1, oDTerm s_2 a2.sub] := back _ _ _ _ S2 rfl
 clear back S2 SB5
 refine wd (does_as_i rfl) ?_
 refine wl_nil ?_
 refine wc_seq (wc_seq (wc_region ?_))
 refine wd (does_mv_i rfl) ?_
 refine wd (does_ne rfl rfl) ?_
 refine wl_nil ?_
 refine wc_if rfl (fun hc6 => ?_) (fun hc6 => ?_)
 ·replace H := if_t hc6 H
  refine wc_seq (wc_region ?_)
  refine wd (does_mv_i rfl) ?_
  refine wd (does_as_i rfl) ?_
  refine wd (does_as_i rfl) ?_
  refine wl_nil ?_
  refine wc_ret ?_
  refine ⟨_, (rets2 (retOne_tmp rfl) (retOne_tmp rfl)), ?_⟩
  replace S : St A N w w4 [oR a_0 a0] [] := S.arr [1] []
  obtain rfl := Option.some.inj H
  exact ⟨rfl, S⟩
 replace H := if_f hc6 H
 refine wc_skip ?_
 refine wc_seq ?_
 refine wc_ws hmix fun w10 K => ?_
 replace S := S.ext K
 clear K
 obtain ⟨r13, er13, H⟩ := bind_ex H
 refine ws_semi 0 4 [2] (by kernel_rfl) (by decide) (by kernel_rfl)
  (V := fun i v u => match i with
  | 2 => ∃ b s1, v = Value.pointer (some ⟨b, 0, none⟩) ∧ ∃ F, ((oB b T_RC (RC.C ⟨a_0, s1, SlV.nil, SlV.nil⟩)).star (oS T_Hyp 2 Hyp.C s1 r13.hyps)).holds u F ∧ ∀ i, F i → w10.heap.size ≤ i
  | _ => True) ?_ ?_
 ·intro i v u u' hi hx hv
  match i, hv with
  | 2, ⟨b, s1, e1, F, hb, hl⟩ => exact ⟨b, s1, e1, F, OA.loc _ hb hx (fun _ _ x => x), hl⟩
  | 0, _ => exact trivial
  | 1, _ => exact trivial
  | _ + 3, _ => exact trivial
 refine wm_does (fun v K => does_mv_p rfl) rfl ?_
 refine wm_does (fun v K => does_mv_l rfl) rfl ?_
 refine wm_newcall (fun g v K G => (have ⟨M, SS⟩ := (S.ext K).lend ((.z 0 rfl .nil)); ⟨_, _, does_callg ca_ref13_checker (cons2 rfl (cons2 rfl rfl)), newc (ref13_checker_raw SS a_0 er13) fun _ _ ⟨b, s1, hv, h⟩ => ⟨h.frame, b, s1, hv, h.newP.elim fun F hF => ⟨F, hF.1, fun i hi => by have := hF.2 i hi; have := K.size; omega⟩⟩⟩)) rfl ?_
 refine wm_does (fun v K => does_load_agg ag_Term rfl (((S.ext K).blk 0).all _ (Term.len _)) (Term.len _)) rfl ?_
 refine wm_nil fun g w14 K hV => ?_
 obtain ⟨b11, s12, hv152, F2, hb2, hf2⟩ := hV 2 rfl (by decide)
 replace S : St A N w w14 [((oB b11 T_RC (RC.C ⟨a_0, s12, SlV.nil, SlV.nil⟩)).star (oS T_Hyp 2 Hyp.C s12 r13.hyps)), oB b2 T_Term (Term.C (⟨a2.kind, a2.name, a2.other, a2.form, s_2⟩ : Term)), oR a_0 a0] [fS 2 Hyp.C s_1 a1, oDTerm s_2 a2.sub] := S.add (b := ((oB b11 T_RC (RC.C ⟨a_0, s12, SlV.nil, SlV.nil⟩)).star (oS T_Hyp 2 Hyp.C s12 r13.hyps))) K hb2 hf2
 replace S := S.front 2
 replace S := S.front 1
 replace S : St A N w w14 [oC (some ⟨b11, 0, none⟩) a_0 r13, oB b2 T_Term (Term.C (⟨a2.kind, a2.name, a2.other, a2.form, s_2⟩ : Term))] [fS 2 Hyp.C s_1 a1, oDTerm s_2 a2.sub] := S.mkC (checker_facts er13)
 clear K hV
 refine ws_chain 4 5 (by kernel_rfl) (by decide) ?_
 obtain ⟨r16, er16, H⟩ := bind_ex H
 obtain ⟨B18, MB18, SB18, back⟩ := S.calln 1 ((.z 1 rfl .nil))
 refine wl_call (does_callg ca_ref13_C_Told (cons2 hv152 (cons2 rfl rfl))) (by decide) (ref13_C_Told_st (a1 := a2) SB18 er16) ?_
 rintro _ w17 ⟨rfl, S2⟩
 replace S : St A N w w17 [oC (some ⟨b11, 0, none⟩) a_0 r16.1, oB b2 T_Term (Term.C (⟨a2.kind, a2.name, a2.other, a2.form, s_2⟩ : Term))] [fS 2 Hyp.C s_1 a1, oDTerm s_2 a2.sub] := back _ _ _ _ S2 rfl
 clear back S2 SB18
 refine wl_nil ⟨rfl, ?_⟩
 refine ws_semi 5 7 [] (by kernel_rfl) (by decide) (by kernel_rfl)
  (V := fun i v u => match i with
  | _ => True) ?_ ?_
 ·intro i v u u' hi hx hv
  match i, hv with
  | _, _ => exact trivial
 refine wm_does (fun v K => does_extract rfl rfl) rfl ?_
 refine wm_does (fun v K => does_extract rfl rfl) rfl ?_
 refine wm_nil fun g w19 K hV => ?_
 replace S := S.ext K
 clear K hV
 refine ws_tail 7 (by kernel_rfl) (by decide) ?_
 refine wd (does_as_i rfl) ?_
 refine wd (does_as_i rfl) ?_
 refine wl_nil ?_
 refine wc_ret ?_
 obtain ⟨p21, s23, s24, s25, hp22, S⟩ := S.open_oC 0
 replace S : St A N w w19 [oB p21 T_RC (RC.C (⟨a_0, s23, s24, s25⟩ : RC)), oR a_0 r16.1.t, oS T_Hyp 2 Hyp.C s23 r16.1.hyps, oS T_int 1 IC s24 r16.1.way, oS T_int 1 IC s25 r16.1.wrong, oB b2 T_Term (Term.C (⟨a2.kind, a2.name, a2.other, a2.form, s_2⟩ : Term))] [fS 2 Hyp.C s_1 a1, oDTerm s_2 a2.sub] := S
 refine ⟨_, (rets2 (retOne_tmp rfl) (retOne_tmp rfl)), ?_⟩
 replace S : St A N w w19 [oR a_0 r16.1.t] [] := S.arr [1] []
 obtain rfl := Option.some.inj H
 exact ⟨rfl, S⟩
end Go.Proofs.YtjebgcoknpcadaaDoor
end
section
namespace Go.Proofs.YtjebgcoknpcadaaDoor
open Gw Go.RowKit
set_option maxHeartbeats 4000000
set_option maxRecDepth 20000
theorem law13_TypesChecks_st {A : Nat → Prop} {N : Oth} {w : World} {a0 : List Nd} {s_0 : SlV} {a1 : List Hyp} {s_1 : SlV} {a2 : PTerm} {s_2 : SlV} {a3 : Int} (S : St A N w w [] [fS 4 Nd.C s_0 a0, fS 2 Hyp.C s_1 a1, oDTerm s_2 a2.sub, oEt]) {k : Nat} {r : Bool} (H : law13_TypesChecks.f k a0 a1 a2 a3 = some r) :
  Calls PP F_law13_TypesChecks #[s_0.v, s_1.v, .agg (Term.C (⟨a2.kind, a2.name, a2.other, a2.form, s_2⟩ : Term)).toArray, .int .i64 a3] w fun e w' => ∃ v, e = .returned v ∧ (v = .bool r ∧ St A N w w' [] []) := by
 unfold law13_TypesChecks.f at H
 refine calls_of_wc (n := 115) fn_law13_TypesChecks rfl rfl (by simp) ?_
 refine wc_seq (wc_region ?_)
 refine wl_box_agg rfl (by decide) fun b2 w1 hw1 => ?_
 replace S : St A N w w1 [oB b2 T_Term (Term.C (⟨a2.kind, a2.name, a2.other, a2.form, s_2⟩ : Term))] [fS 4 Nd.C s_0 a0, fS 2 Hyp.C s_1 a1, oDTerm s_2 a2.sub, oEt] := S.new hw1
 refine wd (does_as_b rfl) ?_
 refine wl_nil ?_
 refine wc_seq (wc_region ?_)
 refine wd (does_mv_l rfl) ?_
 obtain ⟨r3, er3, H⟩ := bind_ex H
 obtain ⟨B5, MB5, SB5, back⟩ := S.calln 0 ((.z 0 rfl .nil))
 refine wl_call (does_call ca_law03_Both) (by decide) (law03_Both_st SB5 er3) ?_
 rintro _ w4 ⟨a6, a7, rfl, S2⟩
 replace S : St A N w w4 [oT a6 r3.1, oR a7 r3.2.1, oB b2 T_Term (Term.C (⟨a2.kind, a2.name, a2.other, a2.form, s_2⟩ : Term))] [fS 4 Nd.C s_0 a0, fS 2 Hyp.C s_1 a1, oDTerm s_2 a2.sub, oEt] := back _ _ _ _ S2 rfl
 clear back S2 SB5
 refine wd (does_mv_t rfl) ?_
 refine wd (does_extract rfl rfl) ?_
 refine wd (does_extract rfl rfl) ?_
 refine wd (does_extract rfl rfl) ?_
 refine wd (does_as_p rfl) ?_
 refine wd (does_as_p rfl) ?_
 refine wd (does_as_b rfl) ?_
 refine wl_nil ?_
 refine wc_seq (wc_seq (wc_region ?_))
 refine wd (does_mv_b rfl) ?_
 refine wd (does_not rfl) ?_
 refine wl_nil ?_
 refine wc_if rfl (fun hc8 => ?_) (fun hc8 => ?_)
 ·replace H := if_t hc8 H
  refine wc_seq (wc_region ?_)
  obtain ⟨r9, er9, H⟩ := bind_ex H
  obtain ⟨B11, MB11, SB11, back⟩ := S.calln 0 ((.z 3 rfl .nil))
  refine wl_call (does_call ca_law13_heads) (by decide) (law13_heads_st SB11 er9) ?_
  rintro _ w10 ⟨rfl, S2⟩
  replace S : St A N w w10 [oT a6 r3.1, oR a7 r3.2.1, oB b2 T_Term (Term.C (⟨a2.kind, a2.name, a2.other, a2.form, s_2⟩ : Term))] [fS 4 Nd.C s_0 a0, fS 2 Hyp.C s_1 a1, oDTerm s_2 a2.sub, oEt] := back _ _ _ _ S2 rfl
  clear back S2 SB11
  refine wd (does_as_b rfl) ?_
  refine wl_nil ?_
  refine wc_ret ?_
  refine ⟨_, (rets1 (retOne_tmp rfl)), ?_⟩
  replace S : St A N w w10 [] [] := S.arr [] []
  obtain rfl := Option.some.inj H
  exact ⟨rfl, S⟩
 replace H := if_f hc8 H
 refine wc_skip ?_
 refine wc_seq (wc_region ?_)
 refine wl_lits (C := Hyp.C) (l := ([] : List Hyp)) (vs := []) sl_L_api_Hyp el_Hyp.zero rfl rfl (fun a _ => Hyp.len a) (by decide) rfl (by decide) fun b13 w12 s14 hBw12 hw12 => ?_
 replace S : St A N w w12 [oS T_Hyp 2 Hyp.C s14 ([] : List Hyp), oT a6 r3.1, oR a7 r3.2.1, oB b2 T_Term (Term.C (⟨a2.kind, a2.name, a2.other, a2.form, s_2⟩ : Term))] [fS 4 Nd.C s_0 a0, fS 2 Hyp.C s_1 a1, oDTerm s_2 a2.sub, oEt] := S.lit hBw12 hw12 (by simp)
 refine wd (does_mv_l rfl) ?_
 obtain ⟨ha17, H⟩ := chk_ex H
 have ha17 := of_decide_eq_true ha17
 refine wl_appendm (C := Hyp.C) sl_L_api_Hyp el_Hyp rfl rfl (S.sl 0) (S.rd 1) Hyp.one ha17 (by omega) (by decide) fun s16 w15 O hw15 gw15 => ?_
 replace S : St A N w w15 [oS T_Hyp 2 Hyp.C s16 (([] : List Hyp) ++ a1), oT a6 r3.1, oR a7 r3.2.1, oB b2 T_Term (Term.C (⟨a2.kind, a2.name, a2.other, a2.form, s_2⟩ : Term))] [fS 4 Nd.C s_0 a0, fS 2 Hyp.C s_1 a1, oDTerm s_2 a2.sub, oEt] := S.push 0 O (by first | (simp; done) | (simp; omega)) hw15 gw15
 clear O
 refine wd (does_as_l rfl) ?_
 refine wl_nil ?_
 refine wc_seq (wc_region ?_)
 refine wd (does_mv_p rfl) ?_
 refine wd (does_mv_l rfl) ?_
 refine wd (does_load_agg ag_Term rfl ((S.blk 3).all _ (Term.len _)) (Term.len _)) ?_
 refine wd (does_mv_i rfl) ?_
 obtain ⟨r18, er18, H⟩ := bind_ex H
 obtain ⟨B20, MB20, SB20, back⟩ := S.calln 0 ((.o 1 rfl (.s 0 rfl (.z 2 rfl (.z 3 rfl .nil)))))
 refine wl_call (does_call ca_types_Check) (by decide) (types_Check_st (a2 := a2) SB20 er18) ?_
 rintro _ w19 ⟨rfl, S2⟩
 replace S : St A N w w19 [oS T_Hyp 2 Hyp.C s16 (([] : List Hyp) ++ a1), oT a6 r3.1, oR a7 r3.2.1, oB b2 T_Term (Term.C (⟨a2.kind, a2.name, a2.other, a2.form, s_2⟩ : Term))] [fS 4 Nd.C s_0 a0, fS 2 Hyp.C s_1 a1, oDTerm s_2 a2.sub, oEt] := back _ _ _ _ S2 rfl
 clear back S2 SB20
 refine wd (does_as_i rfl) ?_
 refine wl_nil ?_
 refine wc_seq (wc_region ?_)
 refine wd (does_mv_p rfl) ?_
 refine wd (does_mv_l rfl) ?_
 refine wd (does_load_agg ag_Term rfl ((S.blk 3).all _ (Term.len _)) (Term.len _)) ?_
 obtain ⟨r21, er21, H⟩ := bind_ex H
 obtain ⟨B23, MB23, SB23, back⟩ := S.calln 0 ((.o 1 rfl (.s 0 rfl (.z 2 rfl (.z 3 rfl .nil)))))
 refine wl_call (does_call ca_types_Infer) (by decide) (types_Infer_st (a2 := a2) SB23 er21) ?_
 rintro _ w22 ⟨rfl, S2⟩
 replace S : St A N w w22 [oS T_Hyp 2 Hyp.C s16 (([] : List Hyp) ++ a1), oT a6 r3.1, oR a7 r3.2.1, oB b2 T_Term (Term.C (⟨a2.kind, a2.name, a2.other, a2.form, s_2⟩ : Term))] [fS 4 Nd.C s_0 a0, fS 2 Hyp.C s_1 a1, oDTerm s_2 a2.sub, oEt] := back _ _ _ _ S2 rfl
 clear back S2 SB23
 refine wd (does_mv_t rfl) ?_
 refine wd (does_extract rfl rfl) ?_
 refine wd (does_extract rfl rfl) ?_
 refine wd (does_as_i rfl) ?_
 refine wd (does_as_i rfl) ?_
 refine wl_nil ?_
 refine wc_seq (wc_region ?_)
 refine wd (does_mv_p rfl) ?_
 refine wd (does_mv_l rfl) ?_
 refine wd (does_load_agg ag_Term rfl ((S.blk 3).all _ (Term.len _)) (Term.len _)) ?_
 refine wd (does_mv_i rfl) ?_
 obtain ⟨r24, er24, H⟩ := bind_ex H
 obtain ⟨B26, MB26, SB26, back⟩ := S.calln 0 ((.o 1 rfl (.s 0 rfl (.z 2 rfl (.z 3 rfl .nil)))))
 refine wl_call (does_call ca_types_Where) (by decide) (types_Where_st (a2 := a2) SB26 er24) ?_
 rintro _ w25 ⟨s27, rfl, S2⟩
 replace S : St A N w w25 [oS T_int 1 IC s27 r24.1, oS T_Hyp 2 Hyp.C s16 (([] : List Hyp) ++ a1), oT a6 r3.1, oR a7 r3.2.1, oB b2 T_Term (Term.C (⟨a2.kind, a2.name, a2.other, a2.form, s_2⟩ : Term))] [fS 4 Nd.C s_0 a0, fS 2 Hyp.C s_1 a1, oDTerm s_2 a2.sub, oEt] := back _ _ _ _ S2 rfl
 clear back S2 SB26
 refine wd (does_mv_t rfl) ?_
 refine wd (does_extract rfl rfl) ?_
 refine wd (does_extract rfl rfl) ?_
 refine wd (does_as_l rfl) ?_
 refine wd (does_as_i rfl) ?_
 refine wl_nil ?_
 refine wc_seq (wc_region ?_)
 refine wd (does_mv_p rfl) ?_
 refine wd (does_mv_l rfl) ?_
 refine wd (does_load_agg ag_Term rfl ((S.blk 4).all _ (Term.len _)) (Term.len _)) ?_
 refine wd (does_mv_i rfl) ?_
 obtain ⟨r28, er28, H⟩ := bind_ex H
 replace S : St A N w w25 [oR a7 r3.2.1, oS T_int 1 IC s27 r24.1, oS T_Hyp 2 Hyp.C s16 (([] : List Hyp) ++ a1), oT a6 r3.1, oB b2 T_Term (Term.C (⟨a2.kind, a2.name, a2.other, a2.form, s_2⟩ : Term))] [fS 4 Nd.C s_0 a0, fS 2 Hyp.C s_1 a1, oDTerm s_2 a2.sub, oEt] := S.front 3
 obtain ⟨B30, MB30, SB30, back⟩ := S.calln 1 ((.z 1 rfl (.z 2 rfl .nil)))
 refine wl_call (does_call ca_ref13_Where) (by decide) (ref13_Where_st (a2 := a2) SB30 er28) ?_
 rintro _ w29 ⟨s31, rfl, S2⟩
 replace S : St A N w w29 [oR a7 r28.1, oS T_int 1 IC s31 r28.2.1, oS T_int 1 IC s27 r24.1, oS T_Hyp 2 Hyp.C s16 (([] : List Hyp) ++ a1), oT a6 r3.1, oB b2 T_Term (Term.C (⟨a2.kind, a2.name, a2.other, a2.form, s_2⟩ : Term))] [fS 4 Nd.C s_0 a0, fS 2 Hyp.C s_1 a1, oDTerm s_2 a2.sub, oEt] := back _ _ _ _ S2 rfl
 clear back S2 SB30
 refine wd (does_mv_t rfl) ?_
 refine wd (does_extract rfl rfl) ?_
 refine wd (does_extract rfl rfl) ?_
 refine wd (does_as_l rfl) ?_
 refine wd (does_as_i rfl) ?_
 refine wl_nil ?_
 refine wc_seq (wc_region ?_)
 refine wd (does_mv_p rfl) ?_
 refine wd (does_mv_l rfl) ?_
 refine wd (does_load_agg ag_Term rfl ((S.blk 5).all _ (Term.len _)) (Term.len _)) ?_
 obtain ⟨r32, er32, H⟩ := bind_ex H
 obtain ⟨B34, MB34, SB34, back⟩ := S.calln 1 ((.z 1 rfl (.z 2 rfl .nil)))
 refine wl_call (does_call ca_ref13_Infer) (by decide) (ref13_Infer_st (a2 := a2) SB34 er32) ?_
 rintro _ w33 ⟨rfl, S2⟩
 replace S : St A N w w33 [oR a7 r32.1, oS T_int 1 IC s31 r28.2.1, oS T_int 1 IC s27 r24.1, oS T_Hyp 2 Hyp.C s16 (([] : List Hyp) ++ a1), oT a6 r3.1, oB b2 T_Term (Term.C (⟨a2.kind, a2.name, a2.other, a2.form, s_2⟩ : Term))] [fS 4 Nd.C s_0 a0, fS 2 Hyp.C s_1 a1, oDTerm s_2 a2.sub, oEt] := back _ _ _ _ S2 rfl
 clear back S2 SB34
 refine wd (does_mv_t rfl) ?_
 refine wd (does_extract rfl rfl) ?_
 refine wd (does_extract rfl rfl) ?_
 refine wd (does_as_i rfl) ?_
 refine wd (does_as_i rfl) ?_
 refine wl_nil ?_
 refine wc_seq (wc_seq (wc_region ?_))
 refine wd (does_mv_i rfl) ?_
 refine wd (does_mv_i rfl) ?_
 refine wd (does_ne rfl rfl) ?_
 refine wd (does_mv_b rfl) ?_
 refine wl_guard (j := 3) (pol := false) rfl rfl rfl (by decide) (fun hg => does_mv_i rfl) (by decide) ?_
 refine wl_guard (j := 3) (pol := false) rfl rfl rfl (by decide) (fun hg => does_mv_i rfl) (by decide) ?_
 refine wl_guard (j := 3) (pol := false) rfl rfl rfl (by decide) (fun hg => does_ne (gv_yes hg) (gv_yes hg)) (by decide) ?_
 refine wd (does_or rfl (fun hp => (gv_yes (and_1 hp)))) ?_
 refine wd (does_mv_b rfl) ?_
 refine wl_guard (j := 8) (pol := false) rfl rfl rfl (by decide) (fun hg => does_mv_i rfl) (by decide) ?_
 refine wl_guard (j := 8) (pol := false) rfl rfl rfl (by decide) (fun hg => does_mv_i rfl) (by decide) ?_
 refine wl_guard (j := 8) (pol := false) rfl rfl rfl (by decide) (fun hg => does_ne (gv_yes hg) (gv_yes hg)) (by decide) ?_
 refine wd (does_or rfl (fun hp => (gv_yes (and_1 hp)))) ?_
 refine wd (does_mv_b rfl) ?_
 refine wl_guard (j := 13) (pol := false) rfl rfl rfl (by decide) (fun hg => does_mv_l rfl) (by decide) ?_
 refine wl_guard (j := 13) (pol := false) rfl rfl rfl (by decide) (fun hg => does_mv_l rfl) (by decide) ?_
 obtain ⟨r35, er35, H⟩ := bind_ex H
 refine wl_gcall (j := 13) (pol := false) rfl rfl rfl (by decide) (fun hg => does_callg ca_ref03_Ints (cons2 (gv_yes hg) (cons2 (gv_yes hg) rfl))) (by decide) (fun hg => (have ⟨M, SS⟩ := S.lend ((.s 2 rfl (.s 1 rfl .nil))); quiet (ref03_Ints_st SS (if_t (by simpa using hg) er35)) (fun v w' h => ⟨h.1, _, _, h.2⟩))) fun w36 hw36 => ?_
 replace S := S.ext hw36
 refine wl_guard (j := 13) (pol := false) rfl rfl rfl (by decide) (fun hg => does_not (gv_yes hg)) (by decide) ?_
 refine wd (does_or rfl (fun hp => (gv_yes (and_1 hp)))) ?_
 refine wd (does_mv_b rfl) ?_
 refine wl_guard (j := 19) (pol := false) rfl rfl rfl (by decide) (fun hg => does_mv_i rfl) (by decide) ?_
 refine wl_guard (j := 19) (pol := false) rfl rfl rfl (by decide) (fun hg => does_mv_i rfl) (by decide) ?_
 refine wl_guard (j := 19) (pol := false) rfl rfl rfl (by decide) (fun hg => does_ne (gv_yes hg) (gv_yes hg)) (by decide) ?_
 refine wd (does_or rfl (fun hp => (gv_yes (and_1 hp)))) ?_
 refine wl_nil ?_
 refine wc_if rfl (fun hc37 => ?_) (fun hc37 => ?_)
 ·replace H := if_t hc37 H
  refine wc_seq (wc_region ?_)
  refine wd (does_as_b rfl) ?_
  refine wl_nil ?_
  refine wc_ret ?_
  refine ⟨_, (rets1 (retOne_tmp rfl)), ?_⟩
  replace S : St A N w w36 [] [] := S.arr [] []
  obtain rfl := Option.some.inj H
  exact ⟨rfl, S⟩
 replace H := if_f hc37 H
 refine wc_skip ?_
 refine wc_seq (wc_seq (wc_region ?_))
 refine wd (does_as_i rfl) ?_
 refine wl_nil ?_
 obtain ⟨o38, e38, Ho38⟩ := bind_ex H
 clear H
 refine wc_cutq [8, 22, 94, 95, 96, 97, 98, 99, 100, 101, 102, 103, 104, 105, 106, 107, 108] (fun fr W => ∃ s38 : Unit, o38 = .inl s38 ∧ St A N w W [oR a7 r32.1, oS T_int 1 IC s31 r28.2.1, oS T_int 1 IC s27 r24.1, oS T_Hyp 2 Hyp.C s16 (([] : List Hyp) ++ a1), oT a6 r3.1, oB b2 T_Term (Term.C (⟨a2.kind, a2.name, a2.other, a2.form, s_2⟩ : Term))] [fS 4 Nd.C s_0 a0, fS 2 Hyp.C s_1 a1, oDTerm s_2 a2.sub, oEt]) ?_ ?_
 ·refine wc_block ?_
  refine wc_loopm (α := Nat × Int × Unit) [8, 22, 94, 95, 96, 97, 98, 99, 100, 101, 102, 103, 104, 105, 106, 107, 108] (fun x fr W => (x.1 : Int) = ((([] : List Hyp) ++ a1).length : Int) - x.2.1 ∧ 0 ≤ x.2.1 ∧ forN (fun i s => law13_TypesChecks.b0 a1 i) x.1 x.2.1 x.2.2 = some o38 ∧ fr 22 = .int .i64 x.2.1 ∧ St A N w W [oR a7 r32.1, oS T_int 1 IC s31 r28.2.1, oS T_int 1 IC s27 r24.1, oS T_Hyp 2 Hyp.C s16 (([] : List Hyp) ++ a1), oT a6 r3.1, oB b2 T_Term (Term.C (⟨a2.kind, a2.name, a2.other, a2.form, s_2⟩ : Term))] [fS 4 Nd.C s_0 a0, fS 2 Hyp.C s_1 a1, oDTerm s_2 a2.sub, oEt]) (fun x => x.1) ((((([] : List Hyp) ++ a1).length : Int) - 0).toNat, 0, ()) ⟨(by dsimp only; have hle := Int.natCast_nonneg ((([] : List Hyp) ++ a1).length); omega), (Int.le_refl _), (by dsimp only; exact e38), rfl, S⟩ ?_
  rintro ⟨m38, i38, _⟩ g38 u38 ⟨hm38, hl38, e38, q38_i, S⟩
  try dsimp only at hm38
  try dsimp only at hl38
  try dsimp only at e38
  try dsimp only at S
  try dsimp only at q38_i
  refine wc_seq (wc_seq (wc_region ?_))
  refine wd (does_mv_i q38_i) ?_
  refine wd (does_mv_l rfl) ?_
  refine wd (does_lenR sl_L_api_Hyp rfl (S.rdO 3)) ?_
  refine wd (does_lt rfl rfl) ?_
  refine wl_nil ?_
  refine wc_if rfl (fun hc39 => ?_) (fun hc39 => ?_)
  rotate_left
  ·refine wc_exit ?_
   have hge : ((([] : List Hyp) ++ a1).length : Int) ≤ i38 := Int.not_lt.1 (of_decide_eq_false hc39)
   obtain rfl : m38 = 0 := by omega
   replace e38 := forN_0 e38
   exact ⟨rfl, (((((Dif.self _ _ _).upd rfl _).upd rfl _).upd rfl _).upd rfl _), (), e38, S⟩
  refine wc_skip ?_
  have hlt38 : i38 < ((([] : List Hyp) ++ a1).length : Int) := of_decide_eq_true hc39
  obtain ⟨m38, rfl⟩ : ∃ m, m38 = m + 1 := ⟨m38 - 1, by omega⟩
  obtain ⟨q38, H, e38⟩ := forN_s e38
  unfold law13_TypesChecks.b0 at H
  try dsimp only at H
  have hb38 := (S.lenO 3)
  refine wc_seq ?_
  refine wc_block ?_
  refine wc_seq ?_
  refine wc_quiet 8 (Ext u38) hmix (by kernel_rfl) (by kernel_rfl) (Ext.drawn _) ?_
  refine wq_does (fun v K => does_mv_l rfl) ?_
  refine wq_does (fun v K => does_mv_i q38_i) ?_
  refine wq_does (fun v K => does_indexR sl_L_api_Hyp rfl rfl ((S.ext K).rdO 3) (And.intro (show 0 ≤ i38 by omega) (show i38 < ((([] : List Hyp) ++ a1).length : Int) from hlt38)).1 (And.intro (show 0 ≤ i38 by omega) (show i38 < ((([] : List Hyp) ++ a1).length : Int) from hlt38)).2) ?_
  refine wq_does (fun v K => does_load_agg ag_Hyp rfl (((S.ext K).rdO 3).at (at_some Hyp.z (And.intro (show 0 ≤ i38 by omega) (show i38 < ((([] : List Hyp) ++ a1).length : Int) from hlt38)))) (Hyp.len _)) ?_
  refine wq_does (fun v K => does_mv_l rfl) ?_
  refine wq_does (fun v K => does_mv_i q38_i) ?_
  obtain ⟨hi41, H⟩ := chk_ex H
  refine wq_does (fun v K => does_indexR sl_L_api_Hyp rfl rfl ((S.ext K).rd 1) (inb_ex hi41).1 (inb_ex hi41).2) ?_
  refine wq_does (fun v K => does_load_agg ag_Hyp rfl (((S.ext K).rd 1).at (at_some Hyp.z (inb_ex hi41))) (Hyp.len _)) ?_
  refine wq_nil fun w42 K => ?_
  replace S := S.ext K
  clear K
  refine wd (does_nev eg_Hyp (eq_Hyp _ _) (by decide) rfl rfl) ?_
  refine wl_nil ?_
  refine wc_if rfl (fun hc43 => ?_) (fun hc43 => ?_)
  ·replace H := if_t hc43 H
   refine wc_seq (wc_region ?_)
   refine wd (does_as_b rfl) ?_
   refine wl_nil ?_
   refine wc_ret ?_
   refine ⟨_, (rets1 (retOne_tmp rfl)), ?_⟩
   replace S : St A N w w42 [] [] := S.arr [] []
   obtain rfl := Option.some.inj H
   obtain rfl := e38
   obtain rfl := aft_r Ho38
   exact ⟨rfl, S⟩
  replace H := if_f hc43 H
  refine wc_skip ?_
  refine wc_region ?_
  refine wd (does_mv_i q38_i) ?_
  refine wd (does_addc rfl rfl (c := i38 + 1) rfl (by omega) (by omega)) ?_
  refine wd (does_as_i rfl) ?_
  refine wl_nil ?_
  obtain rfl := Option.some.inj H
  exact ⟨rfl, (((((((((((((((((Dif.self _ _ _).upd rfl _).upd rfl _).upd rfl _).upd rfl _).upd rfl _).upd rfl _).upd rfl _).upd rfl _).upd rfl _).upd rfl _).upd rfl _).upd rfl _).upd rfl _).upd rfl _).upd rfl _).upd rfl _), (m38, i38 + 1, ()), ⟨(by dsimp only; omega), (by dsimp only; omega), e38, rfl, S⟩, by dsimp only; omega⟩
 rintro g44 u45 ⟨s38, rfl, S⟩
 have H := Ho38
 dsimp only [aft] at H
 refine wc_seq (wc_region ?_)
 refine wd (does_mv_p rfl) ?_
 refine wd (does_mv_p rfl) ?_
 obtain ⟨r46, er46, H⟩ := bind_ex H
 obtain ⟨B48, MB48, SB48, back⟩ := S.calln 0 ((.o 4 rfl (.o 0 rfl .nil)))
 refine wl_call (does_call ca_law03_Like) (by decide) (law03_Like_st SB48 er46) ?_
 rintro _ w47 ⟨rfl, S2⟩
 replace S : St A N w w47 [oR a7 r32.1, oS T_int 1 IC s31 r28.2.1, oS T_int 1 IC s27 r24.1, oS T_Hyp 2 Hyp.C s16 (([] : List Hyp) ++ a1), oT a6 r3.1, oB b2 T_Term (Term.C (⟨a2.kind, a2.name, a2.other, a2.form, s_2⟩ : Term))] [fS 4 Nd.C s_0 a0, fS 2 Hyp.C s_1 a1, oDTerm s_2 a2.sub, oEt] := back _ _ _ _ S2 rfl
 clear back S2 SB48
 refine wd (does_mv_b rfl) ?_
 obtain ⟨r49, er49, H⟩ := bind_ex H
 refine wl_gcall (j := 3) (pol := true) rfl rfl rfl (by decide) (fun hg => does_callg ca_law13_heads rfl) (by decide) (fun hg => (have ⟨M, SS⟩ := S.lend ((.z 3 rfl .nil)); quiet (law13_heads_st SS (if_t (by simpa using hg) er49)) (fun v w' h => ⟨h.1, _, _, h.2⟩))) fun w50 hw50 => ?_
 replace S := S.ext hw50
 refine wd (does_and rfl (fun hp => (gv_yes (and_1 hp)))) ?_
 refine wd (does_as_b rfl) ?_
 refine wl_nil ?_
 refine wc_ret ?_
 refine ⟨_, (rets1 (retOne_tmp rfl)), ?_⟩
 replace S : St A N w w50 [] [] := S.arr [] []
 obtain rfl := Option.some.inj H
 exact ⟨rfl, S⟩
end Go.Proofs.YtjebgcoknpcadaaDoor
end
section
namespace Go.Proofs.YtjebgcoknpcadaaDoor
open Gw
theorem forN_find {σ ρ : Type} {b : Int → σ → Option (Stp σ ρ)} {p : Nat → Bool} {r : Nat → ρ} : ∀ (n i : Nat) (s : σ), (∀ j : Nat, i ≤ j → j < i + n → b j s = some (if p j then .ret (r j) else .go s)) → forN b n i s = some (match (List.range' i n).find? p with | some j => .inr (r j) | none => .inl s)
 | 0, i, s, _ => rfl
 | n + 1, i, s, h => by
  rw [forN, h i (Nat.le_refl _) (by omega), List.range'_succ]
  cases hp : p i with
  | true => simp [hp, List.find?_cons]
  | false =>
   have := forN_find n (i + 1) s fun j h1 h2 => h j (by omega) (by omega)
   simpa [hp, List.find?_cons] using this
abbrev nd (M : List Nd) (i : Int) : Nd := (nodeS M i).1
structure Wf (M : List Nd) : Prop where
 len : M.length ≤ 1024
 nodup : M.Nodup
 kind : ∀ i : Int, inb i M.length = true → (nd M i).kind = 1 ∨ (nd M i).kind = 2 ∨ (nd M i).kind = 3 ∨ (nd M i).kind = 4 ∨ (nd M i).kind = 5
 kids : ∀ i : Int, inb i M.length = true → (nd M i).kind = 3 ∨ (nd M i).kind = 4 ∨ (nd M i).kind = 5 → (0 ≤ (nd M i).l ∧ (nd M i).l < i) ∧ 0 ≤ (nd M i).r ∧ (nd M i).r < i
theorem Wf.left {M : List Nd} (h : Wf M) {i : Int} (hi : inb i M.length = true) (hk : (nd M i).kind = 3 ∨ (nd M i).kind = 4 ∨ (nd M i).kind = 5) : inb (nd M i).l M.length = true := by
 have h1 := h.kids i hi hk
 have h2 := inb_ex hi
 simp only [inb, Bool.and_eq_true, decide_eq_true_eq]; omega
theorem Wf.right {M : List Nd} (h : Wf M) {i : Int} (hi : inb i M.length = true) (hk : (nd M i).kind = 3 ∨ (nd M i).kind = 4 ∨ (nd M i).kind = 5) : inb (nd M i).r M.length = true := by
 have h1 := h.kids i hi hk
 have h2 := inb_ex hi
 simp only [inb, Bool.and_eq_true, decide_eq_true_eq]; omega
theorem find_congr {α : Type} {p q : α → Bool} : ∀ {l : List α}, (∀ x ∈ l, p x = q x) → l.find? p = l.find? q
 | [], _ => rfl
 | x :: l, h => by
  rw [List.find?_cons, List.find?_cons, h x (by simp), find_congr fun y hy => h y (by simp [hy])]
theorem any_find {α : Type} {p : α → Bool} : ∀ (l : List α), l.any p = (l.find? p).isSome
 | [] => rfl
 | x :: l => by
  rw [List.any_cons, List.find?_cons, any_find l]
  cases p x <;> rfl
theorem inb_nat (j n : Nat) : inb (j : Int) n = decide (j < n) := by
 unfold inb
 rw [decide_eq_true (show 0 ≤ (j : Int) by omega), Bool.true_and, decide_eq_decide]
 omega
theorem wrap_small {n : Int} (h : 0 ≤ n ∧ n < 9223372036854775808) : IntKind.i64.wrap n = n := by
 exact IntWalk.i64_in _ ⟨by omega, by omega⟩
theorem idx_find (n : Nd) : ∀ (N : List Nd) (s : Nat), (List.range' s N.length).find? (fun k => decide (N.getD (k - s) Nd.z = n)) = (N.idxOf? n).map (· + s)
 | [], s => rfl
 | a :: N, s => by
  rw [List.length_cons, List.range'_succ, List.find?_cons, List.idxOf?_cons]
  by_cases h : a = n
  ·simp [h]
  ·have h1 : (a == n) = false := by simpa using h
   have h2 : (List.range' (s + 1) N.length).find? (fun k => decide ((a :: N).getD (k - s) Nd.z = n)) = (List.range' (s + 1) N.length).find? (fun k => decide (N.getD (k - (s + 1)) Nd.z = n)) := find_congr fun k hk => by
    have hk := (List.mem_range'_1.1 hk).1
    rw [show k - s = (k - (s + 1)) + 1 by omega]; simp
   simp only [Nat.sub_self, List.getD_cons_zero, h, decide_false, h1, h2, idx_find n N (s + 1)]
   cases N.idxOf? n with
   | none => rfl
   | some k => simp; omega
theorem docFind (N : List Nd) (n : Nd) : ref03_T_Find.f (some N) n = some (match N.idxOf? n with | some k => ((k : Int), true) | none => (0, false)) := by
 unfold ref03_T_Find.f
 have h1 := forN_find (b := fun i s => ref03_T_Find.b0 (some N) n i) (p := fun k => decide (N.getD k Nd.z = n)) (r := fun k => ((k : Int), true)) N.length 0 () (by
  intro k _ hk
  unfold ref03_T_Find.b0 at_
  rw [Int.toNat_natCast, Option.getD_some]
  split <;> rfl)
 have e0 : (((N.length : Nat) : Int) - 0).toNat = N.length := by omega
 simp only [Option.isSome_some, Option.getD_some, chk, if_true, e0]
 rw [show (0 : Int) = ((0 : Nat) : Int) from rfl, h1]
 have h2 := idx_find n N 0
 simp only [Nat.sub_zero, Nat.add_zero] at h2
 rw [h2]
 cases N.idxOf? n <;> rfl
theorem bind_eq {α β : Type} {x : Option α} {y : α} {f : α → Option β} {r : Option β} (hx : x = some y) (h : f y = r) : x.bind f = r := by rw [hx]; exact h
theorem docPut {N : List Nd} {n : Nd} (hN : N.length ≤ 1024) (hn : n.name.size < 9223372036854775808) : ref03_T_Put.f (some N) n = some (some (putS N n).1, (putS N n).2.1, (putS N n).2.2) := by
 have hrow : ∀ i : Int, ref03_T_Has.f (some N) i = some (hasRow N i) := fun i => by simp [ref03_T_Has.f, chk, hasRow]
 have hend : ((ref03_T_Find.f (some N) n).bind fun r25 => if r25.2 then some (some N, r25.1, 0) else chk (some N).isSome (if decide (1024 ≤ ((((some N).getD []).length : Nat) : Int)) then some ((some ((some N).getD [])), 0, 30) else chk (decide ((((some N).getD []).length + 1) * 40 ≤ 140737488355328)) (some ((some (((some N).getD []) ++ [n])), IntKind.i64.wrap (((((some N).getD []) ++ [n]).length : Int) - 1), 0)))) =
   (match N.idxOf? n with | some k => some (some N, (k : Int), (0 : Int)) | none => if 1024 ≤ N.length then some (some N, 0, 30) else some (some (N ++ [n]), (N.length : Int), 0)) := by
  rw [docFind]
  cases N.idxOf? n with
  | some k => rfl
  | none =>
   simp only [Option.bind_some, Bool.false_eq_true, if_false, Option.isSome_some, Option.getD_some, chk, if_true, decide_eq_true_eq]
   by_cases h : 1024 ≤ N.length
   ·have h1 : (1024 : Int) ≤ (N.length : Int) := by omega
    simp only [h, h1, if_true]
   ·have h1 : ¬ (1024 : Int) ≤ (N.length : Int) := by omega
    have h2 : (N.length + 1) * 40 ≤ 140737488355328 := by omega
    have h3 : IntKind.i64.wrap (((N ++ [n]).length : Int) - 1) = (N.length : Int) := by
     rw [wrap_small (by simp; omega)]; simp
    simp only [h, h1, h2, h3, if_true, if_false]
 unfold ref03_T_Put.f
 refine bind_eq (y := if fitsS N n = 0 then .inl (some N) else .inr (some N, 0, fitsS N n)) ?_ ?_
 ·unfold fitsS
  simp only [hrow, ref03_Word.f, hn, chk, decide_true, if_true, Option.bind_some]
  by_cases k1 : n.kind = 1
  ·simp only [k1, decide_true, if_true]
   by_cases hl : n.l = 0
   ·by_cases hr : n.r = 0
    ·by_cases hw : isWord n.name <;> simp [hl, hr, hw]
    ·simp [hl, hr]
   ·simp [hl]
  by_cases k2 : n.kind = 2
  ·have e : (n = { Nd.z with kind := 2 }) ↔ (n.name = ⟨#[]⟩ ∧ n.l = 0 ∧ n.r = 0) := by
    constructor
    ·intro h; rw [h]; exact ⟨rfl, rfl, rfl⟩
    ·rintro ⟨h1, h2, h3⟩
     obtain ⟨a, b, c, d⟩ := n
     simp only at k2 h1 h2 h3
     subst k2 h1 h2 h3; rfl
   simp only [k2, decide_true, if_true, show ¬ ((2 : Int) = 1) by decide, decide_false, Bool.false_eq_true, if_false, e]
   by_cases hm : n.name = ⟨#[]⟩
   ·by_cases hl : n.l = 0
    ·by_cases hr : n.r = 0 <;> simp [hm, hl, hr]
    ·simp [hm, hl]
   ·simp [hm]
  by_cases k3 : n.kind = 3 ∨ n.kind = 4 ∨ n.kind = 5
  ·have ho : ((if decide (n.kind = 3) = true then some (decide (n.kind = 3)) else if decide (n.kind = 4) = true then some (decide (n.kind = 4)) else some (decide (n.kind = 5))) : Option Bool) = some true := by
    rcases k3 with k | k | k <;> simp [k]
   simp only [k1, k2, k3, decide_false, Bool.false_eq_true, if_false, if_true]
   simp only [decide_eq_true_eq] at ho ⊢
   rw [ho]
   simp only [Option.bind_some, if_true]
   by_cases hm : n.name = ⟨#[]⟩
   ·cases hl : hasRow N n.l with
    | false => simp [hm, hl]
    | true => cases hr : hasRow N n.r <;> simp [hm, hl, hr]
   ·simp [hm]
  ·have ho : ((if decide (n.kind = 3) = true then some (decide (n.kind = 3)) else if decide (n.kind = 4) = true then some (decide (n.kind = 4)) else some (decide (n.kind = 5))) : Option Bool) = some false := by
    simp only [not_or] at k3; simp [k3.1, k3.2.1, k3.2.2]
   simp only [k1, k2, k3, decide_false, Bool.false_eq_true, if_false, if_true]
   simp only [decide_eq_true_eq] at ho ⊢
   rw [ho]
   simp
 ·by_cases hf : fitsS N n = 0
  ·rw [if_pos hf]
   refine Eq.trans (show _ = _ from hend) ?_
   unfold putS
   rw [if_pos hf]
   cases N.idxOf? n with
   | some k => rfl
   | none =>
    by_cases h : 1024 ≤ N.length
    ·simp only [if_pos h]
    ·simp only [if_neg h]
  ·rw [if_neg hf, put_bad hf]; rfl
theorem progPut {N : List Nd} {n : Nd} (hn : n.name.size < 9223372036854775808) : formula_Table_Put.f (some N) n = some (some (putS N n).1, (putS N n).2.1, (putS N n).2.2) := by
 simp [formula_Table_Put.f, chk, hn]
theorem rows_take {M : List Nd} {i : Nat} (hi : i < M.length) : at_ Nd.z M i = M[i] := by
 unfold at_; rw [Int.toNat_natCast, List.getD_eq_getElem?_getD, List.getElem?_eq_getElem hi]; rfl
theorem wf_push {N : List Nd} {n : Nd} (h : Wf N) (hf : fitsS N n = 0) (hl : N.length < 1024) (hnew : n ∉ N) : Wf (N ++ [n]) := by
 have hnd : ∀ i : Int, inb i N.length = true → nd (N ++ [n]) i = nd N i := by
  intro i hi
  have h1 := inb_ex hi
  unfold nd nodeS hasRow
  have h2 : i.toNat < N.length := by omega
  rw [if_pos (by simp; omega), if_pos (by simp; omega)]
  simp only
  rw [List.getD_eq_getElem?_getD, List.getElem?_append_left h2, ← List.getD_eq_getElem?_getD]
 have hlast : nd (N ++ [n]) N.length = n := by
  unfold nd nodeS hasRow
  rw [if_pos (by simp; omega)]
  simp
 have hsplit : ∀ i : Int, inb i (N ++ [n]).length = true → inb i N.length = true ∨ i = N.length := by
  intro i hi
  have := inb_ex hi
  simp at this
  simp only [inb, Bool.and_eq_true, decide_eq_true_eq]; omega
 have hkind : n.kind = 1 ∨ n.kind = 2 ∨ n.kind = 3 ∨ n.kind = 4 ∨ n.kind = 5 := by
  unfold fitsS at hf
  by_cases k1 : n.kind = 1
  ·exact .inl k1
  by_cases k2 : n.kind = 2
  ·exact .inr (.inl k2)
  by_cases k3 : n.kind = 3 ∨ n.kind = 4 ∨ n.kind = 5
  ·exact .inr (.inr k3)
  ·simp [k1, k2, k3] at hf
 refine ⟨by simp; omega, by rw [List.nodup_append]; exact ⟨h.nodup, by simp, fun a ha b hb e => hnew (by rw [← List.mem_singleton.1 hb, ← e]; exact ha)⟩, fun i hi => ?_, fun i hi hk => ?_⟩
 ·rcases hsplit i hi with h1 | rfl
  ·rw [hnd i h1]; exact h.kind i h1
  ·rw [hlast]; exact hkind
 ·rcases hsplit i hi with h1 | rfl
  ·rw [hnd i h1] at hk ⊢; exact h.kids i h1 hk
  ·rw [hlast] at hk ⊢
   unfold fitsS at hf
   have k1 : ¬ n.kind = 1 := by omega
   have k2 : ¬ n.kind = 2 := by omega
   rw [if_neg k1, if_neg k2, if_pos hk] at hf
   split at hf
   ·simp at hf
   ·rename_i hh
    simp only [not_or, Bool.not_eq_false] at hh
    obtain ⟨⟨_, h1⟩, h2⟩ := hh
    simp only [hasRow, Bool.and_eq_true, decide_eq_true_eq] at h1 h2
    exact ⟨h1, h2⟩
theorem from_some {rows : List Nd} (hn : ∀ n ∈ rows, n.name.size < 9223372036854775808) : ∃ r : Tb × Int, ref03_From.f rows = some r ∧ formula_From.f rows = some r ∧ (r.2 = 0 → r.1 = some rows ∧ Wf rows) := by
 have hstep : ∀ (N : List Nd) (i : Nat), i < rows.length → N.length ≤ 1024 → ref03_From.b0 rows i (some N) = some (if (putS N (at_ Nd.z rows i)).2.2 ≠ 0 then .ret (none, (putS N (at_ Nd.z rows i)).2.2) else if (putS N (at_ Nd.z rows i)).2.1 ≠ i then .ret (none, 31) else .go (some (putS N (at_ Nd.z rows i)).1)) ∧
   formula_From.b0 rows i (some N) = ref03_From.b0 rows i (some N) := by
  intro N i hi hN
  have hm : (at_ Nd.z rows i).name.size < 9223372036854775808 := by rw [rows_take hi]; exact hn _ (List.getElem_mem hi)
  have h1 : ref03_From.b0 rows i (some N) = some (if (putS N (at_ Nd.z rows i)).2.2 ≠ 0 then .ret (none, (putS N (at_ Nd.z rows i)).2.2) else if (putS N (at_ Nd.z rows i)).2.1 ≠ i then .ret (none, 31) else .go (some (putS N (at_ Nd.z rows i)).1)) := by
   unfold ref03_From.b0
   rw [docPut hN hm]
   simp only [Option.bind_some, decide_eq_true_eq]
   split
   ·rfl
   ·split <;> rfl
  refine ⟨h1, ?_⟩
  rw [h1]
  unfold formula_From.b0
  rw [progPut hm]
  simp only [Option.bind_some]
  by_cases e : (putS N (at_ Nd.z rows i)).2.2 = 0
  ·by_cases e2 : (putS N (at_ Nd.z rows i)).2.1 = i
   ·simp [e, e2]
   ·simp [e, e2]
  ·simp [e]
 have main : ∀ (n i : Nat), i + n = rows.length → i ≤ 1024 → Wf (rows.take i) → ∃ o, forN (fun j s => ref03_From.b0 rows j s) n i (some (rows.take i)) = some o ∧ forN (fun j s => formula_From.b0 rows j s) n i (some (rows.take i)) = some o ∧
   ((∃ e, e ≠ 0 ∧ o = .inr (none, e)) ∨ (o = .inl (some rows) ∧ Wf rows)) := by
  intro n
  induction n with
  | zero =>
   intro i hi _ hw
   rw [List.take_of_length_le (by omega)] at hw ⊢
   exact ⟨_, rfl, rfl, .inr ⟨rfl, hw⟩⟩
  | succ n ih =>
   intro i hi hle hw
   have hil : i < rows.length := by omega
   have hlen : (rows.take i).length = i := by simp; omega
   obtain ⟨h1, h2⟩ := hstep (rows.take i) i hil (by omega)
   simp only [forN]
   rw [h2, h1]
   by_cases e : (putS (rows.take i) (at_ Nd.z rows i)).2.2 = 0
   ·by_cases e2 : (putS (rows.take i) (at_ Nd.z rows i)).2.1 = i
    ·simp only [e, e2, ne_eq, not_true_eq_false, if_false, Option.bind_some]
     have hput : fitsS (rows.take i) (at_ Nd.z rows i) = 0 ∧ i < 1024 ∧ at_ Nd.z rows i ∉ rows.take i ∧ (putS (rows.take i) (at_ Nd.z rows i)).1 = rows.take i ++ [at_ Nd.z rows i] := by
      by_cases hf : fitsS (rows.take i) (at_ Nd.z rows i) = 0
      ·cases hk : (rows.take i).idxOf? (at_ Nd.z rows i) with
       | some k =>
        rw [put_old hf hk] at e2
        have : k < (rows.take i).length := by
         have := List.idxOf?_eq_some_iff.1 hk
         exact this.1
        simp only at e2; omega
       | none =>
        by_cases hl : 1024 ≤ (rows.take i).length
        ·rw [put_full hf hk hl] at e; simp at e
        ·rw [put_new hf hk hl]
         exact ⟨hf, by omega, List.idxOf?_eq_none_iff.1 hk, rfl⟩
      ·rw [put_bad hf] at e; exact absurd e hf
     obtain ⟨hf, hlt, hnew, hp⟩ := hput
     have ht : rows.take i ++ [at_ Nd.z rows i] = rows.take (i + 1) := by
      rw [rows_take hil, List.take_succ_eq_append_getElem hil]
     rw [hp, ht]
     have := ih (i + 1) (by omega) (by omega) (by rw [← ht]; exact wf_push hw hf (by omega) hnew)
     simpa using this
    ·simp only [e, e2, ne_eq, not_true_eq_false, not_false_eq_true, if_false, if_true, Option.bind_some]
     exact ⟨_, rfl, rfl, .inl ⟨31, by decide, rfl⟩⟩
   ·simp only [e, ne_eq, not_false_eq_true, if_true, Option.bind_some]
    exact ⟨_, rfl, rfl, .inl ⟨_, e, rfl⟩⟩
 have e0 : (((rows.length : Nat) : Int) - 0).toNat = rows.length := by omega
 obtain ⟨o, h1, h2, h3⟩ := main rows.length 0 (by omega) (by omega) ⟨by simp, by simp, fun i hi => absurd (inb_ex hi) (by simp), fun i hi => absurd (inb_ex hi) (by simp)⟩
 unfold ref03_From.f formula_From.f formula_New.f
 rw [e0]
 simp only [Option.bind_some]
 rw [show (0 : Int) = ((0 : Nat) : Int) from rfl]
 rw [List.take_zero] at h1 h2
 rw [h1, h2]
 rcases h3 with ⟨e, he, rfl⟩ | ⟨rfl, hw⟩
 ·exact ⟨_, rfl, rfl, fun q => absurd q he⟩
 ·exact ⟨_, rfl, rfl, fun _ => ⟨rfl, hw⟩⟩
theorem ints_self (l : List Int) : ref03_Ints.f l l = some true := by
 unfold ref03_Ints.f
 have h1 := forN_find (b := fun i s => ref03_Ints.b0 l l i) (p := fun _ => false) (r := fun _ => false) l.length 0 () (by
  intro k _ hk
  unfold ref03_Ints.b0
  rw [inb_nat]
  simp [chk]
  omega)
 have e0 : (((l.length : Nat) : Int) - 0).toNat = l.length := by omega
 rw [e0, show (0 : Int) = ((0 : Nat) : Int) from rfl, h1, show (List.range' 0 l.length).find? (fun _ => false) = none from List.find?_eq_none.2 (by simp), if_neg (by simp)]
 rfl
theorem same_self (l : List Nd) : ref03_Same.f l l = some true := by
 unfold ref03_Same.f
 have h1 := forN_find (b := fun i s => ref03_Same.b0 l l i) (p := fun _ => false) (r := fun _ => false) l.length 0 () (by
  intro k _ hk
  unfold ref03_Same.b0
  rw [inb_nat]
  simp [chk]
  omega)
 have e0 : (((l.length : Nat) : Int) - 0).toNat = l.length := by omega
 rw [e0, show (0 : Int) = ((0 : Nat) : Int) from rfl, h1, show (List.range' 0 l.length).find? (fun _ => false) = none from List.find?_eq_none.2 (by simp), if_neg (by simp)]
 rfl
theorem like_self (M : List Nd) : law03_Like.f (some M) (some M) = some true := by
 simp [law03_Like.f, chk, formula_Table_Rows.f, same_self, formula_Table_Len.f]
theorem both_some {rows : List Nd} (hn : ∀ n ∈ rows, n.name.size < 9223372036854775808) (hl : rows.length * 40 ≤ 140737488355328) : law03_Both.f rows = some (none, none, false) ∨ (law03_Both.f rows = some (some rows, some rows, true) ∧ Wf rows) := by
 obtain ⟨r, h1, h2, h3⟩ := from_some hn
 have hc : (([] : List Nd).length + rows.length) * 40 ≤ 140737488355328 := by rw [List.length_nil, Nat.zero_add]; exact hl
 unfold law03_Both.f
 rw [chk, if_pos (decide_eq_true hc), h1]
 simp only [Option.bind_some, List.nil_append, h2]
 by_cases e : r.2 = 0
 ·obtain ⟨h4, hw⟩ := h3 e
  exact .inr ⟨by rw [h4]; simp [e], hw⟩
 ·exact .inl (by simp [e])
end Go.Proofs.YtjebgcoknpcadaaDoor
end
section
namespace Go.Proofs.YtjebgcoknpcadaaDoor
end Go.Proofs.YtjebgcoknpcadaaDoor
end
section
namespace Go.Proofs.YtjebgcoknpcadaaDoor
open Gw
-- terms: nodes, levels, what is right
mutual
def depT : PTerm → Nat
 | .mk _ _ _ _ s => 1 + depL s
def depL : List PTerm → Nat
 | [] => 0
 | x :: l => max (depT x) (depL l)
end
def partsS (k : Int) : Int := if k = 1 then 0 else if k = 9 then 3 else if k = 3 ∨ k = 4 ∨ k = 12 then 2 else if k = 2 ∨ k = 5 ∨ k = 6 ∨ k = 7 ∨ k = 8 ∨ k = 10 ∨ k = 11 then 1 else -1
def nodeR (x : PTerm) : Bool :=
 decide (partsS x.kind = x.sub.length) && (if x.kind = 1 ∨ x.kind = 2 ∨ x.kind = 9 ∨ x.kind = 12 then decide (isWord x.name) else decide (x.name = ⟨#[]⟩)) &&
  (if x.kind = 9 then decide (isWord x.other) else decide (x.other = ⟨#[]⟩)) && (if x.kind = 11 then decide (0 ≤ x.form) && decide (x.form < 1024) else decide (x.form = 0))
mutual
def rightT : PTerm → Bool
 | .mk k n o f s => nodeR (.mk k n o f s) && rightL s
def rightL : List PTerm → Bool
 | [] => true
 | x :: l => rightT x && rightL l
end
mutual
def nmT : PTerm → Prop
 | .mk _ n o _ s => n.size < 9223372036854775808 ∧ o.size < 9223372036854775808 ∧ nmL s
def nmL : List PTerm → Prop
 | [] => True
 | x :: l => nmT x ∧ nmL l
end
theorem depT_eq (x : PTerm) : depT x = 1 + depL x.sub := by cases x; simp [depT, PTerm.sub]
theorem rightT_eq (x : PTerm) : rightT x = (nodeR x && rightL x.sub) := by cases x; simp [rightT, PTerm.sub]
theorem nmT_eq (x : PTerm) : nmT x ↔ x.name.size < 9223372036854775808 ∧ x.other.size < 9223372036854775808 ∧ nmL x.sub := by cases x; simp [nmT, PTerm.sub, PTerm.name, PTerm.other]
theorem rightL_mem : ∀ {l : List PTerm}, rightL l = true → ∀ x ∈ l, rightT x = true
 | [], _, _, h => by simp at h
 | y :: l, h, x, hx => by
  simp only [rightL, Bool.and_eq_true] at h
  rcases List.mem_cons.1 hx with rfl | hx
  ·exact h.1
  ·exact rightL_mem h.2 x hx
theorem nmL_mem : ∀ {l : List PTerm}, nmL l → ∀ x ∈ l, nmT x
 | [], _, _, h => by simp at h
 | y :: l, h, x, hx => by
  simp only [nmL] at h
  rcases List.mem_cons.1 hx with rfl | hx
  ·exact h.1
  ·exact nmL_mem h.2 x hx
theorem depL_mem : ∀ {l : List PTerm}, ∀ x ∈ l, depT x ≤ depL l
 | [], _, h => by simp at h
 | y :: l, x, hx => by
  simp only [depL]
  rcases List.mem_cons.1 hx with rfl | hx
  ·omega
  ·have := depL_mem x hx; omega
theorem at_mem {l : List PTerm} {i : Int} (h : 0 ≤ i ∧ i < l.length) : at_ PTerm.z l i ∈ l := List.mem_of_getElem? (at_some PTerm.z h)
inductive TR where
 | ok (f : Int)
 | no (c : Int) (way : List Int)
 deriving DecidableEq
namespace TR
def at_ (i : Int) : TR → TR
 | ok f => ok f
 | no c w => no c (i :: w)
def bind (r : TR) (k : Int → TR) : TR := match r with
 | ok f => k f
 | no c w => no c w
def code : TR → Int
 | ok _ => 0
 | no c _ => c
def way : TR → List Int
 | ok _ => []
 | no _ w => w
def form : TR → Int
 | ok f => f
 | no _ _ => 0
end TR
abbrev Sc := List (ByteArray × Int)
def ofK (M : List Nd) (f k : Int) (g : Nd → TR) : TR := if (nd M f).kind = k then g (nd M f) else .no 130 []
def toldS (M : List Nd) (P : Int → Sc → Option Int → TR) (s : Sc) (x : PTerm) : TR :=
 if x.kind = 1 then (match s.find? (fun q => decide (q.1 = x.name)) with | some q => .ok q.2 | none => .no 131 [])
 else if x.kind = 3 then (P 0 s none).bind fun f => ofK M f 5 fun n => (P 1 s (some n.l)).bind fun _ => .ok n.r
 else if x.kind = 5 then (P 0 s none).bind fun f => ofK M f 3 fun n => .ok n.l
 else if x.kind = 6 then (P 0 s none).bind fun f => ofK M f 3 fun n => .ok n.r
 else if x.kind = 11 then (if inb x.form M.length then (P 0 s (some x.form)).bind fun _ => .ok x.form else .no 31 [])
 else if x.kind = 12 then (P 0 s none).bind fun f => P 1 ((x.name, f) :: s) none
 else if x.kind = 9 then (P 0 s none).bind fun f => ofK M f 4 fun n => (P 1 ((x.name, n.l) :: s) none).bind fun a => (P 2 ((x.other, n.r) :: s) none).bind fun b => if a = b then .ok a else .no 130 []
 else .no 132 []
def chkdS (M : List Nd) (P : Int → Sc → Option Int → TR) (s : Sc) (x : PTerm) (id : Int) : TR :=
 if x.kind = 2 then ofK M id 5 fun n => P 0 ((x.name, n.l) :: s) (some n.r)
 else if x.kind = 4 then ofK M id 3 fun n => (P 0 s (some n.l)).bind fun _ => P 1 s (some n.r)
 else if x.kind = 7 then ofK M id 4 fun n => P 0 s (some n.l)
 else if x.kind = 8 then ofK M id 4 fun n => P 0 s (some n.r)
 else if x.kind = 9 then (P 0 s none).bind fun f => ofK M f 4 fun n => (P 1 ((x.name, n.l) :: s) (some id)).bind fun _ => P 2 ((x.other, n.r) :: s) (some id)
 else if x.kind = 10 then (P 0 s none).bind fun f => ofK M f 2 fun _ => .ok id
 else if x.kind = 12 then (P 0 s none).bind fun f => P 1 ((x.name, f) :: s) (some id)
 else (toldS M P s x).bind fun f => if f = id then .ok id else .no 130 []
def tyS (M : List Nd) : Nat → PTerm → Sc → Option Int → TR
 | 0, _, _, _ => .no 132 []
 | k + 1, x, s, want =>
  let P : Int → Sc → Option Int → TR := fun i s' w => (tyS M k (at_ PTerm.z x.sub i) s' w).at_ i
  match want with
  | none => toldS M P s x
  | some id => chkdS M P s x id
theorem TR.way_at (i : Int) (r : TR) : (r.at_ i).way.length ≤ r.way.length + 1 := by cases r <;> simp [TR.at_, TR.way]
theorem TR.way_bind {r : TR} {g : Int → TR} {n : Nat} (h : r.way.length ≤ n) (hg : ∀ f, (g f).way.length ≤ n) : (r.bind g).way.length ≤ n := by
 cases r with
 | ok f => exact hg f
 | no c w => exact h
theorem ofK_way {M : List Nd} {f k : Int} {g : Nd → TR} {n : Nat} (hg : ∀ m, (g m).way.length ≤ n) : (ofK M f k g).way.length ≤ n := by
 unfold ofK
 split
 ·exact hg _
 ·exact Nat.zero_le _
theorem toldS_way {M : List Nd} {P : Int → Sc → Option Int → TR} {n : Nat} (hP : ∀ i s w, (P i s w).way.length ≤ n) (s : Sc) (x : PTerm) : (toldS M P s x).way.length ≤ n := by
 have h0 : ∀ f, (TR.ok f).way.length ≤ n := fun f => Nat.zero_le _
 have h1 : ∀ c, (TR.no c []).way.length ≤ n := fun f => Nat.zero_le _
 unfold toldS
 repeat' split
 all_goals first
  | exact h0 _
  | exact h1 _
  | skip
 all_goals refine TR.way_bind (hP ..) fun f => ?_
 all_goals first
  | exact h0 _
  | exact hP ..
  | refine ofK_way fun m => ?_
 all_goals first
  | exact h0 _
  | refine TR.way_bind (hP ..) fun a => ?_
 all_goals first
  | exact h0 _
  | refine TR.way_bind (hP ..) fun b => ?_
 all_goals split
 all_goals first
  | exact h0 _
  | exact h1 _
theorem chkdS_way {M : List Nd} {P : Int → Sc → Option Int → TR} {n : Nat} (hP : ∀ i s w, (P i s w).way.length ≤ n) (s : Sc) (x : PTerm) (id : Int) : (chkdS M P s x id).way.length ≤ n := by
 have h0 : ∀ f, (TR.ok f).way.length ≤ n := fun f => Nat.zero_le _
 have h1 : ∀ c, (TR.no c []).way.length ≤ n := fun f => Nat.zero_le _
 unfold chkdS
 split
 ·exact ofK_way fun m => hP ..
 split
 ·exact ofK_way fun m => TR.way_bind (hP ..) fun _ => hP ..
 split
 ·exact ofK_way fun m => hP ..
 split
 ·exact ofK_way fun m => hP ..
 split
 ·exact TR.way_bind (hP ..) fun f => ofK_way fun m => TR.way_bind (hP ..) fun _ => hP ..
 split
 ·exact TR.way_bind (hP ..) fun f => ofK_way fun m => h0 _
 split
 ·exact TR.way_bind (hP ..) fun f => hP ..
 ·refine TR.way_bind (toldS_way hP s x) fun f => ?_
  split
  ·exact h0 _
  ·exact h1 _
theorem tyS_way {M : List Nd} : ∀ (k : Nat) (x : PTerm) (s : Sc) (w : Option Int), (tyS M k x s w).way.length ≤ k
 | 0, _, _, _ => by simp [tyS, TR.way]
 | k + 1, x, s, w => by
  have hP : ∀ i s' w', ((tyS M k (at_ PTerm.z x.sub i) s' w').at_ i).way.length ≤ k + 1 := fun i s' w' => Nat.le_trans (TR.way_at _ _) (Nat.add_le_add_right (tyS_way k _ _ _) 1)
  cases w with
  | none => exact toldS_way hP s x
  | some id => exact chkdS_way hP s x id
-- what is refused has a number
def Cd : TR → Prop
 | .ok _ => True
 | .no c _ => c = 31 ∨ c = 130 ∨ c = 131 ∨ c = 132
theorem Cd.at_ {r : TR} (h : Cd r) (i : Int) : Cd (r.at_ i) := by cases r <;> exact h
theorem Cd.bind {r : TR} {g : Int → TR} (h : Cd r) (hg : ∀ f, Cd (g f)) : Cd (r.bind g) := by
 cases r with
 | ok f => exact hg f
 | no c w => exact h
theorem Cd.ofK {M : List Nd} {f k : Int} {g : Nd → TR} (hg : ∀ m, Cd (g m)) : Cd (ofK M f k g) := by
 unfold Go.Proofs.YtjebgcoknpcadaaDoor.ofK
 split
 ·exact hg _
 ·exact .inr (.inl rfl)
theorem toldS_cd {M : List Nd} {P : Int → Sc → Option Int → TR} (hP : ∀ i s w, Cd (P i s w)) (s : Sc) (x : PTerm) : Cd (toldS M P s x) := by
 unfold toldS
 split
 ·split
  ·trivial
  ·exact .inr (.inr (.inl rfl))
 split
 ·exact (hP ..).bind fun f => Cd.ofK fun n => (hP ..).bind fun _ => trivial
 split
 ·exact (hP ..).bind fun f => Cd.ofK fun n => trivial
 split
 ·exact (hP ..).bind fun f => Cd.ofK fun n => trivial
 split
 ·split
  ·exact (hP ..).bind fun f => trivial
  ·exact .inl rfl
 split
 ·exact (hP ..).bind fun f => hP ..
 split
 ·refine (hP ..).bind fun f => Cd.ofK fun n => (hP ..).bind fun a => (hP ..).bind fun b => ?_
  split
  ·trivial
  ·exact .inr (.inl rfl)
 ·exact .inr (.inr (.inr rfl))
theorem chkdS_cd {M : List Nd} {P : Int → Sc → Option Int → TR} (hP : ∀ i s w, Cd (P i s w)) (s : Sc) (x : PTerm) (id : Int) : Cd (chkdS M P s x id) := by
 unfold chkdS
 split
 ·exact Cd.ofK fun n => hP ..
 split
 ·exact Cd.ofK fun n => (hP ..).bind fun _ => hP ..
 split
 ·exact Cd.ofK fun n => hP ..
 split
 ·exact Cd.ofK fun n => hP ..
 split
 ·exact (hP ..).bind fun f => Cd.ofK fun n => (hP ..).bind fun _ => hP ..
 split
 ·exact (hP ..).bind fun f => Cd.ofK fun n => trivial
 split
 ·exact (hP ..).bind fun f => hP ..
 ·refine (toldS_cd hP s x).bind fun f => ?_
  split
  ·trivial
  ·exact .inr (.inl rfl)
theorem tyS_cd {M : List Nd} : ∀ (k : Nat) (x : PTerm) (s : Sc) (w : Option Int), Cd (tyS M k x s w)
 | 0, _, _, _ => .inr (.inr (.inr rfl))
 | k + 1, x, s, w => by
  have hP : ∀ i s' w', Cd ((tyS M k (at_ PTerm.z x.sub i) s' w').at_ i) := fun i s' w' => (tyS_cd k _ _ _).at_ i
  cases w with
  | none => exact toldS_cd (P := fun i s' w' => (tyS M k (at_ PTerm.z x.sub i) s' w').at_ i) hP s x
  | some id => exact chkdS_cd (P := fun i s' w' => (tyS M k (at_ PTerm.z x.sub i) s' w').at_ i) hP s x id
-- what is told is what alone it is checked against
theorem TR.at_ok {i : Int} {r : TR} {f : Int} : r.at_ i = .ok f ↔ r = .ok f := by cases r <;> simp [TR.at_]
end Go.Proofs.YtjebgcoknpcadaaDoor
end
section
namespace Go.Proofs.YtjebgcoknpcadaaDoor
open Gw
theorem chk_t {α : Type} {b : Bool} {x : Option α} (h : b = true) : chk b x = x := by rw [chk, if_pos h]
theorem wrap_nat {n : Nat} (h : n < 9223372036854775808) : IntKind.i64.wrap (n : Int) = n := wrap_small ⟨by omega, by omega⟩
theorem iter_count {τ ρ : Type} {b : τ × Int → Option (Stp (τ × Int) ρ)} (g : Nat → τ) (n : Nat)
  (h : ∀ i, i < n → b (g i, (i : Int)) = some (.go (g (i + 1), ((i + 1 : Nat) : Int))) ∨ (b (g i, (i : Int)) = some (.brk (g i, (i : Int))) ∧ g i = g n)) (he : b (g n, (n : Int)) = some (.brk (g n, (n : Int)))) :
  ∀ (k i : Nat), i ≤ n → n - i < k → ∃ j : Int, iter b k (g i, (i : Int)) = some (.inl (g n, j))
 | 0, i, _, hk => by omega
 | k + 1, i, hi, hk => by
  by_cases hin : i = n
  ·subst hin; exact ⟨(i : Int), by simp only [iter, he, Option.bind_some]⟩
  ·rcases h i (by omega) with h1 | ⟨h1, h2⟩
   ·obtain ⟨j, hj⟩ := iter_count g n h he k (i + 1) (by omega) (by omega)
    exact ⟨j, by simp only [iter, h1, Option.bind_some]; exact hj⟩
   ·exact ⟨(i : Int), by rw [iter, h1]; simp only [Option.bind_some, h2]⟩
theorem depL_take : ∀ {l : List PTerm} {i : Nat} {x : PTerm}, l[i]? = some x → depL (l.take (i + 1)) = max (depL (l.take i)) (depT x)
 | [], _, _, h => by simp at h
 | y :: l, 0, x, h => by simp at h; subst h; simp [depL]
 | y :: l, i + 1, x, h => by
  have := depL_take (l := l) (i := i) (by simpa using h)
  simp only [List.take_succ_cons, depL]; omega
theorem depL_le : ∀ {l : List PTerm} (i : Nat), depL (l.take i) ≤ depL l
 | [], i => by simp
 | y :: l, 0 => by simp [depL]
 | y :: l, i + 1 => by have := depL_le (l := l) i; simp only [List.take_succ_cons, depL]; omega
theorem len_sizeL : ∀ (l : List PTerm), l.length ≤ sizeL l
 | [] => by simp
 | y :: l => by have := len_sizeL l; have := sizeT_pos y; simp only [List.length_cons, sizeL]; omega
theorem sizeL_mem : ∀ {l : List PTerm} {x : PTerm}, x ∈ l → sizeT x ≤ sizeL l
 | [], _, h => by simp at h
 | y :: l, x, h => by
  simp only [sizeL]
  rcases List.mem_cons.1 h with rfl | h
  ·omega
  ·have := sizeL_mem h; omega
theorem at_nat {l : List PTerm} {i : Nat} (h : i < l.length) : at_ PTerm.z l (i : Int) = l[i] := by
 unfold at_; rw [Int.toNat_natCast, List.getD_eq_getElem?_getD, List.getElem?_eq_getElem h]; rfl
theorem depT_pos (x : PTerm) : 1 ≤ depT x := by rw [depT_eq]; omega
-- levels, as the program counts them
theorem deep_some : ∀ (K : Nat) (x : PTerm) (most : Nat), 1 ≤ most → most ≤ 1025 → sizeT x ≤ 65536 → sizeT x + most < K → term_deep.f K x (most : Int) = some ((min (depT x) most : Nat) : Int)
 | 0, _, _, _, _, _, h => by omega
 | K + 1, x, most, h1, h2, h3, hK => by
  show term_deep.g (term_deep.f K) K x most = _
  unfold term_deep.g
  by_cases hm : most = 1
  ·subst hm
   rw [if_pos (by decide)]
   have := depT_pos x
   rw [show min (depT x) 1 = 1 by omega]
  rw [if_neg (by simp; omega)]
  have hw : IntKind.i64.wrap ((most : Int) - 1) = ((most - 1 : Nat) : Int) := by
   rw [show ((most : Int) - 1) = ((most - 1 : Nat) : Int) by omega]; exact wrap_nat (by omega)
  have hs := sizeT_eq x
  have hls := len_sizeL x.sub
  obtain ⟨j, hj⟩ := iter_count (b := fun s => term_deep.b0 x most (term_deep.f K) s.1 s.2) (g := fun i => ((min (depL (x.sub.take i)) (most - 1) : Nat) : Int)) x.sub.length (fun i hi => by
   have he := List.getElem?_eq_getElem hi
   have hd := depL_take he
   have hle := depL_le (l := x.sub) i
   simp only [term_deep.b0, hw]
   by_cases hc : min (depL (x.sub.take i)) (most - 1) < most - 1
   ·left
    rw [if_pos (by simp; omega), chk_t (by rw [inb_nat]; exact decide_eq_true hi), at_nat hi, deep_some K _ (most - 1) (by omega) (by omega) (by have := sizeL_mem (List.getElem_mem hi); omega) (by have := sizeL_mem (List.getElem_mem hi); omega)]
    simp only [Option.bind_some]
    rw [show (i : Int) + 1 = ((i + 1 : Nat) : Int) by omega, wrap_nat (by omega)]
    congr 3
    rw [hd]
    split <;> omega
   ·right
    rw [if_neg (by simp; omega)]
    refine ⟨rfl, ?_⟩
    rw [List.take_length]
    congr 1
    omega) (by
   simp only [term_deep.b0, hw]
   rw [if_neg (by simp)]) K 0 (by omega) (by omega)
  simp only [List.take_zero, depL, Nat.zero_min, List.take_length] at hj
  rw [show ((0 : Nat) : Int) = 0 from rfl] at hj
  rw [hj]
  simp only [Option.bind_some, aft]
  rw [show ((min (depL x.sub) (most - 1) : Nat) : Int) + 1 = ((min (depL x.sub) (most - 1) + 1 : Nat) : Int) by omega, wrap_nat (by omega), depT_eq]
  congr 2
  omega
-- what is right, as the program tells it
theorem shape_some (k : Int) : term_shape.f k = some (if partsS k = -1 then (0, false, false, false) else (partsS k, decide (k = 1 ∨ k = 2 ∨ k = 9 ∨ k = 12), decide (k = 9), true)) := by
 by_cases h : k = 1 ∨ k = 2 ∨ k = 3 ∨ k = 4 ∨ k = 5 ∨ k = 6 ∨ k = 7 ∨ k = 8 ∨ k = 9 ∨ k = 10 ∨ k = 11 ∨ k = 12
 ·rcases h with rfl | rfl | rfl | rfl | rfl | rfl | rfl | rfl | rfl | rfl | rfl | rfl <;> decide
 ·simp only [not_or] at h
  obtain ⟨h1, h2, h3, h4, h5, h6, h7, h8, h9, h10, h11, h12⟩ := h
  simp [term_shape.f, partsS, h1, h2, h3, h4, h5, h6, h7, h8, h9, h10, h11, h12]
theorem named_some {s : ByteArray} (hs : s.size < 9223372036854775808) (b : Bool) : term_named.f s b = some (if b then decide (isWord s) else decide (s = ⟨#[]⟩)) := by
 unfold term_named.f formula_Word.f
 rw [chk_t (decide_eq_true hs)]
 cases b <;> simp
theorem rightL_all : ∀ (l : List PTerm), rightL l = l.all rightT
 | [] => rfl
 | x :: l => by simp [rightL, rightL_all l]
theorem contains_some {rec : PTerm → Option Bool} {l : List PTerm} (h : ∀ x ∈ l, rec x = some (rightT x)) : slices_ContainsFunc_api_Term_api_Term__term_right_1.g rec l = some (!rightL l) := by
 unfold slices_ContainsFunc_api_Term_api_Term__term_right_1.g slices_IndexFunc_api_Term_api_Term__term_right_1.g
 have h1 := forN_find (b := fun i s => slices_IndexFunc_api_Term_api_Term__term_right_1.b0 rec l i) (p := fun k => !rightT (l.getD k PTerm.z)) (r := fun k => (k : Int)) l.length 0 () (by
  intro k _ hk
  unfold slices_IndexFunc_api_Term_api_Term__term_right_1.b0 term_right_1.g
  have hk' : k < l.length := by omega
  rw [at_nat hk', h _ (List.getElem_mem hk')]
  simp only [Option.bind_some, List.getD_eq_getElem?_getD, List.getElem?_eq_getElem hk', Option.getD_some]
  cases rightT l[k] <;> rfl)
 have e0 : (((l.length : Nat) : Int) - 0).toNat = l.length := by omega
 rw [e0, show (0 : Int) = ((0 : Nat) : Int) from rfl, h1]
 have h2 : rightL l = !((List.range' 0 l.length).find? fun k => !rightT (l.getD k PTerm.z)).isSome := by
  rw [rightL_all, ← any_find]
  rw [Bool.eq_iff_iff]
  simp only [List.all_eq_true, Bool.not_eq_true', List.any_eq_false, Bool.not_eq_true, Bool.not_eq_false', List.mem_range'_1]
  constructor
  ·intro hh k hk
   have hk' : k < l.length := by omega
   simp only [List.getD_eq_getElem?_getD, List.getElem?_eq_getElem hk', Option.getD_some]
   simpa using hh _ (List.getElem_mem hk')
  ·intro hh x hx
   obtain ⟨k, hk, rfl⟩ := List.getElem_of_mem hx
   have := hh k ⟨by omega, by omega⟩
   simp only [List.getD_eq_getElem?_getD, List.getElem?_eq_getElem hk, Option.getD_some] at this
   simpa using this
 rw [h2]
 cases (List.range' 0 l.length).find? fun k => !rightT (l.getD k PTerm.z) with
 | none => simp [aft]
 | some k => simp [aft]
theorem right_some : ∀ (K : Nat) (x : PTerm), nmT x → depT x ≤ K → term_right.f K x = some (rightT x)
 | 0, x, _, h => by have := depT_pos x; omega
 | K + 1, x, hn, hK => by
  have hd := depT_eq x
  obtain ⟨n1, n2, n3⟩ := (nmT_eq x).1 hn
  show term_right.g (term_right.f K) x = _
  unfold term_right.g
  rw [shape_some, contains_some (l := x.sub) fun y hy => right_some K y (nmL_mem n3 y hy) (by have := depL_mem y hy; omega)]
  rw [rightT_eq]
  unfold nodeR
  by_cases hp : partsS x.kind = -1
  ·have : ¬ (-1 : Int) = (x.sub.length : Int) := by omega
   simp [hp, this]
  ·simp only [hp, if_false, Option.bind_some, named_some n1, named_some n2]
   generalize partsS x.kind = p at hp
   by_cases hl : p = (x.sub.length : Int)
   ·by_cases hk : x.kind = 1 ∨ x.kind = 2 ∨ x.kind = 9 ∨ x.kind = 12
    ·simp only [if_pos hk, decide_eq_true hk]
     by_cases hw : isWord x.name
     ·by_cases h9 : x.kind = 9
      ·simp only [if_pos h9, decide_eq_true h9]
       by_cases ho : isWord x.other
       ·by_cases hf : x.form = 0
        ·simp [hl, h9, hw, ho, hf]
        ·simp [hl, h9, hw, ho, hf]
       ·simp [hl, h9, hw, ho]
      ·simp only [if_neg h9, decide_eq_false h9]
       by_cases ho : x.other = ⟨#[]⟩
       ·by_cases h11 : x.kind = 11
        ·omega
        ·by_cases hf : x.form = 0
         ·simp [hl, h11, hw, ho, hf]
         ·simp [hl, h11, hw, ho, hf]
       ·simp [hl, hw, ho]
     ·simp [hl, hw]
    ·have h9 : ¬ x.kind = 9 := fun e => hk (.inr (.inr (.inl e)))
     simp only [if_neg hk, decide_eq_false hk, if_neg h9, decide_eq_false h9]
     by_cases hw : x.name = ⟨#[]⟩
     ·by_cases ho : x.other = ⟨#[]⟩
      ·by_cases h11 : x.kind = 11
       ·by_cases hf : 0 ≤ x.form
        ·by_cases hg : x.form < 1024
         ·have q1 : ¬ x.form < 0 := by omega
          have q2 : ¬ 1024 ≤ x.form := by omega
          simp [hl, h11, hw, ho, hf, hg, q1, q2]
         ·have q2 : 1024 ≤ x.form := by omega
          simp [hl, h11, hw, ho, hf, hg, q2]
        ·have q1 : x.form < 0 := by omega
         simp [hl, h11, hw, ho, hf, q1]
       ·by_cases hf : x.form = 0
        ·simp [hl, h11, hw, ho, hf]
        ·simp [hl, h11, hw, ho, hf]
      ·simp [hl, hw, ho]
     ·simp [hl, hw]
   ·have hl' : ¬ (x.sub.length : Int) = p := fun e => hl e.symm
    simp [hl, hl']
def checkT (x : PTerm) : Int := if 65536 < sizeT x ∨ 1024 < depT x then 121 else if rightT x then 0 else 120
theorem Check_some {K : Nat} {x : PTerm} (hK : 66562 ≤ K) (hn : nmT x) : term_Check.f K x = some (checkT x) := by
 unfold term_Check.f term_Size.f term_Deep.f checkT
 simp only [Option.bind_some]
 by_cases hs : 65536 < sizeT x
 ·have h1 : min (sizeT x) 65537 = 65537 := by omega
  simp [h1, hs]
 ·have h1 : min (sizeT x) 65537 = sizeT x := by omega
  have h2 : ¬ (65536 : Int) < (sizeT x : Int) := by omega
  rw [h1, show (1025 : Int) = ((1025 : Nat) : Int) from rfl]
  simp only [h2, decide_false, Bool.not_false, if_true, deep_some K x 1025 (by omega) (by omega) (by omega) (by omega), Option.bind_some, Bool.false_or, decide_eq_true_eq, hs, false_or]
  by_cases hd : 1024 < depT x
  ·have h3 : (1024 : Int) < ((min (depT x) 1025 : Nat) : Int) := by omega
   simp [h3, hd]
  ·have h3 : ¬ (1024 : Int) < ((min (depT x) 1025 : Nat) : Int) := by omega
   rw [if_neg h3, if_neg hd, right_some K x hn (by omega)]
   cases rightT x <;> rfl
end Go.Proofs.YtjebgcoknpcadaaDoor
end
section
namespace Go.Proofs.YtjebgcoknpcadaaDoor
open Gw
def err : TR → Option (Int × List Int)
 | .ok _ => none
 | .no c w => some (c, w.reverse)
abbrev Tc : Type := PChecker → PTerm → List (ByteArray × Int) → Option (Int × Option (Int × List Int))
abbrev Cc : Type := PChecker → PTerm → List (ByteArray × Int) → Int → Option (Option (Int × List Int))
def Sok (M : List Nd) (s : Sc) : Prop := ∀ q ∈ s, inb q.2 M.length = true
theorem Sok.cons {M : List Nd} {s : Sc} {n : ByteArray} {f : Int} (h : Sok M s) (hf : inb f M.length = true) : Sok M ((n, f) :: s) := fun q hq => by
 rcases List.mem_cons.1 hq with rfl | hq
 ·exact hf
 ·exact h q hq
abbrev PS (M : List Nd) (k : Nat) (x : PTerm) : Int → Sc → Option Int → TR := fun i s' w => (tyS M k (at_ PTerm.z x.sub i) s' w).at_ i
def Tells (M : List Nd) (r : Option (Int × Option (Int × List Int))) (t : TR) : Prop := ∃ i, r = some (i, err t) ∧ ∀ f, t = .ok f → i = f ∧ inb f M.length = true
theorem at_err {r : TR} {i : Int} (h : r.way.length ≤ 2000) : types_at.f i (err r) = some (err (r.at_ i)) := by
 cases r with
 | ok f => rfl
 | no c w =>
  simp only [TR.way] at h
  simp only [err, types_at.f, TR.at_, List.reverse_cons, List.length_reverse]
  rw [chk_t (decide_eq_true (by omega))]
theorem TR.ok_at {r : TR} {i f : Int} (h : r.at_ i = .ok f) : r = .ok f := TR.at_ok.1 h
theorem node_tab {M : List Nd} {i k : Int} (hi : inb i M.length = true) : types_checker_node.f ⟨some M⟩ i k = some (nd M i, if (nd M i).kind = k then none else some (130, [])) := by
 simp only [types_checker_node.f, formula_Table_Node.f, Option.map_some, Option.bind_some]
 by_cases h : (nd M i).kind = k
 ·simp [nd, h] at h ⊢ <;> simp [h]
 ·simp [nd] at h ⊢ <;> simp [h]
section
variable {M : List Nd} {x : PTerm} {k : Nat} {T : Tc} {C : Cc}
theorem part_tells (hk : k ≤ 1999) {i : Int} (hi : inb i x.sub.length = true) {s : Sc} (h : Tells M (T ⟨some M⟩ (at_ PTerm.z x.sub i) s) (tyS M k (at_ PTerm.z x.sub i) s none)) : Tells M (types_checker_part.g T ⟨some M⟩ x i s) (PS M k x i s none) := by
 obtain ⟨j, h1, h2⟩ := h
 refine ⟨j, ?_, fun f hf => h2 f (TR.ok_at hf)⟩
 unfold types_checker_part.g
 rw [chk_t hi, h1]
 simp only [Option.bind_some]
 rw [at_err (Nat.le_trans (tyS_way k _ _ _) (by omega))]
 rfl
theorem check_tells (hk : k ≤ 1999) {i id : Int} (hi : inb i x.sub.length = true) {s : Sc} (h : C ⟨some M⟩ (at_ PTerm.z x.sub i) s id = some (err (tyS M k (at_ PTerm.z x.sub i) s (some id)))) : types_checker_check.g C ⟨some M⟩ x i s id = some (err (PS M k x i s (some id))) := by
 unfold types_checker_check.g
 rw [chk_t hi, h]
 simp only [Option.bind_some]
 rw [at_err (Nat.le_trans (tyS_way k _ _ _) (by omega))]
 rfl
def hdS (M : List Nd) (P : Int → Sc → Option Int → TR) (s : Sc) (kd : Int) : TR := (P 0 s none).bind fun f => if (nd M f).kind = kd then .ok f else .no 130 []
theorem hdS_eq (P : Int → Sc → Option Int → TR) (s : Sc) (kd : Int) (g : Nd → TR) : ((P 0 s none).bind fun f => ofK M f kd g) = (hdS M P s kd).bind fun f => g (nd M f) := by
 unfold hdS
 cases P 0 s none with
 | ok f =>
  simp only [TR.bind, ofK]
  split <;> rfl
 | no c w => rfl
theorem head_tells (hk : k ≤ 1999) (hi : inb 0 x.sub.length = true) {s : Sc} {kd : Int} (h : Tells M (T ⟨some M⟩ (at_ PTerm.z x.sub 0) s) (tyS M k (at_ PTerm.z x.sub 0) s none)) :
  ∃ n, types_checker_head.g T ⟨some M⟩ x s kd = some (n, err (hdS M (PS M k x) s kd)) ∧ ∀ f, hdS M (PS M k x) s kd = .ok f → n = nd M f ∧ inb f M.length = true ∧ (nd M f).kind = kd := by
 obtain ⟨j, h1, h2⟩ := part_tells hk hi h
 unfold types_checker_head.g hdS
 rw [h1]
 simp only [Option.bind_some]
 cases hp : PS M k x 0 s none with
 | no c w => exact ⟨Nd.z, rfl, fun f hf => by cases hf⟩
 | ok f =>
  obtain ⟨rfl, hb⟩ := h2 f hp
  simp only [err, Option.isSome_none, Bool.false_eq_true, if_false, node_tab hb, Option.bind_some, TR.bind]
  by_cases hkd : (nd M j).kind = kd
  ·simp only [hkd, if_true]
   exact ⟨_, rfl, fun f hf => by cases hf; exact ⟨rfl, hb, hkd⟩⟩
  ·simp only [hkd, if_false]
   exact ⟨_, rfl, fun f hf => by cases hf⟩
structure Parts (M : List Nd) (k : Nat) (x : PTerm) (T : Tc) (C : Cc) : Prop where
 told : ∀ i, inb i x.sub.length = true → ∀ s, Sok M s → Tells M (T ⟨some M⟩ (at_ PTerm.z x.sub i) s) (tyS M k (at_ PTerm.z x.sub i) s none)
 chkd : ∀ i, inb i x.sub.length = true → ∀ s, Sok M s → ∀ id, inb id M.length = true → C ⟨some M⟩ (at_ PTerm.z x.sub i) s id = some (err (tyS M k (at_ PTerm.z x.sub i) s (some id)))
theorem inb_len {i : Int} {n : Nat} (h : (0 ≤ i ∧ i < n) ) : inb i n = true := by simp [inb, h.1, h.2]
theorem rt_len (hr : rightT x = true) : partsS x.kind = (x.sub.length : Int) := by
 rw [rightT_eq] at hr
 simp only [nodeR, Bool.and_eq_true, decide_eq_true_eq] at hr
 exact hr.1.1.1.1
theorem find_tab {s : Sc} (hs : Sok M s) (n : ByteArray) {q : ByteArray × Int} (h : s.find? (fun q => decide (q.1 = n)) = some q) : inb q.2 M.length = true := hs q (List.mem_of_find?_eq_some h)
theorem told_tells (hM : Wf M) (hk : k ≤ 1999) (hr : rightT x = true) (hP : Parts M k x T C) {s : Sc} (hs : Sok M s) : Tells M (types_checker_told.g T C ⟨some M⟩ x s) (toldS M (PS M k x) s x) := by
 have hl := rt_len hr
 have hno : ∀ c, Tells M (some (0, some (c, []))) (.no c []) := fun c => ⟨0, rfl, fun f hf => by cases hf⟩
 by_cases k1 : x.kind = 1
 ·simp only [types_checker_told.g, toldS, k1, decide_true, if_true, types_scope_find.f, Option.bind_some]
  cases hf : s.find? (fun q => decide (q.1 = x.name)) with
  | none => exact hno 131
  | some q => exact ⟨q.2, rfl, fun f hf' => by cases hf'; exact ⟨rfl, find_tab hs _ hf⟩⟩
 by_cases k3 : x.kind = 3
 ·simp only [k3, partsS] at hl
  have h0 := inb_len (i := 0) (n := x.sub.length) (by omega)
  have h1 := inb_len (i := 1) (n := x.sub.length) (by omega)
  have e : toldS M (PS M k x) s x = (hdS M (PS M k x) s 5).bind fun f => (PS M k x 1 s (some (nd M f).l)).bind fun _ => .ok (nd M f).r := by
   rw [← hdS_eq (g := fun n => (PS M k x 1 s (some n.l)).bind fun _ => .ok n.r)]
   simp [toldS, k3]
  obtain ⟨n, e1, e2⟩ := head_tells (kd := 5) hk h0 (hP.told 0 h0 s hs)
  rw [e]
  simp only [types_checker_told.g, k3, Int.reduceEq, decide_false, decide_true, Bool.false_eq_true, if_false, if_true, e1, Option.bind_some]
  cases hh : hdS M (PS M k x) s 5 with
  | no c w => exact ⟨0, rfl, fun f hf => by cases hf⟩
  | ok f =>
   obtain ⟨rfl, hb, hkd⟩ := e2 f hh
   have hl := hM.left hb (.inr (.inr hkd))
   have hrr := hM.right hb (.inr (.inr hkd))
   simp only [err, Option.isSome_none, Bool.false_eq_true, if_false, check_tells hk h1 (hP.chkd 1 h1 s hs _ hl), Option.bind_some, TR.bind]
   cases PS M k x 1 s (some (nd M f).l) with
   | ok g => exact ⟨_, rfl, fun f' hf => by cases hf; exact ⟨rfl, hrr⟩⟩
   | no c w => exact ⟨_, rfl, fun f' hf => by cases hf⟩
 by_cases k5 : x.kind = 5
 ·simp only [k5, partsS] at hl
  have h0 := inb_len (i := 0) (n := x.sub.length) (by omega)
  have e : toldS M (PS M k x) s x = (hdS M (PS M k x) s 3).bind fun f => .ok (nd M f).l := by
   rw [← hdS_eq (g := fun n => .ok n.l)]
   simp [toldS, k5]
  obtain ⟨n, e1, e2⟩ := head_tells (kd := 3) hk h0 (hP.told 0 h0 s hs)
  rw [e]
  simp only [types_checker_told.g, k5, Int.reduceEq, decide_false, decide_true, Bool.false_eq_true, if_false, if_true, e1, Option.bind_some]
  cases hh : hdS M (PS M k x) s 3 with
  | no c w => exact ⟨_, rfl, fun f hf => by cases hf⟩
  | ok f =>
   obtain ⟨rfl, hb, hkd⟩ := e2 f hh
   exact ⟨_, rfl, fun f' hf => by cases hf; exact ⟨rfl, hM.left hb (.inl hkd)⟩⟩
 by_cases k6 : x.kind = 6
 ·simp only [k6, partsS] at hl
  have h0 := inb_len (i := 0) (n := x.sub.length) (by omega)
  have e : toldS M (PS M k x) s x = (hdS M (PS M k x) s 3).bind fun f => .ok (nd M f).r := by
   rw [← hdS_eq (g := fun n => .ok n.r)]
   simp [toldS, k6]
  obtain ⟨n, e1, e2⟩ := head_tells (kd := 3) hk h0 (hP.told 0 h0 s hs)
  rw [e]
  simp only [types_checker_told.g, k6, Int.reduceEq, decide_false, decide_true, Bool.false_eq_true, if_false, if_true, e1, Option.bind_some]
  cases hh : hdS M (PS M k x) s 3 with
  | no c w => exact ⟨_, rfl, fun f hf => by cases hf⟩
  | ok f =>
   obtain ⟨rfl, hb, hkd⟩ := e2 f hh
   exact ⟨_, rfl, fun f' hf => by cases hf; exact ⟨rfl, hM.right hb (.inl hkd)⟩⟩
 by_cases k11 : x.kind = 11
 ·simp only [k11, partsS] at hl
  have h0 := inb_len (i := 0) (n := x.sub.length) (by omega)
  simp only [types_checker_told.g, toldS, k11, Int.reduceEq, decide_false, decide_true, Bool.false_eq_true, if_false, if_true, formula_Table_Node.f, Option.map_some, Option.bind_some]
  by_cases hf : inb x.form M.length = true
  ·have hf' : (nodeS M x.form).2 = true := by
    have := inb_ex hf
    simp [nodeS, hasRow, this.1, this.2]
   simp only [hf, hf', if_true, Bool.not_true, Bool.false_eq_true, if_false, check_tells hk h0 (hP.chkd 0 h0 s hs _ hf), Option.bind_some]
   cases PS M k x 0 s (some x.form) with
   | ok g => exact ⟨_, rfl, fun f' hf2 => by cases hf2; exact ⟨rfl, hf⟩⟩
   | no c w => exact ⟨_, rfl, fun f' hf2 => by cases hf2⟩
  ·have hf' : (nodeS M x.form).2 = false := by
    have h2 : ¬ hasRow M x.form = true := fun e => hf (by
     simp only [hasRow, Bool.and_eq_true, decide_eq_true_eq] at e
     exact inb_len e)
    simp [nodeS, h2]
   simp only [hf, hf', Bool.not_false, if_true, Bool.false_eq_true, if_false]
   exact hno 31
 by_cases k12 : x.kind = 12
 ·simp only [k12, partsS] at hl
  have h0 := inb_len (i := 0) (n := x.sub.length) (by omega)
  have h1 := inb_len (i := 1) (n := x.sub.length) (by omega)
  obtain ⟨j, e1, e2⟩ := part_tells hk h0 (hP.told 0 h0 s hs)
  simp only [types_checker_told.g, toldS, k12, Int.reduceEq, decide_false, decide_true, Bool.false_eq_true, if_false, if_true, e1, Option.bind_some]
  cases hh : PS M k x 0 s none with
  | no c w => exact ⟨0, rfl, fun f hf => by cases hf⟩
  | ok f =>
   obtain ⟨rfl, hb⟩ := e2 f hh
   simp only [err, Option.isSome_none, Bool.false_eq_true, if_false, TR.bind]
   obtain ⟨j2, e3, e4⟩ := part_tells hk h1 (hP.told 1 h1 ((x.name, j) :: s) (hs.cons hb))
   rw [e3]
   exact ⟨j2, rfl, e4⟩
 by_cases k9 : x.kind = 9
 ·simp only [k9, partsS] at hl
  have h0 := inb_len (i := 0) (n := x.sub.length) (by omega)
  have h1 := inb_len (i := 1) (n := x.sub.length) (by omega)
  have h2 := inb_len (i := 2) (n := x.sub.length) (by omega)
  have e : toldS M (PS M k x) s x = (hdS M (PS M k x) s 4).bind fun f => (PS M k x 1 ((x.name, (nd M f).l) :: s) none).bind fun a => (PS M k x 2 ((x.other, (nd M f).r) :: s) none).bind fun b => if a = b then .ok a else .no 130 [] := by
   rw [← hdS_eq (g := fun n => (PS M k x 1 ((x.name, n.l) :: s) none).bind fun a => (PS M k x 2 ((x.other, n.r) :: s) none).bind fun b => if a = b then .ok a else .no 130 [])]
   simp [toldS, k9]
  obtain ⟨n, e1, e2⟩ := head_tells (kd := 4) hk h0 (hP.told 0 h0 s hs)
  rw [e]
  simp only [types_checker_told.g, k9, Int.reduceEq, decide_false, decide_true, Bool.false_eq_true, if_false, if_true, e1, Option.bind_some]
  cases hh : hdS M (PS M k x) s 4 with
  | no c w => exact ⟨0, rfl, fun f hf => by cases hf⟩
  | ok f =>
   obtain ⟨rfl, hb, hkd⟩ := e2 f hh
   have hl := hM.left hb (.inr (.inl hkd))
   have hrr := hM.right hb (.inr (.inl hkd))
   obtain ⟨j2, e3, e4⟩ := part_tells hk h1 (hP.told 1 h1 ((x.name, (nd M f).l) :: s) (hs.cons hl))
   simp only [err, Option.isSome_none, Bool.false_eq_true, if_false, TR.bind, e3, Option.bind_some]
   cases hh2 : PS M k x 1 ((x.name, (nd M f).l) :: s) none with
   | no c w => exact ⟨0, rfl, fun f hf => by cases hf⟩
   | ok a =>
    obtain ⟨rfl, hb2⟩ := e4 a hh2
    obtain ⟨j3, e5, e6⟩ := part_tells hk h2 (hP.told 2 h2 ((x.other, (nd M f).r) :: s) (hs.cons hrr))
    simp only [err, Option.isSome_none, Bool.false_eq_true, if_false, TR.bind, e5, Option.bind_some]
    cases hh3 : PS M k x 2 ((x.other, (nd M f).r) :: s) none with
    | no c w => exact ⟨_, rfl, fun f hf => by cases hf⟩
    | ok b =>
     obtain ⟨rfl, hb3⟩ := e6 b hh3
     by_cases hab : j2 = j3
     ·subst hab
      simp only [err, TR.bind, if_true]
      exact ⟨j2, by simp [err], fun f' hf => by cases hf; exact ⟨rfl, hb2⟩⟩
     ·have hba : ¬ j3 = j2 := fun e => hab e.symm
      simp only [err, TR.bind, hab, if_false]
      exact ⟨j2, by simp [err, hba], fun f' hf => by cases hf⟩
 simp only [types_checker_told.g, toldS, k1, k3, k5, k6, k9, k11, k12, decide_false, Bool.false_eq_true, if_false]
 exact hno 132
theorem err_bind_none {t : TR} {y : Option (Option (Int × List Int))} {z : TR} (h : ∀ f, t = .ok f → y = some (err z)) : (if (err t).isSome = true then some (err t) else y) = some (err (t.bind fun _ => z)) := by
 cases t with
 | ok f => simpa [err, TR.bind] using h f rfl
 | no c w => simp [err, TR.bind]
theorem chkd_tells (hM : Wf M) (hk : k ≤ 1999) (hr : rightT x = true) (hP : Parts M k x T C) {s : Sc} (hs : Sok M s) {id : Int} (hid : inb id M.length = true) (hT : Tells M (T ⟨some M⟩ x s) (toldS M (PS M k x) s x)) : types_checker_checked.g T C ⟨some M⟩ x s id = some (err (chkdS M (PS M k x) s x id)) := by
 have hl := rt_len hr
 have hnode : ∀ (kd : Int) (g : Nd → TR) (y : Nd → Option (Option (Int × List Int))), ((nd M id).kind = kd → y (nd M id) = some (err (g (nd M id)))) → ((types_checker_node.f ⟨some M⟩ id kd).bind fun r => if r.2.isSome = true then some r.2 else y r.1) = some (err (ofK M id kd g)) := by
  intro kd g y hy
  rw [node_tab hid]
  simp only [Option.bind_some, ofK]
  by_cases h : (nd M id).kind = kd
  ·simp only [h, if_true, Option.isSome_none, Bool.false_eq_true, if_false]; exact hy h
  ·simp only [h, if_false, Option.isSome_some, if_true]; rfl
 have hsome : ∀ {y : Option (Option (Int × List Int))}, (y.bind fun r => some r) = y := fun {y} => by cases y <;> rfl
 by_cases k2 : x.kind = 2
 ·simp only [k2, partsS] at hl
  have h0 := inb_len (i := 0) (n := x.sub.length) (by omega)
  simp only [types_checker_checked.g, chkdS, k2, decide_true, if_true, hsome]
  exact hnode 5 (fun n => PS M k x 0 ((x.name, n.l) :: s) (some n.r)) (fun n => types_checker_check.g C ⟨some M⟩ x 0 ((x.name, n.l) :: s) n.r) fun hkd => check_tells hk h0 (hP.chkd 0 h0 _ (hs.cons (hM.left hid (.inr (.inr hkd)))) _ (hM.right hid (.inr (.inr hkd))))
 by_cases k4 : x.kind = 4
 ·simp only [k4, partsS] at hl
  have h0 := inb_len (i := 0) (n := x.sub.length) (by omega)
  have h1 := inb_len (i := 1) (n := x.sub.length) (by omega)
  simp only [types_checker_checked.g, chkdS, k4, Int.reduceEq, decide_false, decide_true, Bool.false_eq_true, if_false, if_true, hsome]
  refine hnode 3 (fun n => (PS M k x 0 s (some n.l)).bind fun _ => PS M k x 1 s (some n.r)) (fun n => (types_checker_check.g C ⟨some M⟩ x 0 s n.l).bind fun r30 => if r30.isSome = true then some r30 else types_checker_check.g C ⟨some M⟩ x 1 s n.r) fun hkd => ?_
  rw [check_tells hk h0 (hP.chkd 0 h0 s hs _ (hM.left hid (.inl hkd)))]
  simp only [Option.bind_some]
  exact err_bind_none fun f _ => check_tells hk h1 (hP.chkd 1 h1 s hs _ (hM.right hid (.inl hkd)))
 by_cases k7 : x.kind = 7
 ·simp only [k7, partsS] at hl
  have h0 := inb_len (i := 0) (n := x.sub.length) (by omega)
  simp only [types_checker_checked.g, chkdS, k7, Int.reduceEq, decide_false, decide_true, Bool.false_eq_true, if_false, if_true, hsome, Option.bind_some]
  exact hnode 4 (fun n => PS M k x 0 s (some n.l)) (fun n => types_checker_check.g C ⟨some M⟩ x 0 s n.l) fun hkd => check_tells hk h0 (hP.chkd 0 h0 s hs _ (hM.left hid (.inr (.inl hkd))))
 by_cases k8 : x.kind = 8
 ·simp only [k8, partsS] at hl
  have h0 := inb_len (i := 0) (n := x.sub.length) (by omega)
  simp only [types_checker_checked.g, chkdS, k8, Int.reduceEq, decide_false, decide_true, Bool.false_eq_true, if_false, if_true, hsome, Option.bind_some]
  exact hnode 4 (fun n => PS M k x 0 s (some n.r)) (fun n => types_checker_check.g C ⟨some M⟩ x 0 s n.r) fun hkd => check_tells hk h0 (hP.chkd 0 h0 s hs _ (hM.right hid (.inr (.inl hkd))))
 by_cases k9 : x.kind = 9
 ·simp only [k9, partsS] at hl
  have h0 := inb_len (i := 0) (n := x.sub.length) (by omega)
  have h1 := inb_len (i := 1) (n := x.sub.length) (by omega)
  have h2 := inb_len (i := 2) (n := x.sub.length) (by omega)
  have e : chkdS M (PS M k x) s x id = (hdS M (PS M k x) s 4).bind fun f => (PS M k x 1 ((x.name, (nd M f).l) :: s) (some id)).bind fun _ => PS M k x 2 ((x.other, (nd M f).r) :: s) (some id) := by
   rw [← hdS_eq (g := fun n => (PS M k x 1 ((x.name, n.l) :: s) (some id)).bind fun _ => PS M k x 2 ((x.other, n.r) :: s) (some id))]
   simp [chkdS, k9]
  obtain ⟨n, e1, e2⟩ := head_tells (kd := 4) hk h0 (hP.told 0 h0 s hs)
  rw [e]
  simp only [types_checker_checked.g, k9, Int.reduceEq, decide_false, decide_true, Bool.false_eq_true, if_false, if_true, hsome, Option.bind_some, e1]
  cases hh : hdS M (PS M k x) s 4 with
  | no c w => rfl
  | ok f =>
   obtain ⟨rfl, hb, hkd⟩ := e2 f hh
   simp only [err, Option.isSome_none, Bool.false_eq_true, if_false, TR.bind]
   rw [check_tells hk h1 (hP.chkd 1 h1 _ (hs.cons (hM.left hb (.inr (.inl hkd)))) _ hid)]
   simp only [Option.bind_some]
   exact err_bind_none fun f' _ => check_tells hk h2 (hP.chkd 2 h2 _ (hs.cons (hM.right hb (.inr (.inl hkd)))) _ hid)
 by_cases k10 : x.kind = 10
 ·simp only [k10, partsS] at hl
  have h0 := inb_len (i := 0) (n := x.sub.length) (by omega)
  have e : chkdS M (PS M k x) s x id = (hdS M (PS M k x) s 2).bind fun f => .ok id := by
   rw [← hdS_eq (g := fun n => .ok id)]
   simp [chkdS, k10]
  obtain ⟨n, e1, e2⟩ := head_tells (kd := 2) hk h0 (hP.told 0 h0 s hs)
  rw [e]
  simp only [types_checker_checked.g, k10, Int.reduceEq, decide_false, decide_true, Bool.false_eq_true, if_false, if_true, hsome, Option.bind_some, e1]
  cases hh : hdS M (PS M k x) s 2 with
  | no c w => rfl
  | ok f => rfl
 by_cases k12 : x.kind = 12
 ·simp only [k12, partsS] at hl
  have h0 := inb_len (i := 0) (n := x.sub.length) (by omega)
  have h1 := inb_len (i := 1) (n := x.sub.length) (by omega)
  obtain ⟨j, e1, e2⟩ := part_tells hk h0 (hP.told 0 h0 s hs)
  simp only [types_checker_checked.g, chkdS, k12, Int.reduceEq, decide_false, decide_true, Bool.false_eq_true, if_false, if_true, hsome, Option.bind_some, e1]
  cases hh : PS M k x 0 s none with
  | no c w => rfl
  | ok f =>
   obtain ⟨rfl, hb⟩ := e2 f hh
   simp only [err, Option.isSome_none, Bool.false_eq_true, if_false, TR.bind]
   exact check_tells hk h1 (hP.chkd 1 h1 _ (hs.cons hb) _ hid)
 obtain ⟨j, e1, e2⟩ := hT
 simp only [types_checker_checked.g, chkdS, k2, k4, k7, k8, k9, k10, k12, decide_false, Bool.false_eq_true, if_false, Option.bind_some, e1]
 cases hh : toldS M (PS M k x) s x with
 | no c w => simp [err, TR.bind]
 | ok f =>
  obtain ⟨rfl, hb⟩ := e2 f hh
  by_cases hj : j = id
  ·subst hj; simp [err, TR.bind]
  ·simp [err, TR.bind, hj]
end
theorem tc_prog {M : List Nd} (hM : Wf M) : ∀ (k : Nat), k ≤ 1999 → ∀ (x : PTerm), rightT x = true → depT x ≤ k →
  (∀ (s : Sc), Sok M s → ∀ K, 2 * k ≤ K → Tells M (types_checker_told.f K ⟨some M⟩ x s) (tyS M k x s none)) ∧
  (∀ (s : Sc), Sok M s → ∀ id, inb id M.length = true → ∀ K, 2 * k + 1 ≤ K → types_checker_checked.f K ⟨some M⟩ x s id = some (err (tyS M k x s (some id))))
 | 0, _, x, _, h => by have := depT_pos x; omega
 | k + 1, hk, x, hr, hd => by
  have hde := depT_eq x
  have hsub : ∀ i, inb i x.sub.length = true → rightT (at_ PTerm.z x.sub i) = true ∧ depT (at_ PTerm.z x.sub i) ≤ k := fun i hi => by
   have hm := at_mem (inb_ex hi)
   rw [rightT_eq, Bool.and_eq_true] at hr
   exact ⟨rightL_mem hr.2 _ hm, by have := depL_mem _ hm; omega⟩
  have hP : ∀ K, 2 * k + 1 ≤ K → Parts M k x (types_checker_told.f K) (types_checker_checked.f K) := fun K hK =>
   ⟨fun i hi s hs => (tc_prog hM k (by omega) _ (hsub i hi).1 (hsub i hi).2).1 s hs K (by omega), fun i hi s hs id hid => (tc_prog hM k (by omega) _ (hsub i hi).1 (hsub i hi).2).2 s hs id hid K (by omega)⟩
  have h1 : ∀ (s : Sc), Sok M s → ∀ K, 2 * (k + 1) ≤ K → Tells M (types_checker_told.f K ⟨some M⟩ x s) (tyS M (k + 1) x s none) := fun s hs K hK => by
   obtain ⟨K', rfl⟩ : ∃ K', K = K' + 1 := ⟨K - 1, by omega⟩
   exact told_tells hM (by omega) hr (hP K' (by omega)) hs
  refine ⟨h1, fun s hs id hid K hK => ?_⟩
  obtain ⟨K', rfl⟩ : ∃ K', K = K' + 1 := ⟨K - 1, by omega⟩
  exact chkd_tells hM (by omega) hr (hP K' (by omega)) hs hid (h1 s hs K' (by omega))
end Go.Proofs.YtjebgcoknpcadaaDoor
end
section
namespace Go.Proofs.YtjebgcoknpcadaaDoor
open Gw
end Go.Proofs.YtjebgcoknpcadaaDoor
end
section
namespace Go.Proofs.YtjebgcoknpcadaaDoor
open Gw
end Go.Proofs.YtjebgcoknpcadaaDoor
end
section
namespace Go.Proofs.YtjebgcoknpcadaaDoor
open Gw
def scS (l : List Hyp) : Sc := (l.map fun h => (h.name, h.form)).reverse
def hypsOk (M : List Nd) (l : List Hyp) : Bool := l.all fun h => inb h.form M.length
theorem scS_ok {M : List Nd} {l : List Hyp} (h : hypsOk M l = true) : Sok M (scS l) := fun q hq => by
 obtain ⟨a, ha, rfl⟩ := List.mem_map.1 (List.mem_reverse.1 hq)
 exact List.all_eq_true.1 h a ha
theorem ahead_loop (l : List Hyp) : ∀ (n i : Nat) (ids : List Int) (s : Sc), i + n = l.length → (ids.length + n) * 8 ≤ 140737488355328 →
  forS (fun i s => types_ahead.b0 l i s.1 s.2) n (i : Int) (ids, s) = some (ids ++ (l.drop i).map (·.form), ((l.drop i).map fun h => (h.name, h.form)).reverse ++ s)
 | 0, i, ids, s, hi, _ => by
  rw [List.drop_eq_nil_of_le (by omega)]; simp [forS]
 | n + 1, i, ids, s, hi, hb => by
  have hil : i < l.length := by omega
  have he : at_ Hyp.z l (i : Int) = l[i] := by
   unfold at_; rw [Int.toNat_natCast, List.getD_eq_getElem?_getD, List.getElem?_eq_getElem hil]; rfl
  have hb0 : types_ahead.b0 l (i : Int) ids s = some (ids ++ [l[i].form], (l[i].name, l[i].form) :: s) := by
   simp only [types_ahead.b0, types_scope_with.f, Option.bind_some, he]
   rw [chk_t (decide_eq_true (by simp only [List.length_singleton]; omega))]
  rw [forS]
  show (types_ahead.b0 l (i : Int) ids s).bind _ = _
  rw [hb0]
  simp only [Option.bind_some]
  have := ahead_loop l n (i + 1) (ids ++ [l[i].form]) ((l[i].name, l[i].form) :: s) (by omega) (by simp only [List.length_append, List.length_singleton]; omega)
  rw [show ((i : Int) + 1) = ((i + 1 : Nat) : Int) by omega, this, List.drop_eq_getElem_cons hil]
  simp only [List.map_cons, List.reverse_cons, List.append_assoc, List.cons_append, List.nil_append, List.singleton_append]
theorem has_inb {M : List Nd} (i : Int) : (nodeS M i).2 = inb i M.length := by
 unfold nodeS hasRow inb
 split <;> simp_all
theorem ahead_some {K : Nat} {M : List Nd} {l : List Hyp} {x : PTerm} {ids : List Int} (hK : 66562 ≤ K) (hn : nmT x) (hb : (ids.length + l.length) * 8 ≤ 140737488355328) :
  types_ahead.f K (some M) l x ids = some (if (ids.all fun i => inb i M.length) && hypsOk M l then (scS l, checkT x) else ([], 31)) := by
 unfold types_ahead.f
 have h1 := ahead_loop l l.length 0 ids [] (by omega) (by omega)
 have e0 : (((l.length : Nat) : Int) - 0).toNat = l.length := by omega
 simp only [formula_Table_Not_neg.f, Option.bind_some, show decide ((31 : Int) = 1) = false from rfl, Bool.false_eq_true, if_false, e0]
 rw [show (0 : Int) = ((0 : Nat) : Int) from rfl, h1]
 simp only [Option.bind_some, List.drop_zero, List.append_nil]
 generalize hids : ids ++ l.map (·.form) = js
 have h2 := forN_find (b := fun i s => types_ahead.b1 (some M) (js, (l.map fun h => (h.name, h.form)).reverse) i) (p := fun k => !inb (js.getD k 0) M.length) (r := fun _ => (([] : List (ByteArray × Int)), (31 : Int))) js.length 0 () (by
  intro k _ hk
  unfold types_ahead.b1 at_
  simp only [formula_Table_Node.f, Option.map_some, Option.bind_some, Int.toNat_natCast, has_inb]
  cases inb (js.getD k 0) M.length <;> rfl)
 have e1 : (((js.length : Nat) : Int) - ((0 : Nat) : Int)).toNat = js.length := by omega
 rw [e1, h2]
 have h3 : ((ids.all fun i => inb i M.length) && hypsOk M l) = !((List.range' 0 js.length).find? fun k => !inb (js.getD k 0) M.length).isSome := by
  have h4 : ((ids.all fun i => inb i M.length) && hypsOk M l) = js.all fun i => inb i M.length := by
   rw [← hids, List.all_append, hypsOk, List.all_map]; rfl
  rw [h4, ← any_find, Bool.eq_iff_iff]
  simp only [List.all_eq_true, Bool.not_eq_true', List.any_eq_false, Bool.not_eq_true, Bool.not_eq_false', List.mem_range'_1]
  constructor
  ·intro hh k hk
   have hk' : k < js.length := by omega
   simp only [List.getD_eq_getElem?_getD, List.getElem?_eq_getElem hk', Option.getD_some]
   simpa using hh _ (List.getElem_mem hk')
  ·intro hh x hx
   obtain ⟨k, hk, rfl⟩ := List.getElem_of_mem hx
   have := hh k ⟨by omega, by omega⟩
   simp only [List.getD_eq_getElem?_getD, List.getElem?_eq_getElem hk, Option.getD_some] at this
   simpa using this
 rw [h3]
 cases (List.range' 0 js.length).find? fun k => !inb (js.getD k 0) M.length with
 | none => simp [aft, Check_some hK hn, scS]
 | some k => simp [aft]
def inferS (M : List Nd) (l : List Hyp) (x : PTerm) : Int × Int := if hypsOk M l then (if checkT x ≠ 0 then (0, checkT x) else ((tyS M (depT x) x (scS l) none).form, (tyS M (depT x) x (scS l) none).code)) else (0, 31)
def whereS (M : List Nd) (l : List Hyp) (x : PTerm) (id : Int) : List Int × Int := if inb id M.length && hypsOk M l then (if checkT x ≠ 0 then ([], checkT x) else ((tyS M (depT x) x (scS l) (some id)).way, (tyS M (depT x) x (scS l) (some id)).code)) else ([], 31)
theorem checkT_ok {x : PTerm} (h : ¬ checkT x ≠ 0) : sizeT x ≤ 65536 ∧ depT x ≤ 1024 ∧ rightT x = true := by
 unfold checkT at h
 split at h
 ·simp at h
 ·split at h
  ·rename_i h1 h2; exact ⟨by omega, by omega, h2⟩
  ·simp at h
theorem code_err (t : TR) : types_code.f (err t) = some (t.way, t.code) := by
 cases t <;> simp [types_code.f, err, TR.way, TR.code, slices_Reverse_int_int.f]
theorem cd_pos {t : TR} (h : Cd t) : (∀ f, t ≠ .ok f) → t.code ≠ 0 := by
 cases t with
 | ok f => intro q; exact absurd rfl (q f)
 | no c w => intro _ q; simp only [TR.code] at q; subst q; simp [Cd] at h
theorem Infer_some {K : Nat} {M : List Nd} {l : List Hyp} {x : PTerm} (hM : Wf M) (hK : 66562 ≤ K) (hn : nmT x) (hb : l.length * 8 ≤ 140737488355328) : types_Infer.f K (some M) l x = some (inferS M l x) := by
 unfold types_Infer.f inferS
 rw [ahead_some hK hn (by simpa using hb)]
 simp only [List.all_nil, Bool.true_and, Option.bind_some]
 by_cases hl : hypsOk M l = true
 ·simp only [hl, if_true]
  by_cases hc : checkT x ≠ 0
  ·simp [hc]
  ·obtain ⟨h1, h2, h3⟩ := checkT_ok hc
   obtain ⟨i, e1, e2⟩ := (tc_prog hM (depT x) (by omega) x h3 (Nat.le_refl _)).1 (scS l) (scS_ok hl) K (by omega)
   have hcd := tyS_cd (M := M) (depT x) x (scS l) none
   simp only [hc, decide_false, Bool.false_eq_true, if_false, e1, Option.bind_some, code_err]
   cases ht : tyS M (depT x) x (scS l) none with
   | ok f =>
    obtain ⟨rfl, _⟩ := e2 f ht
    simp [TR.code, TR.form]
   | no c w =>
    rw [ht] at hcd
    have := cd_pos hcd (by intro f; simp)
    simp only [TR.code] at this
    simp [TR.code, TR.form, this]
 ·simp [hl]
theorem Where_some {K : Nat} {M : List Nd} {l : List Hyp} {x : PTerm} {id : Int} (hM : Wf M) (hK : 66562 ≤ K) (hn : nmT x) (hb : (1 + l.length) * 8 ≤ 140737488355328) : types_Where.f K (some M) l x id = some (whereS M l x id) := by
 unfold types_Where.f whereS
 rw [ahead_some hK hn (by simpa using hb)]
 simp only [List.all_cons, List.all_nil, Bool.and_true, Option.bind_some]
 by_cases hl : (inb id M.length && hypsOk M l) = true
 ·simp only [hl, if_true]
  rw [Bool.and_eq_true] at hl
  by_cases hc : checkT x ≠ 0
  ·simp [hc]
  ·obtain ⟨h1, h2, h3⟩ := checkT_ok hc
   have e1 := (tc_prog hM (depT x) (by omega) x h3 (Nat.le_refl _)).2 (scS l) (scS_ok hl.2) id hl.1 K (by omega)
   simp only [hc, decide_false, Bool.false_eq_true, if_false, e1, Option.bind_some, code_err]
 ·simp [hl]
theorem CheckF_some {K : Nat} {M : List Nd} {l : List Hyp} {x : PTerm} {id : Int} (hM : Wf M) (hK : 66562 ≤ K) (hn : nmT x) (hb : (1 + l.length) * 8 ≤ 140737488355328) : types_Check.f K (some M) l x id = some (whereS M l x id).2 := by
 unfold types_Check.f
 rw [Where_some hM hK hn hb]; rfl
theorem has_some (M : List Nd) (i : Int) : ref03_T_Has.f (some M) i = some (inb i M.length) := by
 simp [ref03_T_Has.f, chk, inb]
end Go.Proofs.YtjebgcoknpcadaaDoor
end
section
namespace Go.Proofs.YtjebgcoknpcadaaDoor
open Gw
-- nodes, levels, what is right, as the document tells them
theorem rsize_some : ∀ (K : Nat) (x : PTerm) (n : Nat), n ≤ 65536 → 65540 ≤ K + n → sizeL x.sub < 9223372036854775807 → ref12_size.f K x (n : Int) = some ((min (n + sizeT x) 65537 : Nat) : Int)
 | 0, _, _, h1, h2, _ => by omega
 | K + 1, x, n, h1, h2, hbig => by
  show ref12_size.g (ref12_size.f K) K x n = _
  unfold ref12_size.g
  have hs := sizeT_eq x
  have hls := len_sizeL x.sub
  have hw : IntKind.i64.wrap ((n : Int) + 1) = ((n + 1 : Nat) : Int) := by
   rw [show ((n : Int) + 1) = ((n + 1 : Nat) : Int) by omega]; exact wrap_nat (by omega)
  have hgrow : ∀ i, i ≤ x.sub.length → i ≤ sizeL (x.sub.take i) := fun i hi => by
   have := len_sizeL (x.sub.take i); rw [List.length_take] at this; omega
  obtain ⟨N, hN1, hN2⟩ : ∃ N, N = min x.sub.length (65536 - n) ∧ (N = x.sub.length ∨ 65537 ≤ n + 1 + sizeL (x.sub.take N)) := by
   refine ⟨_, rfl, ?_⟩
   by_cases h : x.sub.length ≤ 65536 - n
   ·left; omega
   ·right
    have := hgrow (min x.sub.length (65536 - n)) (by omega)
    omega
  have hfin : min (n + 1 + sizeL (x.sub.take N)) 65537 = min (n + sizeT x) 65537 := by
   rcases hN2 with h | h
   ·rw [h, List.take_length]; omega
   ·have := sizeL_le (l := x.sub) N; omega
  obtain ⟨j, hj⟩ := iter_count (b := fun s => ref12_size.b0 x (ref12_size.f K) s.1 s.2) (g := fun i => ((min (n + 1 + sizeL (x.sub.take i)) 65537 : Nat) : Int)) N (fun i hi => by
   have hil : i < x.sub.length := by omega
   have he := List.getElem?_eq_getElem hil
   have hd := sizeL_take he
   simp only [ref12_size.b0]
   by_cases hc : n + 1 + sizeL (x.sub.take i) ≤ 65536
   ·left
    have hm : min (n + 1 + sizeL (x.sub.take i)) 65537 = n + 1 + sizeL (x.sub.take i) := by omega
    rw [hm, if_pos (by simp; omega), chk_t (by rw [inb_nat]; exact decide_eq_true hil), at_nat hil, rsize_some K _ _ hc (by omega) (by have := sizeL_mem (List.getElem_mem hil); have := sizeT_eq x.sub[i]; omega)]
    simp only [Option.bind_some]
    rw [show (i : Int) + 1 = ((i + 1 : Nat) : Int) by omega, wrap_nat (by omega), hd]
    congr 5
    omega
   ·right
    rw [if_neg (by simp; omega)]
    refine ⟨rfl, ?_⟩
    congr 1
    have h6 := sizeL_le (l := x.sub) i
    have h7 : sizeL (x.sub.take i) ≤ sizeL (x.sub.take N) := by
     have := sizeL_le (l := x.sub.take N) i
     rw [List.take_take, Nat.min_eq_left (by omega)] at this; exact this
    omega) (by
   simp only [ref12_size.b0]
   rcases hN2 with h | h
   ·rw [if_neg (by rw [h]; simp)]
   ·rw [if_neg (by simp; omega)]) K 0 (by omega) (by omega)
  simp only [List.take_zero, sizeL, Nat.add_zero] at hj
  rw [Nat.min_eq_left (show n + 1 ≤ 65537 by omega), show ((0 : Nat) : Int) = 0 from rfl, hfin] at hj
  rw [hw, hj]
  simp only [Option.bind_some, aft]
theorem rdeep_some : ∀ (K : Nat) (x : PTerm) (lv : Nat), 1 ≤ lv → lv ≤ 1025 → sizeT x ≤ 65536 → sizeT x + 1025 < K + lv → ref12_deep.f K x (lv : Int) = some ((min (lv - 1 + depT x) 1025 : Nat) : Int)
 | 0, x, lv, h1, h2, h3, hK => by have := sizeT_pos x; omega
 | K + 1, x, lv, h1, h2, h3, hK => by
  show ref12_deep.g (ref12_deep.f K) K x lv = _
  unfold ref12_deep.g
  have hp := depT_pos x
  by_cases hm : 1024 < lv
  ·rw [if_pos (by simp; omega)]
   congr 2; omega
  rw [if_neg (by simp; omega)]
  have hw : IntKind.i64.wrap ((lv : Int) + 1) = ((lv + 1 : Nat) : Int) := by
   rw [show ((lv : Int) + 1) = ((lv + 1 : Nat) : Int) by omega]; exact wrap_nat (by omega)
  have hs := sizeT_eq x
  have hls := len_sizeL x.sub
  obtain ⟨j, hj⟩ := iter_count (b := fun s => ref12_deep.b0 x (ref12_deep.f K) lv s.1 s.2) (g := fun i => ((min (lv + depL (x.sub.take i)) 1025 : Nat) : Int)) x.sub.length (fun i hi => by
   have he := List.getElem?_eq_getElem hi
   have hd := depL_take he
   have hle := depL_le (l := x.sub) i
   simp only [ref12_deep.b0, hw]
   by_cases hc : lv + depL (x.sub.take i) ≤ 1024
   ·left
    rw [if_pos (by simp; omega), chk_t (by rw [inb_nat]; exact decide_eq_true hi), at_nat hi, rdeep_some K _ (lv + 1) (by omega) (by omega) (by have := sizeL_mem (List.getElem_mem hi); omega) (by have := sizeL_mem (List.getElem_mem hi); omega)]
    simp only [Option.bind_some]
    rw [show (i : Int) + 1 = ((i + 1 : Nat) : Int) by omega, wrap_nat (by omega)]
    congr 3
    rw [hd]
    split <;> omega
   ·right
    rw [if_neg (by simp; omega)]
    refine ⟨rfl, ?_⟩
    rw [List.take_length]
    congr 1
    omega) (by
   simp only [ref12_deep.b0, hw]
   rw [if_neg (by simp)]) K 0 (by omega) (by omega)
  simp only [List.take_zero, depL, Nat.add_zero, List.take_length] at hj
  rw [show min lv 1025 = lv by omega, show ((0 : Nat) : Int) = 0 from rfl] at hj
  rw [hj]
  simp only [Option.bind_some, aft]
  rw [depT_eq]
  congr 2
  omega
theorem rparts_some (k : Int) : ref12_parts.f k = some (partsS k) := by
 by_cases h : k = 1 ∨ k = 2 ∨ k = 3 ∨ k = 4 ∨ k = 5 ∨ k = 6 ∨ k = 7 ∨ k = 8 ∨ k = 9 ∨ k = 10 ∨ k = 11 ∨ k = 12
 ·rcases h with rfl | rfl | rfl | rfl | rfl | rfl | rfl | rfl | rfl | rfl | rfl | rfl <;> decide
 ·simp only [not_or] at h
  obtain ⟨h1, h2, h3, h4, h5, h6, h7, h8, h9, h10, h11, h12⟩ := h
  simp [ref12_parts.f, partsS, h1, h2, h3, h4, h5, h6, h7, h8, h9, h10, h11, h12]
theorem iter_all {ρ : Type} {b : Int → Option (Stp Int ρ)} {p : Nat → Bool} {r : ρ} (n : Nat) (h : ∀ i, i < n → b (i : Int) = some (if p i then .go ((i + 1 : Nat) : Int) else .ret r)) (he : b (n : Int) = some (.brk (n : Int))) :
  ∀ (k i : Nat), i ≤ n → n - i < k → iter b k (i : Int) = some (if (List.range' i (n - i)).all p then .inl (n : Int) else .inr r)
 | 0, i, _, hk => by omega
 | k + 1, i, hi, hk => by
  by_cases hin : i = n
  ·subst hin; simp only [iter, he, Option.bind_some, Nat.sub_self, List.range'_zero, List.all_nil, if_true]
  ·rw [iter, h i (by omega), show n - i = (n - (i + 1)) + 1 by omega, List.range'_succ, List.all_cons]
   cases hp : p i with
   | true =>
    simp only [if_true, Option.bind_some, Bool.true_and]
    exact iter_all n h he k (i + 1) (by omega) (by omega)
   | false => simp only [Bool.false_eq_true, if_false, Option.bind_some, Bool.false_and]
theorem rright_some : ∀ (K : Nat) (x : PTerm), nmT x → depT x + 3 < K → ref12_right.f K x = some (rightT x)
 | 0, x, _, h => by omega
 | K + 1, x, hn, hK => by
  have hd := depT_eq x
  obtain ⟨n1, n2, n3⟩ := (nmT_eq x).1 hn
  show ref12_right.g (ref12_right.f K) K x = _
  unfold ref12_right.g
  rw [rparts_some, rightT_eq]
  simp only [Option.bind_some]
  by_cases hl : partsS x.kind = (x.sub.length : Int)
  ·have hlen : x.sub.length ≤ 3 := by
    unfold partsS at hl
    split at hl
    ·omega
    split at hl
    ·omega
    split at hl
    ·omega
    split at hl <;> omega
   have hloop : iter (fun s => ref12_right.b0 x (ref12_right.f K) s) K 0 = some (if rightL x.sub then .inl (x.sub.length : Int) else .inr false) := by
    have h1 := iter_all (b := fun s => ref12_right.b0 x (ref12_right.f K) s) (p := fun i => rightT (x.sub.getD i PTerm.z)) (r := false) x.sub.length (fun i hi => by
     have he := List.getElem?_eq_getElem hi
     have hm := List.getElem_mem hi
     simp only [ref12_right.b0]
     rw [if_pos (by simp; omega), chk_t (by rw [inb_nat]; exact decide_eq_true hi), at_nat hi, rright_some K _ (nmL_mem n3 _ hm) (by have := depL_mem _ hm; omega)]
     simp only [Option.bind_some, List.getD_eq_getElem?_getD, he, Option.getD_some]
     rw [show (i : Int) + 1 = ((i + 1 : Nat) : Int) by omega, wrap_nat (by omega)]
     cases rightT x.sub[i] <;> rfl) (by
     simp only [ref12_right.b0]
     rw [if_neg (by simp)]) K 0 (by omega) (by omega)
    rw [show ((0 : Nat) : Int) = 0 from rfl] at h1
    rw [h1]
    have h2 : (List.range' 0 (x.sub.length - 0)).all (fun i => rightT (x.sub.getD i PTerm.z)) = rightL x.sub := by
     rw [rightL_all, Bool.eq_iff_iff]
     simp only [List.all_eq_true, List.mem_range'_1, Nat.sub_zero]
     constructor
     ·intro hh y hy
      obtain ⟨k, hk, rfl⟩ := List.getElem_of_mem hy
      have := hh k ⟨by omega, by omega⟩
      simpa only [List.getD_eq_getElem?_getD, List.getElem?_eq_getElem hk, Option.getD_some] using this
     ·intro hh k hk
      have hk' : k < x.sub.length := by omega
      simp only [List.getD_eq_getElem?_getD, List.getElem?_eq_getElem hk', Option.getD_some]
      exact hh _ (List.getElem_mem hk')
    rw [h2]
   rw [hloop]
   unfold nodeR
   simp only [ref03_Word.f]
   rw [chk_t (decide_eq_true n1), chk_t (decide_eq_true n2)]
   have hb : ((((decide (x.kind = 1)) || (decide (x.kind = 2))) || (decide (x.kind = 9))) || (decide (x.kind = 12))) = decide (x.kind = 1 ∨ x.kind = 2 ∨ x.kind = 9 ∨ x.kind = 12) := by
    rw [Bool.eq_iff_iff]; simp; omega
   rw [hb]
   generalize partsS x.kind = p at hl
   subst hl
   by_cases hk : x.kind = 1 ∨ x.kind = 2 ∨ x.kind = 9 ∨ x.kind = 12
   ·simp only [if_pos hk, decide_eq_true hk]
    by_cases hw : isWord x.name
    ·by_cases h9 : x.kind = 9
     ·have h9' : ¬ x.kind ≠ 9 := fun q => q h9
      simp only [if_pos h9, decide_eq_true h9, decide_eq_false h9']
      by_cases ho : isWord x.other
      ·by_cases hf : x.form = 0
       ·cases hr : rightL x.sub <;> simp [h9, hw, ho, hf, hr, aft]
       ·cases hr : rightL x.sub <;> simp [h9, hw, ho, hf, hr, aft]
      ·simp [hw, ho]
     ·have h9' : x.kind ≠ 9 := h9
      simp only [if_neg h9, decide_eq_false h9, decide_eq_true h9']
      by_cases ho : x.other = ⟨#[]⟩
      ·by_cases h11 : x.kind = 11
       ·omega
       ·by_cases hf : x.form = 0
        ·cases hr : rightL x.sub <;> simp [h11, hw, ho, hf, hr, aft]
        ·cases hr : rightL x.sub <;> simp [h11, hw, ho, hf, hr, aft]
      ·simp [hw, ho]
    ·simp [hw]
   ·have h9 : ¬ x.kind = 9 := fun e => hk (.inr (.inr (.inl e)))
    have h9' : x.kind ≠ 9 := h9
    simp only [if_neg hk, decide_eq_false hk, if_neg h9, decide_eq_false h9, decide_eq_true h9']
    by_cases hw : x.name = ⟨#[]⟩
    ·by_cases ho : x.other = ⟨#[]⟩
     ·by_cases h11 : x.kind = 11
      ·by_cases hf : 0 ≤ x.form
       ·by_cases hg : x.form < 1024
        ·have q1 : ¬ x.form < 0 := by omega
         have q2 : ¬ 1024 ≤ x.form := by omega
         cases hr : rightL x.sub <;> simp [h11, hw, ho, hf, hg, q1, q2, hr, aft]
        ·have q2 : 1024 ≤ x.form := by omega
         simp [h11, hw, ho, hf, hg, q2]
       ·have q1 : x.form < 0 := by omega
        simp [h11, hw, ho, hf, q1]
      ·by_cases hf : x.form = 0
       ·cases hr : rightL x.sub <;> simp [h11, hw, ho, hf, hr, aft]
       ·simp [h11, hw, ho, hf]
     ·simp [hw, ho]
    ·simp [hw]
  ·rw [if_pos (by simpa using hl)]
   simp [nodeR, hl]
theorem rCheck_some {K : Nat} {x : PTerm} (hK : 67000 ≤ K) (hn : nmT x) (hbig : sizeL x.sub < 9223372036854775807) : ref12_Check.f K x = some (checkT x) := by
 unfold ref12_Check.f ref12_Size.f ref12_Deep.f checkT
 rw [show (0 : Int) = ((0 : Nat) : Int) from rfl, rsize_some K x 0 (by omega) (by omega) hbig]
 simp only [Option.bind_some, Nat.zero_add]
 by_cases hs : 65536 < sizeT x
 ·have h1 : min (sizeT x) 65537 = 65537 := by omega
  simp [h1, hs]
 ·have h1 : min (sizeT x) 65537 = sizeT x := by omega
  have h2 : ¬ (65536 : Int) < (sizeT x : Int) := by omega
  rw [h1, show (1 : Int) = ((1 : Nat) : Int) from rfl]
  simp only [h2, decide_false, Bool.not_false, if_true, rdeep_some K x 1 (by omega) (by omega) (by omega) (by omega), Option.bind_some, Bool.false_or, decide_eq_true_eq, hs, false_or, Nat.sub_self, Nat.zero_add]
  have hdp := depT_pos x
  by_cases hd : 1024 < depT x
  ·have h3 : (1024 : Int) < ((min (depT x) 1025 : Nat) : Int) := by omega
   simp [h3, hd]
  ·have h3 : ¬ (1024 : Int) < ((min (depT x) 1025 : Nat) : Int) := by omega
   rw [if_neg h3, if_neg hd, rright_some K x hn (by omega)]
   cases rightT x <;> rfl
-- typing
theorem scS_app (l m : List Hyp) : scS (l ++ m) = scS m ++ scS l := by simp [scS]
structure Okc (M : List Nd) (c : PC) (k : Nat) : Prop where
 t : c.t = some M
 s : Sok M (scS c.hyps)
 h : c.hyps.length + k ≤ 2000000
 w : c.way.length + k ≤ 2000000
def RT (M : List Nd) (c : PC) (r : Option (PC × Int × Int)) (t : TR) : Prop := match t with
 | .ok f => r = some (c, f, 0) ∧ inb f M.length = true
 | .no e w => ∃ c', r = some (c', 0, e) ∧ c'.t = c.t ∧ c'.wrong = c.way ++ w
def RK (c : PC) (r : Option (PC × Int)) (t : TR) : Prop := match t with
 | .ok _ => r = some (c, 0)
 | .no e w => ∃ c', r = some (c', e) ∧ c'.t = c.t ∧ c'.wrong = c.way ++ w
abbrev RTf : Type := PC → PTerm → Option (PC × Int × Int)
abbrev RKf : Type := PC → PTerm → Int → Option (PC × Int)
structure RParts (M : List Nd) (k : Nat) (x : PTerm) (T : RTf) (C : RKf) : Prop where
 told : ∀ i, inb i x.sub.length = true → ∀ c, Okc M c k → RT M c (T c (at_ PTerm.z x.sub i)) (tyS M k (at_ PTerm.z x.sub i) (scS c.hyps) none)
 chkd : ∀ i, inb i x.sub.length = true → ∀ c, Okc M c k → ∀ id, inb id M.length = true → RK c (C c (at_ PTerm.z x.sub i) id) (tyS M k (at_ PTerm.z x.sub i) (scS c.hyps) (some id))
section
variable {M : List Nd} {x : PTerm} {k : Nat} {T : RTf} {C : RKf} {c : PC}
theorem wrap_pred {n : Nat} (h : n < 9223372036854775807) (h1 : 1 ≤ n) : IntKind.i64.wrap ((n : Int) - 1) = ((n - 1 : Nat) : Int) := by
 rw [show ((n : Int) - 1) = ((n - 1 : Nat) : Int) by omega]; exact wrap_nat (by omega)
theorem rtold (hP : RParts M k x T C) (hc : Okc M c (k + 1)) {i : Int} (hi : inb i x.sub.length = true) {more : List Hyp} (hm : ∀ h ∈ more, inb h.form M.length = true) (hl : more.length ≤ 1) : RT M c (ref13_C_told.g T c x i more) (PS M k x i (scS (c.hyps ++ more)) none) := by
 have b1 := hc.h
 have b2 := hc.w
 have hc1 : Okc M ⟨c.t, c.hyps ++ more, c.way ++ [i], c.wrong⟩ k := ⟨hc.t, fun q hq => by
  simp only [scS_app] at hq
  rcases List.mem_append.1 hq with hq | hq
  ·obtain ⟨a, ha, rfl⟩ := List.mem_map.1 (List.mem_reverse.1 hq); exact hm a ha
  ·exact hc.s q hq, by simp only [List.length_append]; omega, by simp only [List.length_append, List.length_singleton]; omega⟩
 have h := hP.told i hi _ hc1
 unfold ref13_C_told.g
 rw [chk_t (decide_eq_true (by omega)), chk_t (decide_eq_true (by simp only [List.length_singleton]; omega)), chk_t hi]
 show RT M c _ ((tyS M k (at_ PTerm.z x.sub i) (scS (c.hyps ++ more)) none).at_ i)
 have hcd := tyS_cd (M := M) k (at_ PTerm.z x.sub i) (scS (c.hyps ++ more)) none
 simp only at h
 cases ht : tyS M k (at_ PTerm.z x.sub i) (scS (c.hyps ++ more)) none with
 | ok f =>
  rw [ht] at h
  obtain ⟨h1, h2⟩ := h
  rw [h1]
  have hw : IntKind.i64.wrap (((c.way ++ [i]).length : Int) - 1) = (c.way.length : Int) := by
   rw [wrap_pred (by simp only [List.length_append, List.length_singleton]; omega) (by simp)]; simp
  simp only [Option.bind_some, decide_true, if_true, hw]
  rw [chk_t (decide_eq_true ⟨by omega, by simp only [List.length_append, List.length_singleton]; omega⟩), chk_t (decide_eq_true ⟨by omega, by simp only [List.length_append]; omega⟩)]
  refine ⟨?_, h2⟩
  simp
 | no e w =>
  rw [ht] at h hcd
  obtain ⟨c', h1, h2, h3⟩ := h
  rw [h1]
  have he := cd_pos hcd (by intro f; simp)
  simp only [TR.code] at he
  simp only [Option.bind_some, he, decide_false, Bool.false_eq_true, if_false]
  exact ⟨c', rfl, h2, by rw [h3]; simp⟩
theorem rchkd (hP : RParts M k x T C) (hc : Okc M c (k + 1)) {i : Int} (hi : inb i x.sub.length = true) {more : List Hyp} (hm : ∀ h ∈ more, inb h.form M.length = true) (hl : more.length ≤ 1) {id : Int} (hid : inb id M.length = true) : RK c (ref13_C_checked.g C c x i more id) (PS M k x i (scS (c.hyps ++ more)) (some id)) := by
 have b1 := hc.h
 have b2 := hc.w
 have hc1 : Okc M ⟨c.t, c.hyps ++ more, c.way ++ [i], c.wrong⟩ k := ⟨hc.t, fun q hq => by
  simp only [scS_app] at hq
  rcases List.mem_append.1 hq with hq | hq
  ·obtain ⟨a, ha, rfl⟩ := List.mem_map.1 (List.mem_reverse.1 hq); exact hm a ha
  ·exact hc.s q hq, by simp only [List.length_append]; omega, by simp only [List.length_append, List.length_singleton]; omega⟩
 have h := hP.chkd i hi _ hc1 id hid
 unfold ref13_C_checked.g
 rw [chk_t (decide_eq_true (by omega)), chk_t (decide_eq_true (by simp only [List.length_singleton]; omega)), chk_t hi]
 show RK c _ ((tyS M k (at_ PTerm.z x.sub i) (scS (c.hyps ++ more)) (some id)).at_ i)
 have hcd := tyS_cd (M := M) k (at_ PTerm.z x.sub i) (scS (c.hyps ++ more)) (some id)
 simp only at h
 cases ht : tyS M k (at_ PTerm.z x.sub i) (scS (c.hyps ++ more)) (some id) with
 | ok f =>
  rw [ht] at h
  have h1 : _ = _ := h
  rw [h1]
  have hw : IntKind.i64.wrap (((c.way ++ [i]).length : Int) - 1) = (c.way.length : Int) := by
   rw [wrap_pred (by simp only [List.length_append, List.length_singleton]; omega) (by simp)]; simp
  simp only [Option.bind_some, decide_true, if_true, hw]
  rw [chk_t (decide_eq_true ⟨by omega, by simp only [List.length_append, List.length_singleton]; omega⟩), chk_t (decide_eq_true ⟨by omega, by simp only [List.length_append]; omega⟩)]
  show _ = _
  simp
 | no e w =>
  rw [ht] at h hcd
  obtain ⟨c', h1, h2, h3⟩ := h
  rw [h1]
  have he := cd_pos hcd (by intro f; simp)
  simp only [TR.code] at he
  simp only [Option.bind_some, he, decide_false, Bool.false_eq_true, if_false]
  exact ⟨c', rfl, h2, by rw [h3]; simp⟩
theorem rnode (hc : Okc M c k) {i : Int} (hi : inb i M.length = true) : ref13_C_node.f c i = some (nd M i) := by
 unfold ref13_C_node.f
 rw [hc.t]
 simp only [Option.isSome_some, Option.getD_some]
 rw [chk_t rfl, chk_t hi]
 congr 1
 have h1 := inb_ex hi
 unfold at_ nd nodeS hasRow
 rw [if_pos (by simp; omega)]
theorem rrefuse (hc : Okc M c k) (e : Int) : ref13_C_refuse.f c e = some (⟨c.t, c.hyps, c.way, c.way⟩, 0, e) := by
 have := hc.w
 unfold ref13_C_refuse.f
 rw [chk_t (decide_eq_true (by simp only [List.length_nil]; omega))]
 simp
theorem rlook (hb : c.hyps.length < 9223372036854775807) : ∀ (i : Nat), i ≤ c.hyps.length → ∀ K, i < K → iter (fun s => ref13_C_Told.b0 c x s) K ((i : Int) - 1) = some (match (scS (c.hyps.take i)).find? (fun q => decide (q.1 = x.name)) with | some q => .inr (c, q.2, 0) | none => .inl (-1))
 | 0, _, K, hK => by
  obtain ⟨K, rfl⟩ : ∃ q, K = q + 1 := ⟨K - 1, by omega⟩
  simp [iter, ref13_C_Told.b0, scS]
 | i + 1, hi, K, hK => by
  obtain ⟨K, rfl⟩ : ∃ q, K = q + 1 := ⟨K - 1, by omega⟩
  have hil : i < c.hyps.length := by omega
  have he : at_ Hyp.z c.hyps (i : Int) = c.hyps[i] := by
   unfold at_; rw [Int.toNat_natCast, List.getD_eq_getElem?_getD, List.getElem?_eq_getElem hil]; rfl
  have e1 : (((i + 1 : Nat) : Int) - 1) = (i : Int) := by omega
  have hsc : scS (c.hyps.take (i + 1)) = (c.hyps[i].name, c.hyps[i].form) :: scS (c.hyps.take i) := by
   rw [List.take_succ_eq_append_getElem hil, scS_app]; rfl
  rw [e1, iter, hsc]
  simp only [ref13_C_Told.b0]
  rw [if_pos (by simp), chk_t (by rw [inb_nat]; exact decide_eq_true hil), he]
  by_cases hn : c.hyps[i].name = x.name
  ·rw [if_pos (decide_eq_true hn), chk_t (by rw [inb_nat]; exact decide_eq_true hil)]
   simp [hn]
  ·rw [if_neg (by simpa using hn)]
   have hw : IntKind.i64.wrap ((i : Int) - 1) = (i : Int) - 1 := IntWalk.i64_in _ ⟨by omega, by omega⟩
   simp only [Option.bind_some, hw]
   have ih := rlook hb i (by omega) K (by omega)
   simp only [ref13_C_Told.b0] at ih
   rw [ih, List.find?_cons_of_neg (by simpa using hn)]
theorem rtold_tells (hM : Wf M) {K : Nat} (hK : 2000000 ≤ K) (hr : rightT x = true) (hP : RParts M k x T C) (hc : Okc M c (k + 1)) : RT M c (ref13_C_Told.g T C K c x) (toldS M (PS M k x) (scS c.hyps) x) := by
 have hl := rt_len hr
 have b1 := hc.h
 have hno : ∀ e, RT M c ((ref13_C_refuse.f c e).bind fun r27 => some (r27.1, r27.2.1, r27.2.2)) (.no e []) := fun e => by
  rw [rrefuse hc]; exact ⟨_, rfl, rfl, by simp⟩
 have hnil : ∀ i w, PS M k x i (scS (c.hyps ++ [])) w = PS M k x i (scS c.hyps) w := fun i w => by rw [List.append_nil]
 have hone : ∀ i n f w, PS M k x i (scS (c.hyps ++ [(⟨n, f⟩ : Hyp)])) w = PS M k x i ((n, f) :: scS c.hyps) w := fun i n f w => by rw [scS_app]; rfl
 have hcdP : ∀ i s w, Cd (PS M k x i s w) := fun i s w => (tyS_cd k _ _ _).at_ i
 have part0 : ∀ i, inb i x.sub.length = true → RT M c (ref13_C_told.g T c x i []) (PS M k x i (scS c.hyps) none) := fun i hi => by
  have := rtold hP hc hi (more := []) (by simp) (by simp); rwa [hnil] at this
 have part1 : ∀ i, inb i x.sub.length = true → ∀ n f, inb f M.length = true → RT M c (ref13_C_told.g T c x i [(⟨n, f⟩ : Hyp)]) (PS M k x i ((n, f) :: scS c.hyps) none) := fun i hi n f hf => by
  have := rtold hP hc hi (more := [(⟨n, f⟩ : Hyp)]) (by simpa using hf) (by simp); rwa [hone] at this
 have chk0 : ∀ i, inb i x.sub.length = true → ∀ id, inb id M.length = true → RK c (ref13_C_checked.g C c x i [] id) (PS M k x i (scS c.hyps) (some id)) := fun i hi id hid => by
  have := rchkd hP hc hi (more := []) (by simp) (by simp) hid; rwa [hnil] at this
 by_cases k1 : x.kind = 1
 ·have h1 := rlook (c := c) (x := x) (by omega) c.hyps.length (Nat.le_refl _) K (by omega)
  rw [List.take_length] at h1
  have hw : IntKind.i64.wrap ((c.hyps.length : Int) - 1) = (c.hyps.length : Int) - 1 := IntWalk.i64_in _ ⟨by omega, by omega⟩
  simp only [ref13_C_Told.g, toldS, k1, decide_true, if_true, hw, h1, Option.bind_some]
  cases hf : (scS c.hyps).find? (fun q => decide (q.1 = x.name)) with
  | none => exact hno 131
  | some q => exact ⟨rfl, find_tab hc.s _ hf⟩
 by_cases k3 : x.kind = 3
 ·simp only [k3, partsS] at hl
  have h0 := inb_len (i := 0) (n := x.sub.length) (by omega)
  have h1 := inb_len (i := 1) (n := x.sub.length) (by omega)
  have p0 := part0 0 h0
  have cd0 := hcdP 0 (scS c.hyps) none
  simp only [ref13_C_Told.g, toldS, k3, Int.reduceEq, decide_false, decide_true, Bool.false_eq_true, if_false, if_true]
  cases hp : PS M k x 0 (scS c.hyps) none with
  | no e w =>
   rw [hp] at p0 cd0
   obtain ⟨c', e1, e2, e3⟩ := p0
   have he := cd_pos cd0 (by intro f; simp)
   simp only [TR.code] at he
   rw [e1]
   simp only [Option.bind_some, decide_eq_true he, if_true, TR.bind]
   exact ⟨c', rfl, e2, e3⟩
  | ok f =>
   rw [hp] at p0
   obtain ⟨e1, hb⟩ := p0
   rw [e1]
   simp only [Option.bind_some, ne_eq, not_true_eq_false, decide_false, Bool.false_eq_true, if_false, rnode hc hb, TR.bind, ofK]
   by_cases hkd : (nd M f).kind = 5
   ·have hl := hM.left hb (.inr (.inr hkd))
    have hrr := hM.right hb (.inr (.inr hkd))
    have q1 := chk0 1 h1 _ hl
    have cd1 := hcdP 1 (scS c.hyps) (some (nd M f).l)
    simp only [hkd, not_true_eq_false, decide_false, Bool.false_eq_true, if_false, if_true]
    cases hq : PS M k x 1 (scS c.hyps) (some (nd M f).l) with
    | no e w =>
     rw [hq] at q1 cd1
     obtain ⟨c', e1, e2, e3⟩ := q1
     have he := cd_pos cd1 (by intro f; simp)
     simp only [TR.code] at he
     rw [e1]
     simp only [Option.bind_some, he, not_false_eq_true, decide_true, if_true, TR.bind]
     exact ⟨c', rfl, e2, e3⟩
    | ok g =>
     rw [hq] at q1
     have q1 : _ = _ := q1
     rw [q1]
     simp only [Option.bind_some, not_true_eq_false, decide_false, Bool.false_eq_true, if_false, rnode hc hb, TR.bind]
     exact ⟨rfl, hrr⟩
   ·simp only [hkd, not_false_eq_true, decide_true, if_true, if_false]
    exact hno 130
 by_cases k56 : x.kind = 5 ∨ x.kind = 6
 ·have h56 : (if decide (x.kind = 5) = true then some (decide (x.kind = 5)) else some (decide (x.kind = 6))) = some true := by
   rcases k56 with h | h <;> simp [h]
  have h0 : inb 0 x.sub.length = true := by
   rcases k56 with h | h <;> (simp only [h, partsS] at hl; exact inb_len (i := 0) (n := x.sub.length) (by omega))
  have e : toldS M (PS M k x) (scS c.hyps) x = (PS M k x 0 (scS c.hyps) none).bind fun f => ofK M f 3 fun n => .ok (if x.kind = 5 then n.l else n.r) := by
   rcases k56 with h | h <;> simp [toldS, h]
  rw [e]
  have p0 := part0 0 h0
  have cd0 := hcdP 0 (scS c.hyps) none
  simp only [ref13_C_Told.g, k1, k3, decide_false, Bool.false_eq_true, if_false, h56, Option.bind_some, if_true]
  cases hp : PS M k x 0 (scS c.hyps) none with
  | no e w =>
   rw [hp] at p0 cd0
   obtain ⟨c', e1, e2, e3⟩ := p0
   have he := cd_pos cd0 (by intro f; simp)
   simp only [TR.code] at he
   rw [e1]
   simp only [Option.bind_some, decide_eq_true he, if_true, TR.bind]
   exact ⟨c', rfl, e2, e3⟩
  | ok f =>
   rw [hp] at p0
   obtain ⟨e1, hb⟩ := p0
   rw [e1]
   simp only [Option.bind_some, ne_eq, not_true_eq_false, decide_false, Bool.false_eq_true, if_false, rnode hc hb, TR.bind, ofK]
   by_cases hkd : (nd M f).kind = 3
   ·have hl := hM.left hb (.inl hkd)
    have hrr := hM.right hb (.inl hkd)
    simp only [hkd, not_true_eq_false, decide_false, Bool.false_eq_true, if_false, if_true]
    by_cases k5 : x.kind = 5
    ·simp only [k5, decide_true, if_true]; exact ⟨rfl, hl⟩
    ·simp only [k5, decide_false, Bool.false_eq_true, if_false]; exact ⟨rfl, hrr⟩
   ·simp only [hkd, not_false_eq_true, decide_true, if_true, if_false]
    exact hno 130
 have k5 : ¬ x.kind = 5 := fun h => k56 (.inl h)
 have k6 : ¬ x.kind = 6 := fun h => k56 (.inr h)
 by_cases k11 : x.kind = 11
 ·simp only [k11, partsS] at hl
  have h0 := inb_len (i := 0) (n := x.sub.length) (by omega)
  simp only [ref13_C_Told.g, toldS, k11, Int.reduceEq, decide_false, decide_true, Bool.false_eq_true, if_false, if_true, Option.bind_some, hc.t, has_some]
  by_cases hf : inb x.form M.length = true
  ·have q1 := chk0 0 h0 _ hf
   have cd1 := hcdP 0 (scS c.hyps) (some x.form)
   simp only [hf, if_true, Bool.not_true, Bool.false_eq_true, if_false]
   cases hq : PS M k x 0 (scS c.hyps) (some x.form) with
   | no e w =>
    rw [hq] at q1 cd1
    obtain ⟨c', e1, e2, e3⟩ := q1
    have he := cd_pos cd1 (by intro f; simp)
    simp only [TR.code] at he
    rw [e1]
    simp only [Option.bind_some, ne_eq, he, not_false_eq_true, decide_true, if_true, TR.bind]
    exact ⟨c', rfl, e2, e3⟩
   | ok g =>
    rw [hq] at q1
    have q1 : _ = _ := q1
    rw [q1]
    simp only [Option.bind_some, ne_eq, not_true_eq_false, decide_false, Bool.false_eq_true, if_false, TR.bind]
    exact ⟨rfl, hf⟩
  ·have hf' : inb x.form M.length = false := by simpa using hf
   simp only [hf', Bool.not_false, if_true, Bool.false_eq_true, if_false]
   exact hno 31
 by_cases k12 : x.kind = 12
 ·simp only [k12, partsS] at hl
  have h0 := inb_len (i := 0) (n := x.sub.length) (by omega)
  have h1 := inb_len (i := 1) (n := x.sub.length) (by omega)
  have p0 := part0 0 h0
  have cd0 := hcdP 0 (scS c.hyps) none
  simp only [ref13_C_Told.g, toldS, k12, Int.reduceEq, decide_false, decide_true, Bool.false_eq_true, if_false, if_true, Option.bind_some, ref13_one.f]
  cases hp : PS M k x 0 (scS c.hyps) none with
  | no e w =>
   rw [hp] at p0 cd0
   obtain ⟨c', e1, e2, e3⟩ := p0
   have he := cd_pos cd0 (by intro f; simp)
   simp only [TR.code] at he
   rw [e1]
   simp only [Option.bind_some, decide_eq_true he, if_true, TR.bind]
   exact ⟨c', rfl, e2, e3⟩
  | ok f =>
   rw [hp] at p0
   obtain ⟨e1, hb⟩ := p0
   rw [e1]
   simp only [Option.bind_some, ne_eq, not_true_eq_false, decide_false, Bool.false_eq_true, if_false, TR.bind]
   have q1 := part1 1 h1 x.name f hb
   cases hq : PS M k x 1 ((x.name, f) :: scS c.hyps) none with
   | no e w =>
    rw [hq] at q1
    obtain ⟨c', e1, e2, e3⟩ := q1
    rw [e1]; exact ⟨c', rfl, e2, e3⟩
   | ok g =>
    rw [hq] at q1
    obtain ⟨e1, hb2⟩ := q1
    rw [e1]; exact ⟨rfl, hb2⟩
 by_cases k9 : x.kind = 9
 ·simp only [k9, partsS] at hl
  have h0 := inb_len (i := 0) (n := x.sub.length) (by omega)
  have h1 := inb_len (i := 1) (n := x.sub.length) (by omega)
  have h2 := inb_len (i := 2) (n := x.sub.length) (by omega)
  have p0 := part0 0 h0
  have cd0 := hcdP 0 (scS c.hyps) none
  simp only [ref13_C_Told.g, toldS, k9, Int.reduceEq, decide_false, decide_true, Bool.false_eq_true, if_false, if_true, Option.bind_some, ref13_one.f]
  cases hp : PS M k x 0 (scS c.hyps) none with
  | no e w =>
   rw [hp] at p0 cd0
   obtain ⟨c', e1, e2, e3⟩ := p0
   have he := cd_pos cd0 (by intro f; simp)
   simp only [TR.code] at he
   rw [e1]
   simp only [Option.bind_some, decide_eq_true he, if_true, TR.bind]
   exact ⟨c', rfl, e2, e3⟩
  | ok f =>
   rw [hp] at p0
   obtain ⟨e1, hb⟩ := p0
   rw [e1]
   simp only [Option.bind_some, ne_eq, not_true_eq_false, decide_false, Bool.false_eq_true, if_false, rnode hc hb, TR.bind, ofK]
   by_cases hkd : (nd M f).kind = 4
   ·have hl := hM.left hb (.inr (.inl hkd))
    have hrr := hM.right hb (.inr (.inl hkd))
    simp only [hkd, not_true_eq_false, decide_false, Bool.false_eq_true, if_false, if_true]
    have q1 := part1 1 h1 x.name _ hl
    have cd1 := hcdP 1 ((x.name, (nd M f).l) :: scS c.hyps) none
    cases hq : PS M k x 1 ((x.name, (nd M f).l) :: scS c.hyps) none with
    | no e w =>
     rw [hq] at q1 cd1
     obtain ⟨c', e1, e2, e3⟩ := q1
     have he := cd_pos cd1 (by intro f; simp)
     simp only [TR.code] at he
     rw [e1]
     simp only [Option.bind_some, he, not_false_eq_true, decide_true, if_true, TR.bind]
     exact ⟨c', rfl, e2, e3⟩
    | ok a =>
     rw [hq] at q1
     obtain ⟨e1, hb2⟩ := q1
     rw [e1]
     simp only [Option.bind_some, not_true_eq_false, decide_false, Bool.false_eq_true, if_false, rnode hc hb, TR.bind]
     have q2 := part1 2 h2 x.other _ hrr
     have cd2 := hcdP 2 ((x.other, (nd M f).r) :: scS c.hyps) none
     cases hq2 : PS M k x 2 ((x.other, (nd M f).r) :: scS c.hyps) none with
     | no e w =>
      rw [hq2] at q2 cd2
      obtain ⟨c', e1, e2, e3⟩ := q2
      have he := cd_pos cd2 (by intro f; simp)
      simp only [TR.code] at he
      rw [e1]
      simp only [Option.bind_some, he, not_false_eq_true, decide_true, if_true, TR.bind]
      exact ⟨c', rfl, e2, e3⟩
     | ok b =>
      rw [hq2] at q2
      obtain ⟨e1, hb3⟩ := q2
      rw [e1]
      simp only [Option.bind_some, not_true_eq_false, decide_false, Bool.false_eq_true, if_false, TR.bind]
      by_cases hab : a = b
      ·simp only [hab, not_true_eq_false, decide_false, Bool.false_eq_true, if_false, if_true]
       exact ⟨rfl, hb3⟩
      ·simp only [hab, not_false_eq_true, decide_true, if_true, if_false]
       exact hno 130
   ·simp only [hkd, not_false_eq_true, decide_true, if_true, if_false]
    exact hno 130
 have h56 : (if decide (x.kind = 5) = true then some (decide (x.kind = 5)) else some (decide (x.kind = 6))) = some false := by
  simp [k5, k6]
 simp only [ref13_C_Told.g, toldS, k1, k3, k5, k6, k9, k11, k12, decide_false, Bool.false_eq_true, if_false, Option.bind_some]
 exact hno 132
theorem rchkd_tells (hM : Wf M) (hr : rightT x = true) (hP : RParts M k x T C) (hc : Okc M c (k + 1)) {id : Int} (hid : inb id M.length = true) (hT : RT M c (T c x) (toldS M (PS M k x) (scS c.hyps) x)) : RK c (ref13_C_Checked.g T C c x id) (chkdS M (PS M k x) (scS c.hyps) x id) := by
 have hl := rt_len hr
 have hno : ∀ e, RK c ((ref13_C_no.f c e).bind fun r11 => some (r11.1, r11.2)) (.no e []) := fun e => by
  unfold ref13_C_no.f
  rw [rrefuse hc]; exact ⟨_, rfl, rfl, by simp⟩
 have hnil : ∀ i w, PS M k x i (scS (c.hyps ++ [])) w = PS M k x i (scS c.hyps) w := fun i w => by rw [List.append_nil]
 have hone : ∀ i n f w, PS M k x i (scS (c.hyps ++ [(⟨n, f⟩ : Hyp)])) w = PS M k x i ((n, f) :: scS c.hyps) w := fun i n f w => by rw [scS_app]; rfl
 have hcdP : ∀ i s w, Cd (PS M k x i s w) := fun i s w => (tyS_cd k _ _ _).at_ i
 have part0 : ∀ i, inb i x.sub.length = true → RT M c (ref13_C_told.g T c x i []) (PS M k x i (scS c.hyps) none) := fun i hi => by
  have := rtold hP hc hi (more := []) (by simp) (by simp); rwa [hnil] at this
 have chk0 : ∀ i, inb i x.sub.length = true → ∀ id, inb id M.length = true → RK c (ref13_C_checked.g C c x i [] id) (PS M k x i (scS c.hyps) (some id)) := fun i hi id hid => by
  have := rchkd hP hc hi (more := []) (by simp) (by simp) hid; rwa [hnil] at this
 have chk1 : ∀ i, inb i x.sub.length = true → ∀ n f, inb f M.length = true → ∀ id, inb id M.length = true → RK c (ref13_C_checked.g C c x i [(⟨n, f⟩ : Hyp)] id) (PS M k x i ((n, f) :: scS c.hyps) (some id)) := fun i hi n f hf id hid => by
  have := rchkd hP hc hi (more := [(⟨n, f⟩ : Hyp)]) (by simpa using hf) (by simp) hid; rwa [hone] at this
 have hend : ∀ {y : Option (PC × Int)} {t : TR}, RK c y t → RK c (y.bind fun r => some (r.1, r.2)) t := fun {y t} h => by
  cases y with
  | none => exact h
  | some q => exact h
 have hnd := rnode hc hid
 by_cases k2 : x.kind = 2
 ·simp only [k2, partsS] at hl
  have h0 := inb_len (i := 0) (n := x.sub.length) (by omega)
  simp only [ref13_C_Checked.g, chkdS, hnd, k2, decide_true, if_true, Option.bind_some, ref13_one.f, ofK, ne_eq]
  by_cases hkd : (nd M id).kind = 5
  ·simp only [hkd, not_true_eq_false, decide_false, Bool.false_eq_true, if_false, if_true]
   exact hend (chk1 0 h0 _ _ (hM.left hid (.inr (.inr hkd))) _ (hM.right hid (.inr (.inr hkd))))
  ·simp only [hkd, not_false_eq_true, decide_true, if_true, if_false]
   exact hno 130
 by_cases k4 : x.kind = 4
 ·simp only [k4, partsS] at hl
  have h0 := inb_len (i := 0) (n := x.sub.length) (by omega)
  have h1 := inb_len (i := 1) (n := x.sub.length) (by omega)
  simp only [ref13_C_Checked.g, chkdS, hnd, k4, Int.reduceEq, decide_false, decide_true, Bool.false_eq_true, if_false, if_true, Option.bind_some, ofK, ne_eq]
  by_cases hkd : (nd M id).kind = 3
  ·simp only [hkd, not_true_eq_false, decide_false, Bool.false_eq_true, if_false, if_true]
   have q1 := chk0 0 h0 _ (hM.left hid (.inl hkd))
   have cd1 := hcdP 0 (scS c.hyps) (some (nd M id).l)
   cases hq : PS M k x 0 (scS c.hyps) (some (nd M id).l) with
   | no e w =>
    rw [hq] at q1 cd1
    obtain ⟨c', e1, e2, e3⟩ := q1
    have he := cd_pos cd1 (by intro f; simp)
    simp only [TR.code] at he
    rw [e1]
    simp only [Option.bind_some, he, not_false_eq_true, decide_true, if_true, TR.bind]
    exact ⟨c', rfl, e2, e3⟩
   | ok g =>
    rw [hq] at q1
    have q1 : _ = _ := q1
    rw [q1]
    simp only [Option.bind_some, not_true_eq_false, decide_false, Bool.false_eq_true, if_false, TR.bind]
    exact hend (chk0 1 h1 _ (hM.right hid (.inl hkd)))
  ·simp only [hkd, not_false_eq_true, decide_true, if_true, if_false]
   exact hno 130
 by_cases k78 : x.kind = 7 ∨ x.kind = 8
 ·have h78 : (if decide (x.kind = 7) = true then some (decide (x.kind = 7)) else some (decide (x.kind = 8))) = some true := by
   rcases k78 with h | h <;> simp [h]
  have h0 : inb 0 x.sub.length = true := by
   rcases k78 with h | h <;> (simp only [h, partsS] at hl; exact inb_len (i := 0) (n := x.sub.length) (by omega))
  have e : chkdS M (PS M k x) (scS c.hyps) x id = ofK M id 4 fun n => PS M k x 0 (scS c.hyps) (some (if x.kind = 7 then n.l else n.r)) := by
   rcases k78 with h | h <;> simp [chkdS, h]
  rw [e]
  simp only [ref13_C_Checked.g, hnd, k2, k4, decide_false, Bool.false_eq_true, if_false, h78, Option.bind_some, if_true, ofK, ne_eq]
  by_cases hkd : (nd M id).kind = 4
  ·simp only [hkd, not_true_eq_false, decide_false, Bool.false_eq_true, if_false, if_true]
   by_cases k7 : x.kind = 7
   ·simp only [k7, decide_true, if_true]; exact hend (chk0 0 h0 _ (hM.left hid (.inr (.inl hkd))))
   ·simp only [k7, decide_false, Bool.false_eq_true, if_false]; exact hend (chk0 0 h0 _ (hM.right hid (.inr (.inl hkd))))
  ·simp only [hkd, not_false_eq_true, decide_true, if_true, if_false]
   exact hno 130
 have k7 : ¬ x.kind = 7 := fun h => k78 (.inl h)
 have k8 : ¬ x.kind = 8 := fun h => k78 (.inr h)
 have h78 : (if decide (x.kind = 7) = true then some (decide (x.kind = 7)) else some (decide (x.kind = 8))) = some false := by
  simp [k7, k8]
 by_cases k9 : x.kind = 9
 ·simp only [k9, partsS] at hl
  have h0 := inb_len (i := 0) (n := x.sub.length) (by omega)
  have h1 := inb_len (i := 1) (n := x.sub.length) (by omega)
  have h2 := inb_len (i := 2) (n := x.sub.length) (by omega)
  have p0 := part0 0 h0
  have cd0 := hcdP 0 (scS c.hyps) none
  simp only [ref13_C_Checked.g, chkdS, hnd, k9, Int.reduceEq, decide_false, decide_true, Bool.false_eq_true, if_false, if_true, Option.bind_some, ref13_one.f]
  cases hp : PS M k x 0 (scS c.hyps) none with
  | no e w =>
   rw [hp] at p0 cd0
   obtain ⟨c', e1, e2, e3⟩ := p0
   have he := cd_pos cd0 (by intro f; simp)
   simp only [TR.code] at he
   rw [e1]
   simp only [Option.bind_some, decide_eq_true he, if_true, TR.bind]
   exact ⟨c', rfl, e2, e3⟩
  | ok f =>
   rw [hp] at p0
   obtain ⟨e1, hb⟩ := p0
   rw [e1]
   simp only [Option.bind_some, ne_eq, not_true_eq_false, decide_false, Bool.false_eq_true, if_false, rnode hc hb, TR.bind, ofK]
   by_cases hkd : (nd M f).kind = 4
   ·simp only [hkd, not_true_eq_false, decide_false, Bool.false_eq_true, if_false, if_true]
    have q1 := chk1 1 h1 x.name _ (hM.left hb (.inr (.inl hkd))) _ hid
    have cd1 := hcdP 1 ((x.name, (nd M f).l) :: scS c.hyps) (some id)
    cases hq : PS M k x 1 ((x.name, (nd M f).l) :: scS c.hyps) (some id) with
    | no e w =>
     rw [hq] at q1 cd1
     obtain ⟨c', e1, e2, e3⟩ := q1
     have he := cd_pos cd1 (by intro f; simp)
     simp only [TR.code] at he
     rw [e1]
     simp only [Option.bind_some, he, not_false_eq_true, decide_true, if_true, TR.bind]
     exact ⟨c', rfl, e2, e3⟩
    | ok a =>
     rw [hq] at q1
     have q1 : _ = _ := q1
     rw [q1]
     simp only [Option.bind_some, not_true_eq_false, decide_false, Bool.false_eq_true, if_false, rnode hc hb, TR.bind]
     exact hend (chk1 2 h2 x.other _ (hM.right hb (.inr (.inl hkd))) _ hid)
   ·simp only [hkd, not_false_eq_true, decide_true, if_true, if_false]
    exact hno 130
 by_cases k10 : x.kind = 10
 ·simp only [k10, partsS] at hl
  have h0 := inb_len (i := 0) (n := x.sub.length) (by omega)
  have p0 := part0 0 h0
  have cd0 := hcdP 0 (scS c.hyps) none
  simp only [ref13_C_Checked.g, chkdS, hnd, k10, Int.reduceEq, decide_false, decide_true, Bool.false_eq_true, if_false, if_true, Option.bind_some]
  cases hp : PS M k x 0 (scS c.hyps) none with
  | no e w =>
   rw [hp] at p0 cd0
   obtain ⟨c', e1, e2, e3⟩ := p0
   have he := cd_pos cd0 (by intro f; simp)
   simp only [TR.code] at he
   rw [e1]
   simp only [Option.bind_some, decide_eq_true he, if_true, TR.bind]
   exact ⟨c', rfl, e2, e3⟩
  | ok f =>
   rw [hp] at p0
   obtain ⟨e1, hb⟩ := p0
   rw [e1]
   simp only [Option.bind_some, ne_eq, not_true_eq_false, decide_false, Bool.false_eq_true, if_false, rnode hc hb, TR.bind, ofK]
   by_cases hkd : (nd M f).kind = 2
   ·simp only [hkd, not_true_eq_false, decide_false, Bool.false_eq_true, if_false, if_true]
    rfl
   ·simp only [hkd, not_false_eq_true, decide_true, if_true, if_false]
    exact hno 130
 by_cases k12 : x.kind = 12
 ·simp only [k12, partsS] at hl
  have h0 := inb_len (i := 0) (n := x.sub.length) (by omega)
  have h1 := inb_len (i := 1) (n := x.sub.length) (by omega)
  have p0 := part0 0 h0
  have cd0 := hcdP 0 (scS c.hyps) none
  simp only [ref13_C_Checked.g, chkdS, hnd, k12, Int.reduceEq, decide_false, decide_true, Bool.false_eq_true, if_false, if_true, Option.bind_some, ref13_one.f]
  cases hp : PS M k x 0 (scS c.hyps) none with
  | no e w =>
   rw [hp] at p0 cd0
   obtain ⟨c', e1, e2, e3⟩ := p0
   have he := cd_pos cd0 (by intro f; simp)
   simp only [TR.code] at he
   rw [e1]
   simp only [Option.bind_some, decide_eq_true he, if_true, TR.bind]
   exact ⟨c', rfl, e2, e3⟩
  | ok f =>
   rw [hp] at p0
   obtain ⟨e1, hb⟩ := p0
   rw [e1]
   simp only [Option.bind_some, ne_eq, not_true_eq_false, decide_false, Bool.false_eq_true, if_false, TR.bind]
   exact hend (chk1 1 h1 x.name f hb _ hid)
 simp only [ref13_C_Checked.g, chkdS, hnd, k2, k4, k7, k8, k9, k10, k12, decide_false, Bool.false_eq_true, if_false, Option.bind_some]
 have cdt := toldS_cd (M := M) (P := PS M k x) hcdP (scS c.hyps) x
 cases hh : toldS M (PS M k x) (scS c.hyps) x with
 | no e w =>
  rw [hh] at hT cdt
  obtain ⟨c', e1, e2, e3⟩ := hT
  have he := cd_pos cdt (by intro f; simp)
  simp only [TR.code] at he
  rw [e1]
  simp only [Option.bind_some, decide_eq_true he, if_true, TR.bind]
  exact ⟨c', rfl, e2, e3⟩
 | ok f =>
  rw [hh] at hT
  obtain ⟨e1, hb⟩ := hT
  rw [e1]
  simp only [Option.bind_some, ne_eq, not_true_eq_false, decide_false, Bool.false_eq_true, if_false, TR.bind]
  by_cases hj : f = id
  ·simp only [hj, not_true_eq_false, decide_false, Bool.false_eq_true, if_false, if_true]; rfl
  ·simp only [hj, not_false_eq_true, decide_true, if_true, if_false]
   exact hno 130
end
theorem tc_doc {M : List Nd} (hM : Wf M) : ∀ (k : Nat) (x : PTerm), rightT x = true → depT x ≤ k →
  (∀ c, Okc M c k → ∀ K, 2000000 + 2 * k ≤ K → RT M c (ref13_C_Told.f K c x) (tyS M k x (scS c.hyps) none)) ∧
  (∀ c, Okc M c k → ∀ id, inb id M.length = true → ∀ K, 2000000 + 2 * k + 1 ≤ K → RK c (ref13_C_Checked.f K c x id) (tyS M k x (scS c.hyps) (some id)))
 | 0, x, _, h => by have := depT_pos x; omega
 | k + 1, x, hr, hd => by
  have hde := depT_eq x
  have hsub : ∀ i, inb i x.sub.length = true → rightT (at_ PTerm.z x.sub i) = true ∧ depT (at_ PTerm.z x.sub i) ≤ k := fun i hi => by
   have hm := at_mem (inb_ex hi)
   rw [rightT_eq, Bool.and_eq_true] at hr
   exact ⟨rightL_mem hr.2 _ hm, by have := depL_mem _ hm; omega⟩
  have hP : ∀ K, 2000000 + 2 * k + 1 ≤ K → RParts M k x (ref13_C_Told.f K) (ref13_C_Checked.f K) := fun K hK =>
   ⟨fun i hi c hc => (tc_doc hM k _ (hsub i hi).1 (hsub i hi).2).1 c hc K (by omega), fun i hi c hc id hid => (tc_doc hM k _ (hsub i hi).1 (hsub i hi).2).2 c hc id hid K (by omega)⟩
  have h1 : ∀ c, Okc M c (k + 1) → ∀ K, 2000000 + 2 * (k + 1) ≤ K → RT M c (ref13_C_Told.f K c x) (tyS M (k + 1) x (scS c.hyps) none) := fun c hc K hK => by
   obtain ⟨K', rfl⟩ : ∃ K', K = K' + 1 := ⟨K - 1, by omega⟩
   exact rtold_tells hM (K := K') (by omega) hr (hP K' (by omega)) hc
  refine ⟨h1, fun c hc id hid K hK => ?_⟩
  obtain ⟨K', rfl⟩ : ∃ K', K = K' + 1 := ⟨K - 1, by omega⟩
  exact rchkd_tells hM hr (hP K' (by omega)) hc hid (h1 c hc K' (by omega))
theorem rahead_some {K : Nat} {M : List Nd} {l : List Hyp} {x : PTerm} (hK : 67000 ≤ K) (hn : nmT x) (hbig : sizeL x.sub < 9223372036854775807) : ref13_ahead.f K (some M) l x = some (if hypsOk M l then checkT x else 31) := by
 unfold ref13_ahead.f
 have h2 := forN_find (b := fun i s => ref13_ahead.b0 (some M) l i) (p := fun k => !inb (l.getD k Hyp.z).form M.length) (r := fun _ => (31 : Int)) l.length 0 () (by
  intro k _ hk
  unfold ref13_ahead.b0 at_
  simp only [has_some, Option.bind_some, Int.toNat_natCast]
  cases inb (l.getD k Hyp.z).form M.length <;> rfl)
 have e1 : (((l.length : Nat) : Int) - 0).toNat = l.length := by omega
 rw [e1, show (0 : Int) = ((0 : Nat) : Int) from rfl, h2]
 have h3 : hypsOk M l = !((List.range' 0 l.length).find? fun k => !inb (l.getD k Hyp.z).form M.length).isSome := by
  rw [hypsOk, ← any_find, Bool.eq_iff_iff]
  simp only [List.all_eq_true, Bool.not_eq_true', List.any_eq_false, Bool.not_eq_true, Bool.not_eq_false', List.mem_range'_1]
  constructor
  ·intro hh k hk
   have hk' : k < l.length := by omega
   simp only [List.getD_eq_getElem?_getD, List.getElem?_eq_getElem hk', Option.getD_some]
   simpa using hh _ (List.getElem_mem hk')
  ·intro hh x hx
   obtain ⟨k, hk, rfl⟩ := List.getElem_of_mem hx
   have := hh k ⟨by omega, by omega⟩
   simp only [List.getD_eq_getElem?_getD, List.getElem?_eq_getElem hk, Option.getD_some] at this
   simpa using this
 rw [h3]
 cases (List.range' 0 l.length).find? fun k => !inb (l.getD k Hyp.z).form M.length with
 | none => simp [aft, rCheck_some hK hn hbig]
 | some k => simp [aft]
theorem rWhere_some {K : Nat} {M : List Nd} {l : List Hyp} {x : PTerm} {id : Int} (hM : Wf M) (hK : 2100000 ≤ K) (hn : nmT x) (hbig : sizeL x.sub < 9223372036854775807) (hb : l.length ≤ 1100000) : ref13_Where.f K (some M) l x id = some (some M, (whereS M l x id).1, (whereS M l x id).2) := by
 unfold ref13_Where.f whereS
 simp only [has_some, Option.bind_some, rahead_some (K := K) (by omega) hn hbig]
 cases hid : inb id M.length with
 | false => simp
 | true =>
  cases hl : hypsOk M l with
  | false => simp
  | true =>
   simp only [Bool.not_true, Bool.false_eq_true, if_false, if_true, Bool.and_self]
   by_cases hc : checkT x ≠ 0
   ·simp [hc]
   ·obtain ⟨h1, h2, h3⟩ := checkT_ok hc
    have hok : Okc M ⟨some M, [] ++ l, [], []⟩ (depT x) := ⟨rfl, by simpa using scS_ok hl, by simp; omega, by simp; omega⟩
    have e1 := (tc_doc hM (depT x) x h3 (Nat.le_refl _)).2 _ hok id hid K (by omega)
    simp only [hc, decide_false, Bool.false_eq_true, if_false, ref13_checker.f]
    rw [chk_t (decide_eq_true (by simp only [List.length_nil]; omega))]
    simp only [Option.bind_some]
    simp only [List.nil_append] at e1 ⊢
    have hcd := tyS_cd (M := M) (depT x) x (scS l) (some id)
    cases ht : tyS M (depT x) x (scS l) (some id) with
    | ok f =>
     rw [ht] at e1
     have e1 : _ = _ := e1
     rw [e1]; simp [TR.way, TR.code]
    | no e w =>
     rw [ht] at e1 hcd
     obtain ⟨c', q1, q2, q3⟩ := e1
     have he := cd_pos hcd (by intro f; simp)
     simp only [TR.code] at he
     rw [q1]
     simp only [Option.bind_some, he, decide_false, Bool.false_eq_true, if_false, TR.way, TR.code, q2, q3, List.nil_append]
theorem rInfer_some {K : Nat} {M : List Nd} {l : List Hyp} {x : PTerm} (hM : Wf M) (hK : 2100000 ≤ K) (hn : nmT x) (hbig : sizeL x.sub < 9223372036854775807) (hb : l.length ≤ 1100000) : ref13_Infer.f K (some M) l x = some (some M, (inferS M l x).1, (inferS M l x).2) := by
 unfold ref13_Infer.f inferS
 simp only [Option.bind_some, rahead_some (K := K) (by omega) hn hbig]
 cases hl : hypsOk M l with
 | false => simp
 | true =>
  simp only [if_true]
  by_cases hc : checkT x ≠ 0
  ·simp [hc]
  ·obtain ⟨h1, h2, h3⟩ := checkT_ok hc
   have hok : Okc M ⟨some M, [] ++ l, [], []⟩ (depT x) := ⟨rfl, by simpa using scS_ok hl, by simp; omega, by simp; omega⟩
   have e1 := (tc_doc hM (depT x) x h3 (Nat.le_refl _)).1 _ hok K (by omega)
   simp only [hc, decide_false, Bool.false_eq_true, if_false, ref13_checker.f]
   rw [chk_t (decide_eq_true (by simp only [List.length_nil]; omega))]
   simp only [Option.bind_some]
   simp only [List.nil_append] at e1 ⊢
   cases ht : tyS M (depT x) x (scS l) none with
   | ok f =>
    rw [ht] at e1
    obtain ⟨e1, _⟩ := e1
    rw [e1]; simp [TR.form, TR.code]
   | no e w =>
    rw [ht] at e1
    obtain ⟨c', q1, q2, q3⟩ := e1
    rw [q1]
    simp [TR.form, TR.code, q2]
theorem TypesChecks_true {k : Nat} (hk : 2100000 ≤ k) (hh : law13_heads.f k = some true) {rows : List Nd} {l : List Hyp} {x : PTerm} {id : Int} (hnm : ∀ n ∈ rows, n.name.size < 9223372036854775808) (hrl : rows.length * 40 ≤ 140737488355328) (hn : nmT x) (hbig : sizeL x.sub < 9223372036854775807) (hb : l.length ≤ 1100000) :
  law13_TypesChecks.f k rows l x id = some true := by
 unfold law13_TypesChecks.f
 rcases both_some hnm hrl with h | ⟨h, hw⟩
 ·rw [h]; simp [hh]
 rw [h]
 simp only [Option.bind_some, Bool.not_true, Bool.false_eq_true, if_false, List.nil_append]
 rw [chk_t (decide_eq_true (by simp only [List.length_nil]; omega)), CheckF_some hw (by omega) hn (by omega)]
 simp only [Option.bind_some]
 rw [Infer_some hw (by omega) hn (by omega)]
 simp only [Option.bind_some]
 rw [Where_some hw (by omega) hn (by omega)]
 simp only [Option.bind_some]
 rw [rWhere_some hw hk hn hbig hb]
 simp only [Option.bind_some]
 rw [rInfer_some hw hk hn hbig hb]
 simp only [Option.bind_some, ne_eq, not_true_eq_false, decide_false, Bool.or_self, Bool.not_false, if_true, ints_self, Bool.not_true, Bool.false_eq_true, if_false]
 have h2 := forN_find (b := fun i s => law13_TypesChecks.b0 l i) (p := fun _ => false) (r := fun _ => false) l.length 0 () (by
  intro k _ hk
  unfold law13_TypesChecks.b0
  rw [inb_nat, chk_t (decide_eq_true (by omega))]
  simp)
 have e1 : (((l.length : Nat) : Int) - 0).toNat = l.length := by omega
 rw [e1, show (0 : Int) = ((0 : Nat) : Int) from rfl, h2, show (List.range' 0 l.length).find? (fun _ => false) = none from List.find?_eq_none.2 (by simp)]
 simp only [Option.bind_some, aft, like_self, if_true, hh, Bool.and_self]
theorem heads13b : law13_heads.f 2200000 = some true := by decide +kernel
end Go.Proofs.YtjebgcoknpcadaaDoor
end
section
namespace Go.Proofs.YtjebgcoknpcadaaDoor
open Gw Go.ChangeShapes Go.WideShapes Go.ChangeAt Go.RowKit
set_option maxRecDepth 100000
theorem ownKnob_none : ownKnob PP.godebug = none := by kernel_rfl
theorem laidOut_PP : laidOutB PP = true := by kernel_rfl
theorem trodAll_stays {H : Type} {enc : TypeId × Value → H} {W W' : World} {sp : Nat → Bool} : ∀ {ts : List TypeId} {vs : List Value} {ds : List (DataW H)} {ps : List MemPlace}, (∀ t ∈ ts, PP.readableRec t = true ∧ t < PP.types.size) →
  DataW.TrodAll enc PP W 0 (fun _ => true) true ts vs ds ps → (∀ p ∈ ps, W.sameAt W' p) → (∀ p ∈ ps, sp p.block = true) → DataW.TrodAll enc PP W' 0 sp true ts vs ds ps
 | [], vs, ds, ps, _, h, _, _ => by
  obtain ⟨rfl, rfl, rfl⟩ := trodAll_nil h
  exact trodAll_mk0
 | t :: ts, vs, ds, ps, hr, h, h1, h2 => by
  obtain ⟨v, vs, d, ds, p, q, rfl, rfl, rfl, h0, h3⟩ := trodAll_cons h
  have ht := hr t (by simp)
  exact trodAll_cons_mk (WideElems.Trod_stays laidOut_PP ht.1 ht.2 h0 (fun x hx => h1 x (by simp [hx])) (fun x hx => h2 x (by simp [hx])))
   (trodAll_stays (fun t ht => hr t (by simp [ht])) h3 (fun x hx => h1 x (by simp [hx])) (fun x hx => h2 x (by simp [hx])))
def oth0 : Oth := ⟨fun _ => False, [], fun _ h => by cases h⟩
section
variable {P : Program} {W : World} {b t : Nat} {k : IntKind} {v : Value}
theorem cell_int (ht : P.underlying t = some (.int k)) (h : Cell.okWide P W .any b t v) : ∃ n, v = .int k n ∧ k.has n := by
 simp only [Cell.okWide, ht] at h
 cases v <;> simp_all [Cell.ok]
theorem int_of (ht : P.underlying t = some (.int k)) (h : Value.okWide P W .any b t v) : ∃ n, v = .int k n ∧ k.has n := by
 unfold Value.okWide at h
 rw [ht] at h
 exact cell_int ht h
end
section
variable {H : Type} {enc : TypeId × Value → H} {P : Program} {W : World} {t : TypeId} {fuel : Nat} {cs : List Value} {x : DataW H × List MemPlace} {sp : Nat → Bool} {hd : Bool} {b0 : Nat}
theorem take_one {l : List Value} {o : Nat} {v : Value} (h : (l.drop o).take 1 = [v]) : l[o]? = some v := by
 have : ((l.drop o).take 1)[0]? = some v := by rw [h]; rfl
 rw [List.getElem?_take] at this
 simpa using this
theorem fld_int {i off ft : Nat} {k : IntKind} (hf : FieldV P t i off ft) (hk : P.underlying ft = some (.int k)) (hc : P.cellsOf ft = 1) (h : DataW.trod enc P W b0 sp hd fuel t cs = some x) : ∃ n, cs[off]? = some (.int k n) := by
 obtain ⟨fs, fd, hu, hi, rfl, rfl⟩ := hf
 obtain ⟨xs, n, _, _, hl, hx, hall⟩ := DataW.trod_struct hu h
 have h1 := hall i fd hi
 have h2 : i < xs.length := by rw [hx]; exact (Array.getElem?_eq_some_iff.1 hi).1
 rw [List.getElem?_eq_getElem h2, hc] at h1
 obtain ⟨n, e, _⟩ := DataW.trod_int hk h1
 exact ⟨n, take_one e⟩
theorem fld_str {i off ft : Nat} (hf : FieldV P t i off ft) (hk : P.underlying ft = some .string) (hc : P.cellsOf ft = 1) (h : DataW.trod enc P W b0 sp hd fuel t cs = some x) : ∃ s : ByteArray, cs[off]? = some (.string s) ∧ s.size ≤ maxLen := by
 obtain ⟨fs, fd, hu, hi, rfl, rfl⟩ := hf
 obtain ⟨xs, n, _, _, hl, hx, hall⟩ := DataW.trod_struct hu h
 have h1 := hall i fd hi
 have h2 : i < xs.length := by rw [hx]; exact (Array.getElem?_eq_some_iff.1 hi).1
 rw [List.getElem?_eq_getElem h2, hc] at h1
 obtain ⟨s, e, _, hs⟩ := DataW.trod_string hk h1
 exact ⟨s, take_one e, hs⟩
theorem slice_of {α : Type} [Inhabited α] {e k : Nat} {C : α → List Value} {Q : α → Prop} {base : Nat} {v : Value} {d : DataW H} {ps : List MemPlace} (ht : P.underlying t = some (.slice e)) (hk : P.cellsOf e = k) (hC : ∀ a, (C a).length = k) (hk0 : 0 < k)
  (hel : ∀ (n : Nat) (cs : List Value) (x : DataW H × List MemPlace), DataW.trod enc P W 0 (fun _ => true) true n e cs = some x → ∃ a, cs = C a ∧ Q a)
  (hval : Value.okWide P W .any base t v) (h : DataW.Trod enc P W 0 (fun _ => true) true t v d ps) :
  ∃ (l : List α) (s : SlV), v = s.v ∧ Rd W k s (l.map C) ∧ (∀ a ∈ l, Q a) ∧ (l = [] ∨ ∃ elems spare, d = .slice elems spare ∧ elems.length = l.length) := by
 obtain ⟨a0, len0, cap0, rfl⟩ := okWide_slice ht hval
 obtain ⟨fuel, hf⟩ := h
 rcases Deep.open_slice ht hf with ⟨h1, h2⟩ | ⟨a, len, cap, m, n, D, Pl, h1, _, hlc, hcm, hm, h2, hx⟩
 ·simp [Value.cells] at h1
  obtain ⟨rfl, rfl, rfl⟩ := h1
  exact ⟨[], SlV.nil, SlV.nil_eq, Rd.nil W k, by simp, .inl rfl⟩
 ·simp [Value.cells] at h1
  obtain ⟨rfl, rfl, rfl⟩ := h1
  have hval2 := hval
  simp only [Value.okWide, ht, Cell.okWide, Cell.ok] at hval2
  obtain ⟨_, _, _, hspot, row, cells, hshape, _⟩ := hval2
  obtain ⟨ab, ao, asp⟩ := a
  obtain rfl : asp = none := hspot
  simp only at hshape
  have hlt : ab < W.heap.size := by
   unfold World.shape? at hshape
   cases hh : W.heap[ab]? with
   | none => rw [hh] at hshape; cases hshape
   | some o => exact (Array.getElem?_eq_some_iff.1 hh).1
  have hmc : m = cap0 := by rw [hm]; rfl
  obtain ⟨f, hfx⟩ := Deep.choose_lt (α := α) (n := len0) (p := fun i y => W.cells? 0 ((⟨ab, ao, none⟩ : Addr).add (i * P.cellsOf e)) (P.cellsOf e) = some (C y) ∧ Q y) (fun i hi => by
   obtain ⟨cs', hc, ht'⟩ := hx i (by omega)
   obtain ⟨y, rfl, hq⟩ := hel _ _ _ ht'
   exact ⟨y, hc, hq⟩)
  refine ⟨(List.range len0).map f, ⟨some ⟨ab, ao, none⟩, len0, cap0⟩, by rw [SlV.eq], ⟨⟨by simp, ?_, ?_⟩, ?_, hlc⟩, ?_, .inr ⟨_, _, by simpa using congrArg Prod.fst h2, by simp⟩⟩
  ·intro r hr
   obtain ⟨y, _, rfl⟩ := List.mem_map.1 hr
   exact hC y
  ·intro i r hr
   rw [List.getElem?_map, List.getElem?_map] at hr
   have hi : i < len0 := by
    refine Nat.lt_of_not_le fun q => ?_
    rw [List.getElem?_eq_none (by simpa using q)] at hr; cases hr
   rw [List.getElem?_eq_getElem (by simpa using hi)] at hr
   simp only [List.getElem_range, Option.map_some, Option.some.injEq] at hr
   subst hr
   obtain ⟨h3, _⟩ := hfx i hi
   obtain ⟨_, hl, hc⟩ := World.cells?_some h3
   refine ⟨rfl, fun j v hv => ?_⟩
   have hj : j < k := by have := (List.getElem?_eq_some_iff.1 hv).1; rw [hC] at this; exact this
   have h4 := hc j (by rw [hk]; exact hj)
   rw [hv] at h4
   have hadd : ((⟨ab, ao, none⟩ : Addr).add (i * P.cellsOf e)).add j = ⟨ab, ao + i * k + j, none⟩ := by
    rw [hk]
    unfold Addr.add
    by_cases h5 : i * k = 0
    ·by_cases h6 : j = 0
     ·simp [h5, h6]
     ·simp [h5, h6]
    ·by_cases h6 : j = 0
     ·simp [h5, h6]
     ·simp [h5, h6]
   rw [hadd] at h4
   exact h4
  ·rintro i ⟨_, rfl⟩
   exact hlt
  ·intro y hy
   obtain ⟨i, hi, rfl⟩ := List.mem_map.1 hy
   exact (hfx i (List.mem_range.1 hi)).2
end
instance : Inhabited Nd := ⟨Nd.z⟩
theorem nds_of {H : Type} {enc : TypeId × Value → H} {W : World} {base : Nat} {v : Value} {d : DataW H} {ps : List MemPlace} (hval : Value.okWide PP W .any base T_L_api_Node v) (h : DataW.Trod enc PP W 0 (fun _ => true) true T_L_api_Node v d ps) :
  ∃ (l : List Nd) (s : SlV), v = s.v ∧ Rd W 4 s (l.map Nd.C) ∧ (∀ a ∈ l, a.name.size < 9223372036854775808) ∧ (l = [] ∨ ∃ elems spare, d = .slice elems spare ∧ elems.length = l.length) := by
 refine slice_of sl_L_api_Node.1 (by kernel_rfl) Nd.len (by decide) (fun n cs x hx => ?_) hval h
 obtain ⟨a, ha⟩ := fld_int fv_Nd_kind un_api_Kind (by kernel_rfl) hx
 obtain ⟨b, hb, hbs⟩ := fld_str fv_Nd_name un_string (by kernel_rfl) hx
 obtain ⟨c, hc⟩ := fld_int fv_Nd_l un_int (by kernel_rfl) hx
 obtain ⟨d, hd⟩ := fld_int fv_Nd_r un_int (by kernel_rfl) hx
 obtain ⟨fs, fd, hu, _⟩ := fv_Nd_kind
 obtain ⟨xs, n', _, _, hl, _⟩ := DataW.trod_struct hu hx
 have hl : cs.length = 4 := hl.trans (by kernel_rfl)
 refine ⟨⟨a, b, c, d⟩, ?_, by have : maxLen = 9223372036854775807 := rfl; show b.size < _; omega⟩
 match cs, hl with
 | [v0, v1, v2, v3], _ =>
  simp at ha hb hc hd
  subst ha hb hc hd
  rfl
theorem bulk_one {H : Type} (d : DataW H) : 1 ≤ Rows.uptoBulk d := by
 cases d with
 | lit l => cases l <;> simp [Rows.uptoBulk]
 | nil => simp [Rows.uptoBulk]
 | ptr d => simp [Rows.uptoBulk]
 | slice elems spare => simp [Rows.uptoBulk]
 | agg parts => simp [Rows.uptoBulk]
 | iface t d => simp [Rows.uptoBulk]
 | map entries => simp [Rows.uptoBulk]
 | held h => simp [Rows.uptoBulk]
theorem bulk_part {H : Type} {d : DataW H} {l : List (DataW H)} (h : d ∈ l) : Rows.uptoBulk d ≤ Rows.uptoBulkAll l := by
 induction l with
 | nil => cases h
 | cons x r ih =>
  simp only [Rows.uptoBulkAll]
  cases List.mem_cons.1 h with
  | inl e => subst e; omega
  | inr e => have := ih e; omega
theorem bulk_len {H : Type} (l : List (DataW H)) : l.length ≤ Rows.uptoBulkAll l := by
 induction l with
 | nil => simp [Rows.uptoBulkAll]
 | cons x r ih => have := bulk_one x; simp only [Rows.uptoBulkAll, List.length_cons]; omega
theorem small_len {H : Type} {α : Type} {l : List α} {d : DataW H} {ds : List (DataW H)} (hk : Rows.uptoSmall H ds = true) (hd : d ∈ ds) (h : l = [] ∨ ∃ elems spare, d = .slice elems spare ∧ elems.length = l.length) : l.length ≤ 1048576 := by
 rcases h with rfl | ⟨elems, spare, rfl, he⟩
 ·simp
 ·have h1 := bulk_part hd
  have h2 := bulk_len elems
  have h3 : Rows.uptoBulkAll ds ≤ 1048576 := by simpa [Rows.uptoSmall] using hk
  simp only [Rows.uptoBulk] at h1
  omega
def Held (W : World) (Z : List OA) : Prop := ∀ z ∈ Z, ∃ F, z.holds W F
theorem Held.nil {W : World} : Held W [] := fun _ h => by cases h
theorem Held.cons {W : World} {z : OA} {Z : List OA} (h : ∃ F, z.holds W F) (hz : Held W Z) : Held W (z :: Z) := fun x hx => by
 rcases List.mem_cons.1 hx with rfl | hx
 ·exact h
 ·exact hz x hx
theorem Held.s {W : World} {Z : List OA} {k : Nat} {α : Type} {C : α → List Value} {s : SlV} {l : List α} (hr : Rd W k s (l.map C)) (hl : l.length ≤ 140737488355328) (hz : Held W Z) : Held W (fS k C s l :: Z) :=
 .cons ⟨s.fp, ⟨hr, hl⟩, fun _ => Iff.rfl⟩ hz
theorem stheld {W : World} {Z : List OA} (h : Held W Z) : St (fun _ => False) oth0 W W [] Z :=
 ⟨fun _ => False, fun _ h => h.elim, fun _ h => h.elim, Chg.refl _ _, trivial, fun z hz => by
  obtain ⟨F, hF⟩ := h z hz
  exact ⟨F, hF, fun i _ q => q.elim (fun x => x) (fun x => x)⟩, fun d hd => absurd hd (by simp [oth0])⟩
theorem gEt : PP.globalNamed "errors.errorType" = some 0 := by kernel_rfl
theorem gRt : (PP.cutTypes.find? (·.1 == "internal/reflectlite.rtype")).map (·.2) = some 181 := by kernel_rfl
theorem gSize : PP.types.size = 260 := by kernel_rfl
theorem gRow : ((List.range 260).filter fun t => PP.rowNamed t [101, 114, 114, 111, 114]) = [72] := by kernel_rfl
theorem gHandle : typeHandle PP 72 = .pointer (some ⟨4, 72, none⟩) := by kernel_rfl
theorem et_of {W : World} (h : laidMetH PP [("errors.errorType", Rows.laid_errors_errorType)] W) : Et W := by
 have h' : laidMet PP [] W ∧ handlesMet PP [("errors.errorType", Rows.laid_errors_errorType)] W := h
 obtain ⟨name, u, ty, e1, e2, e3, e4, e5⟩ := h'.2 _ (List.mem_singleton.2 rfl)
 have en : name = [101, 114, 114, 111, 114] := (Option.some.inj e1).symm
 subst en
 obtain rfl := Option.some.inj (gRt.symm.trans e2)
 have hm : ty ∈ (List.range 260).filter fun t => PP.rowNamed t [101, 114, 114, 111, 114] := List.mem_filter.2 ⟨List.mem_range.2 (by rw [← gSize]; exact e3), e4⟩
 rw [gRow] at hm
 obtain rfl := List.mem_singleton.1 hm
 rw [gHandle] at e5
 intro j v hj
 cases j with
 | zero => simp at hj; subst hj; simpa [etV] using World.var?_cell gEt e5 0
 | succ j => simp at hj
theorem Held.et {W : World} {Z : List OA} (h : Et W) (hz : Held W Z) : Held W (oEt :: Z) := .cons ⟨fun i => i = 0, h, fun _ => Iff.rfl⟩ hz
-- terms
instance : Inhabited Term := ⟨Term.z⟩
instance : Inhabited PTerm := ⟨PTerm.z⟩
theorem bulk_get {H : Type} {xs : List (DataW H × List MemPlace)} {i : Nat} {z : DataW H × List MemPlace} (h : xs[i]? = some z) : Rows.uptoBulk z.1 ≤ Rows.uptoBulkAll (xs.map (·.1)) :=
 bulk_part (List.mem_map.2 ⟨z, List.mem_of_getElem? h, rfl⟩)
theorem bigA_of {w : World} {μ α : Type} {R : μ → α → OA} : ∀ {ms : List μ} {l : List α}, ms.length = l.length → (∀ (i : Nat) m x, ms[i]? = some m → l[i]? = some x → ∃ F, (R m x).holds w F) → ∃ F, (bigA R ms l).holds w F
 | [], [], _, _ => ⟨fun _ => False, trivial, fun _ x => x⟩
 | m :: ms, x :: xs, hl, h => by
  obtain ⟨F, hF⟩ := h 0 m x rfl rfl
  obtain ⟨G, hG⟩ := bigA_of (ms := ms) (l := xs) (by simpa using hl) fun i m x h1 h2 => h (i + 1) m x (by simpa using h1) (by simpa using h2)
  exact ⟨fun i => F i ∨ G i, F, G, hF, hG, fun _ => Iff.rfl⟩
 | [], _ :: _, hl, _ => by simp at hl
 | _ :: _, [], hl, _ => by simp at hl
theorem nmL_of : ∀ {l : List PTerm}, (∀ x ∈ l, nmT x) → nmL l
 | [], _ => trivial
 | x :: l, h => ⟨h x (by simp), nmL_of fun y hy => h y (by simp [hy])⟩
theorem sizeL_bulk {H : Type} : ∀ {l : List PTerm} {ds : List (DataW H)}, l.length = ds.length → (∀ (i : Nat) x d, l[i]? = some x → ds[i]? = some d → sizeT x ≤ Rows.uptoBulk d) → sizeL l ≤ Rows.uptoBulkAll ds
 | [], [], _, _ => by simp [sizeL]
 | x :: l, d :: ds, hl, h => by
  have h1 := h 0 x d rfl rfl
  have h2 := sizeL_bulk (l := l) (ds := ds) (by simpa using hl) fun i x d h3 h4 => h (i + 1) x d (by simpa using h3) (by simpa using h4)
  simp only [sizeL, Rows.uptoBulkAll]; omega
 | [], _ :: _, hl, _ => by simp at hl
 | _ :: _, [], hl, _ => by simp at hl
theorem term_trod {H : Type} {enc : TypeId × Value → H} {W : World} (fuel : Nat) : ∀ {cs : List Value} {x : DataW H × List MemPlace}, DataW.trod enc PP W 0 (fun _ => true) true fuel T_Term cs = some x → Rows.uptoBulk x.1 ≤ 1048576 →
  ∃ (m : Term) (y : PTerm), cs = Term.C m ∧ (m.kind = y.kind ∧ m.name = y.name ∧ m.other = y.other ∧ m.form = y.form) ∧ (nmT y ∧ sizeT y ≤ Rows.uptoBulk x.1) ∧ ∃ F, (fTerms m.sub y.sub).holds W F := by
 induction fuel using Nat.strongRecOn with
 | _ fuel ih =>
 intro cs x hx hb
 obtain ⟨k, hk⟩ := fld_int fv_Term_kind un_api_TermKind (by kernel_rfl) hx
 obtain ⟨n, hn, hns⟩ := fld_str fv_Term_name un_string (by kernel_rfl) hx
 obtain ⟨o, ho, hos⟩ := fld_str fv_Term_other un_string (by kernel_rfl) hx
 obtain ⟨f, hf⟩ := fld_int fv_Term_form un_int (by kernel_rfl) hx
 obtain ⟨fs, fd, hu, hi, hoff, hty⟩ := fv_Term_sub
 obtain ⟨xs, n1, hfu, hxx, hl, hlen, hall⟩ := DataW.trod_struct hu hx
 have hl : cs.length = 5 := hl.trans (by kernel_rfl)
 have h1 := hall 4 fd hi
 have h2 : 4 < xs.length := by rw [hlen]; exact (Array.getElem?_eq_some_iff.1 hi).1
 rw [hoff, hty, show PP.cellsOf T_L_api_Term = 1 from by kernel_rfl, List.getElem?_eq_getElem h2] at h1
 have hbx : 1 + Rows.uptoBulk (xs[4]).1 ≤ Rows.uptoBulk x.1 := by
  have := bulk_get (List.getElem?_eq_getElem h2)
  rw [hxx]
  simp only [Rows.uptoBulk]
  omega
 have hbz : Rows.uptoBulk (xs[4]).1 ≤ 1048576 := by omega
 have hmax : maxLen = 9223372036854775807 := rfl
 have hcs : ∀ v4, cs[4]? = some v4 → cs = [.int .i64 k, .string n, .string o, .int .i64 f, v4] := by
  intro v4 h4
  match cs, hl with
  | [c0, c1, c2, c3, c4], _ =>
   simp at hk hn ho hf h4
   subst hk hn ho hf h4
   rfl
 rcases DataW.trod_slice sl_L_api_Term.1 h1 with ⟨e1, e2⟩ | ⟨a, len, cap, elems, rest, n2, hfu2, e1, e2, _, hlc, hcm, hel, hget, _⟩
 ·have h4 := hcs _ (take_one e1)
  refine ⟨⟨k, n, o, f, SlV.nil⟩, .mk k n o f [], ?_, ⟨rfl, rfl, rfl, rfl⟩, ⟨⟨by show n.size < _; omega, by show o.size < _; omega, trivial⟩, by rw [sizeT_eq]; simp only [PTerm.sub, sizeL]; omega⟩, fun _ => False, (0, []), fun _ => False, fun _ => False, ⟨⟨Sl.nil W 5, by simp⟩, fun i => ⟨fun x => x.elim, fun x => absurd rfl x.1⟩⟩, ⟨trivial, fun _ x => x⟩, fun _ => ⟨fun x => x.elim, fun x => x.elim id id⟩⟩
  rw [h4, SlV.nil_eq]; rfl
 ·have h4 := hcs _ (take_one e1)
  have hbe : Rows.uptoBulkAll (elems.map (·.1)) ≤ 1048576 := by
   rw [e2] at hbz
   simp only [Rows.uptoBulk] at hbz
   omega
  have hlen2 : len ≤ 1048576 := by
   have := bulk_len (elems.map (·.1))
   rw [List.length_map, hel] at this
   omega
  have hone : ∀ i, i < len → ∃ q : Term × PTerm, (W.cells? 0 (a.add (i * PP.cellsOf T_Term)) (PP.cellsOf T_Term) = some (Term.C q.1)) ∧ (q.1.kind = q.2.kind ∧ q.1.name = q.2.name ∧ q.1.other = q.2.other ∧ q.1.form = q.2.form) ∧ (nmT q.2 ∧ ∀ z, elems[i]? = some z → sizeT q.2 ≤ Rows.uptoBulk z.1) ∧ ∃ F, (fTerms q.1.sub q.2.sub).holds W F := by
   intro i hi'
   have h5 := hget i hi'
   have h6 : i < elems.length := by omega
   rw [List.getElem?_eq_getElem h6] at h5
   cases hc : W.cells? 0 (a.add (i * PP.cellsOf T_Term)) (PP.cellsOf T_Term) with
   | none => rw [hc] at h5; simp at h5
   | some cs' =>
    rw [hc] at h5
    simp only [Option.bind_some] at h5
    obtain ⟨m, y, rfl, hm, hy, hF⟩ := ih n2 (by omega) h5 (by have := bulk_get (List.getElem?_eq_getElem h6); omega)
    exact ⟨(m, y), rfl, hm, ⟨hy.1, fun z hz => by cases (List.getElem?_eq_getElem h6).symm.trans hz; exact hy.2⟩, hF⟩
  obtain ⟨g, hg⟩ := Deep.choose_lt (α := Term × PTerm) hone
  have hsz : PP.cellsOf T_Term = 5 := by kernel_rfl
  refine ⟨⟨k, n, o, f, ⟨some a, len, cap⟩⟩, .mk k n o f ((List.range len).map fun i => (g i).2), ?_, ⟨rfl, rfl, rfl, rfl⟩, ⟨⟨by show n.size < _; omega, by show o.size < _; omega, nmL_of fun y hy => ?_⟩, ?_⟩, ?_⟩
  ·rw [h4]; show _ = [_, _, _, _, SlV.v _]; rw [SlV.eq]
  ·obtain ⟨i, hi', rfl⟩ := List.mem_map.1 hy
   exact (hg i (List.mem_range.1 hi')).2.2.1.1
  ·have hs : sizeL ((List.range len).map fun i => (g i).2) ≤ Rows.uptoBulkAll (elems.map (·.1)) := by
    refine sizeL_bulk (by simp [hel]) fun i y d h1 h2 => ?_
    have hi' : i < len := by
     refine Nat.lt_of_not_le fun q => ?_
     rw [List.getElem?_eq_none (by simpa using q)] at h1; cases h1
    rw [List.getElem?_map] at h1 h2
    rw [List.getElem?_range hi'] at h1
    simp only [Option.map_some, Option.some.injEq] at h1
    subst h1
    cases hz : elems[i]? with
    | none => rw [hz] at h2; cases h2
    | some z => rw [hz] at h2; cases h2; exact (hg i hi').2.2.1.2 z hz
   rw [sizeT_eq]
   have : Rows.uptoBulkAll (elems.map (·.1)) ≤ Rows.uptoBulk (xs[4]).1 := by
    rw [e2]; simp only [Rows.uptoBulk]; omega
   simp only [PTerm.sub]; omega
  ·have hsl : Sl W 5 ⟨some a, len, cap⟩ (((List.range len).map fun i => (g i).1).map Term.C) := by
    refine ⟨by simp, ?_, ?_⟩
    ·intro r hr
     obtain ⟨y, _, rfl⟩ := List.mem_map.1 hr
     exact Term.len y
    ·intro i r hr
     rw [List.getElem?_map, List.getElem?_map] at hr
     have hi' : i < len := by
      refine Nat.lt_of_not_le fun q => ?_
      rw [List.getElem?_eq_none (by simpa using q)] at hr; cases hr
     rw [List.getElem?_eq_getElem (by simpa using hi')] at hr
     simp only [List.getElem_range, Option.map_some, Option.some.injEq] at hr
     subst hr
     obtain ⟨_, _, hc0⟩ := World.cells?_some (hg 0 (by omega)).1
     obtain ⟨ab, ao, asp⟩ := a
     have hsp : asp = none := by
      have h7 := hc0 0 (by rw [hsz]; decide)
      simp only [Nat.zero_mul, Addr.add, if_true] at h7
      cases asp with
      | none => rfl
      | some q =>
       unfold World.cell? at h7
       simp only [Option.isSome_some, if_true] at h7
       split at h7
       ·exact absurd h7.symm (by simp [Term.C])
       ·exact absurd h7.symm (by simp [Term.C])
     subst hsp
     obtain ⟨_, _, hc⟩ := World.cells?_some (hg i hi').1
     refine ⟨rfl, fun j v hv => ?_⟩
     have hj : j < 5 := by have := (List.getElem?_eq_some_iff.1 hv).1; rw [Term.len] at this; exact this
     have h8 := hc j (by rw [hsz]; exact hj)
     rw [hv] at h8
     have hadd : ((⟨ab, ao, none⟩ : Addr).add (i * PP.cellsOf T_Term)).add j = ⟨ab, ao + i * 5 + j, none⟩ := by
      rw [hsz]
      unfold Addr.add
      by_cases h5 : i * 5 = 0
      ·by_cases h6 : j = 0
       ·simp [h5, h6]
       ·simp [h5, h6]
      ·by_cases h6 : j = 0
       ·simp [h5, h6]
       ·simp [h5, h6]
     rw [hadd] at h8
     exact h8
   have hbig : ∃ F, (bigA fTerm ((List.range len).map fun i => (g i).1) ((List.range len).map fun i => (g i).2)).holds W F := by
    refine bigA_of (by simp) fun i m x h1 h2 => ?_
    rw [List.getElem?_map] at h1 h2
    have hi' : i < len := by
     refine Nat.lt_of_not_le fun q => ?_
     rw [List.getElem?_eq_none (by simpa using q)] at h1; cases h1
    rw [List.getElem?_range hi'] at h1 h2
    simp only [Option.map_some, Option.some.injEq] at h1 h2
    subst h1 h2
    obtain ⟨_, he, _, F, hF⟩ := hg i hi'
    have := fTerm_mk (s := (g i).1.sub) hF
    rw [show mT (g i).2 (g i).1.sub = (g i).1 from by rw [mT, ← he.1, ← he.2.1, ← he.2.2.1, ← he.2.2.2]] at this
    exact ⟨F, this⟩
   obtain ⟨F, hF⟩ := hbig
   exact ⟨_, fTerms_mk (F := fun i => ((List.range len).map fun i => (g i).1) ≠ [] ∧ i = _) ⟨⟨hsl, by simp; omega⟩, fun _ => Iff.rfl⟩ hF⟩
theorem term_of {H : Type} {enc : TypeId × Value → H} {W : World} {v : Value} {d : DataW H} {ds : List (DataW H)} {ps : List MemPlace} {base : Nat} (hval : Value.okWide PP W .any base T_Term v) (h : DataW.Trod enc PP W 0 (fun _ => true) true T_Term v d ps) (hk : Rows.uptoSmall H ds = true) (hd : d ∈ ds) :
  ∃ (y : PTerm) (s : SlV), v = .agg (Term.C (⟨y.kind, y.name, y.other, y.form, s⟩ : Term)).toArray ∧ (nmT y ∧ sizeT y ≤ 1048576) ∧ ∃ F, (oDTerm s y.sub).holds W F := by
 obtain ⟨fuel, hf⟩ := h
 have hb : Rows.uptoBulk d ≤ 1048576 := by
  have h1 := bulk_part hd
  have h3 : Rows.uptoBulkAll ds ≤ 1048576 := by simpa [Rows.uptoSmall] using hk
  omega
 obtain ⟨m, y, hc, he, hn, hF⟩ := term_trod fuel hf hb
 have hu : ∃ fs, PP.underlying T_Term = some (.struct fs) := by
  obtain ⟨fs, fd, hu, _⟩ := fv_Term_sub; exact ⟨fs, hu⟩
 obtain ⟨fs, hu⟩ := hu
 unfold Value.okWide at hval
 rw [hu] at hval
 obtain ⟨cs, rfl, _⟩ := hval
 refine ⟨y, m.sub, ?_, ⟨hn.1, Nat.le_trans hn.2 hb⟩, hF⟩
 have hm : m = (⟨y.kind, y.name, y.other, y.form, m.sub⟩ : Term) := by rw [← he.1, ← he.2.1, ← he.2.2.1, ← he.2.2.2]
 rw [← hm]
 have hc' : cs.toList = Term.C m := hc
 rw [← hc']
theorem Held.f {W : World} {Z : List OA} {s : SlV} {l : List PTerm} (h : ∃ F, (oDTerm s l).holds W F) (hz : Held W Z) : Held W (oDTerm s l :: Z) := .cons h hz
-- hypotheses
instance : Inhabited Hyp := ⟨Hyp.z⟩
theorem hyp_trod {H : Type} {enc : TypeId × Value → H} {W : World} {n : Nat} {cs : List Value} {x : DataW H × List MemPlace} (hx : DataW.trod enc PP W 0 (fun _ => true) true n T_Hyp cs = some x) : ∃ a : Hyp, cs = Hyp.C a ∧ True := by
 obtain ⟨a, ha, has⟩ := fld_str fv_Hyp_name un_string (by kernel_rfl) hx
 obtain ⟨b, hb⟩ := fld_int fv_Hyp_form un_int (by kernel_rfl) hx
 obtain ⟨fs, fd, hu, _⟩ := fv_Hyp_name
 obtain ⟨xs, n', _, _, hl, _⟩ := DataW.trod_struct hu hx
 have hl : cs.length = 2 := hl.trans (by kernel_rfl)
 refine ⟨⟨a, b⟩, ?_, trivial⟩
 match cs, hl with
 | [v0, v1], _ =>
  simp at ha hb
  subst ha hb
  rfl
theorem hyps_of {H : Type} {enc : TypeId × Value → H} {W : World} {base : Nat} {v : Value} {d : DataW H} {ps : List MemPlace} (hval : Value.okWide PP W .any base T_L_api_Hyp v) (h : DataW.Trod enc PP W 0 (fun _ => true) true T_L_api_Hyp v d ps) :
  ∃ (l : List Hyp) (s : SlV), v = s.v ∧ Rd W 2 s (l.map Hyp.C) ∧ (∀ a ∈ l, True) ∧ (l = [] ∨ ∃ elems spare, d = .slice elems spare ∧ elems.length = l.length) :=
 slice_of sl_L_api_Hyp.1 (by kernel_rfl) Hyp.len (by decide) (fun n cs x hx => hyp_trod hx) hval h
end Go.Proofs.YtjebgcoknpcadaaDoor
end
section
namespace Go.Proofs.YtjebgcoknpcadaaDoor
open Gw Go.ChangeShapes Go.WideShapes Go.ChangeAt Go.RowKit
set_option maxRecDepth 100000
namespace LawTypesChecks
theorem contract (H : Type) (enc : TypeId × Value → H) (W : World) (base : Nat) (args : Array Value) (ds gs : List (DataW H)) (before : List MemPlace)
  (hval : ∀ (j : Nat) t v, D_law13_TypesChecks.params[j]? = some t → args[j]? = some v → Value.okWide PP W .any base t v)
  (hW : DataW.Whole enc PP D_law13_TypesChecks.params.toList Rows.typesChecksSpec.vars false W args.toList ds gs before) (hL : laidMetH PP Rows.typesChecksUptoRow.laid W) (hsm : Rows.uptoSmall H (ds ++ gs) = true) :
  Calls PP F_law13_TypesChecks args W fun e W' => ∃ v, e = .returned v ∧ Rows.typesChecksSpec.post enc PP D_law13_TypesChecks false true false false W args v W' := by
 have hW' := hW
 have hlt := hW.lt
 obtain ⟨p, q, hA0, hV, rfl, hfz, hnd⟩ := hW
 have hA : DataW.TrodAll enc PP W 0 (fun _ => true) true D_law13_TypesChecks.params.toList args.toList ds p := hA0
 have hpar : D_law13_TypesChecks.params = #[T_L_api_Node, T_L_api_Hyp, T_Term, T_int] := by kernel_rfl
 rw [hpar] at hA hval
 obtain ⟨v0, v1, v2, v3, d0, d1, d2, d3, p0, p1, p2, p3, rfl, rfl, rfl, h0, h1, h2, h3⟩ := trodAll_four hA
 obtain ⟨rfl, rfl⟩ := trodVars_none hV
 obtain ⟨a0, s0, rfl, hrd0, hnm0, hsl0⟩ := nds_of (hval 0 _ _ rfl rfl) h0
 have hln0 := small_len hsm (by simp) hsl0
 obtain ⟨a1, s1, rfl, hrd1, hnm1, hsl1⟩ := hyps_of (hval 1 _ _ rfl rfl) h1
 have hln1 := small_len hsm (by simp) hsl1
 obtain ⟨a2, s2, rfl, ⟨hnm2, hbg2⟩, hf2⟩ := term_of (hval 2 _ _ rfl rfl) h2 hsm (by simp)
 obtain ⟨a3, rfl, hr3⟩ := int_of (k := .i64) un_int (hval 3 _ _ rfl rfl)
 have S := stheld (W := W) (.s hrd0 (by omega) (.s hrd1 (by omega) (.f hf2 (.et (et_of hL) .nil))))
 refine (law13_TypesChecks_st S (TypesChecks_true (k := 2200000) (by decide) heads13b (id := a3) hnm0 (by omega) hnm2 (by have := sizeT_eq a2; omega) (by omega))).mono fun e W' ⟨v, he, hv, hS⟩ => ?_
 subst hv
 have hx := hS.frame
 refine ⟨_, he, post_of_same (pa := p0 ++ p1 ++ p2 ++ p3) (pv := []) hW' (fun _ _ _ => trodAll_cons_mk (shut_bool un_bool _) trodAll_mk0) (fun sp hsp => ?_) (fun _ _ => rfl) (by simp) ((Ext.below hx).frame _) hx.froz (ok_one (by kernel_rfl) rfl (okWide_bool_mk un_bool _))⟩
 rw [hpar]
 refine trodAll_stays (ts := [T_L_api_Node, T_L_api_Hyp, T_Term, T_int]) (fun t ht => ?_) hA (fun p hp => (Ext.below hx).same (hlt p (by simpa using hp))) (fun p hp => hsp p (by simpa using hp))
 simp only [List.mem_cons, List.not_mem_nil, or_false] at ht
 rcases ht with rfl | rfl | rfl | rfl <;> exact ⟨by kernel_rfl, of_decide_eq_true (by kernel_rfl)⟩
noncomputable def laidWorld (os : Os) : World :=
 { World.holding PP os ⟨#[], #[], []⟩ with heap := (World.holding PP os ⟨#[], #[], []⟩).heap.modify 0 fun
   | .cells _ t frozen => .cells #[etV] t frozen
   | o => o }
def argsN : Array Value := #[.slice none 0 0, .slice none 0 0, .agg #[.int .i64 0, .string ByteArray.empty, .string ByteArray.empty, .int .i64 0, .slice none 0 0], .int .i64 0]
theorem laid_met (os : Os) : laidMetH PP Rows.typesChecksUptoRow.laid ((laidWorld os).forCall (fun _ _ => 0) ⟨#[], argsN, []⟩).memory :=
 laidMetH_of_parts (laidMet_nil _ _) (by kernel_rfl)
def ddN (H : Type) : List (DataW H) := [.nil, .nil, .agg [.lit (.int .i64 0), .lit (.string []), .lit (.string []), .lit (.int .i64 0), .nil], .lit (.int .i64 0)]
theorem reads (os : Os) {H : Type} (enc : TypeId × Value → H) : ∃ places, DataW.whole enc PP ((laidWorld os).forCall (fun _ _ => 0) ⟨#[], argsN, []⟩).memory D_law13_TypesChecks.params.toList Rows.typesChecksSpec.vars false argsN.toList 8 = some (ddN H, [], places) :=
 ⟨[], by kernel_rfl⟩
theorem lifted (os : Os) (started : os.Started) (H : Type) (enc : TypeId × Value → H) (F : Stop.Interp) :
  ReturnsInHanded {} Tryd.checked os F_law13_TypesChecks .any ((Rows.OpenSpec.upto Rows.typesChecksSpec).preRow enc PP D_law13_TypesChecks Rows.typesChecksUptoRow.domain false Rows.typesChecksUptoRow.laid) (((Rows.OpenSpec.upto Rows.typesChecksSpec).at F).post enc PP D_law13_TypesChecks false true false false) := by
 obtain ⟨places, hx⟩ := reads os enc
 refine returnsInHanded_of_row (C := Tryd.checked) (s := Rows.OpenSpec.upto Rows.typesChecksSpec) ownKnob_none started (by kernel_rfl) fn_law13_TypesChecks
  (witness_row_at (enc := enc) (C := Tryd.checked) false (laidWorld os) argsN rfl (by kernel_rfl) (by kernel_rfl) (by kernel_rfl)
   (OpenSpec.preRow_of_cond 8 hx (by kernel_rfl) (fun k hk => by cases hk; kernel_rfl) (by kernel_rfl) (laid_met os))) ?_
 intro W base args ds gs before hval hW _ hcond _ hL _ _
 exact contract H enc W base args ds gs before hval hW hL (hcond _ rfl)
theorem said : Rows.TypesChecksUptoSaid :=
 OpenClaim.holds_of_cond F_law13_TypesChecks D_law13_TypesChecks rfl rfl rfl rfl rfl rfl rfl ⟨rfl, rfl, rfl, rfl, rfl⟩ rfl rfl rfl rfl rfl (by kernel_rfl) fn_law13_TypesChecks (by kernel_rfl)
  (of_decide_eq_true (by kernel_rfl)) (by unfold Func.isWrapper; first | (rw [if_pos (by decide +kernel)]; kernel_rfl) | (rw [if_neg (by decide +kernel)]; exact ⟨rfl, rfl⟩))
  (fun os started H enc _ F => by rw [OpenClaim.pre_eq_preRow]; exact lifted os started H enc F)
theorem plain (f : FuncId) (fn : Func) (hf : Tryd.pinned.checked.prog.funcNamed "dictum/dictumlaw13.TypesChecks" = some f) (hfn : Tryd.pinned.checked.prog.funcs[f]? = some fn) :
  true = Tryd.pinned.checked.prog.looks [] ∧ ∀ (j : Nat) t, fn.params[j]? = some t → Tryd.pinned.checked.prog.wantsStandIn t = false := by
 obtain rfl : f = F_law13_TypesChecks := Option.some.inj ((show PP.funcNamed "dictum/dictumlaw13.TypesChecks" = some F_law13_TypesChecks by kernel_rfl).symm.trans hf) |>.symm
 obtain rfl : fn = D_law13_TypesChecks := (Option.some.inj (fn_law13_TypesChecks.symm.trans hfn)).symm
 refine ⟨by kernel_rfl, fun j t ht => ?_⟩
 rw [show D_law13_TypesChecks.params = #[T_L_api_Node, T_L_api_Hyp, T_Term, T_int] by kernel_rfl] at ht
 have hm : t ∈ [T_L_api_Node, T_L_api_Hyp, T_Term, T_int] := by simpa using Array.mem_of_getElem? ht
 simp only [List.mem_cons, List.not_mem_nil, or_false] at hm
 rcases hm with rfl | rfl | rfl | rfl
 ·exact (show PP.wantsStandIn T_L_api_Node = false by kernel_rfl)
 ·exact (show PP.wantsStandIn T_L_api_Hyp = false by kernel_rfl)
 ·exact (show PP.wantsStandIn T_Term = false by kernel_rfl)
 ·exact (show PP.wantsStandIn T_int = false by kernel_rfl)
theorem card : Rows.TypesChecksUptoCardSaid :=
 Claim7.holds_tied_plain_at .later [] _ _ _ _ said (fun _ h => by cases h) (by kernel_rfl) (fun _ h => by cases h) typesChecksUpto_row_tie rfl ⟨rfl, rfl⟩ (by kernel_rfl) rfl plain (by kernel_rfl)
end LawTypesChecks
end Go.Proofs.YtjebgcoknpcadaaDoor
end
