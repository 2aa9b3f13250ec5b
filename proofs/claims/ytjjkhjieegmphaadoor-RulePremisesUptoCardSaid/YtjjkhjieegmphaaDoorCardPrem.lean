/- RulePremises, where what it reads is of the bulk that the row names: the row's statement and its card. The table of trailing zeros reads as the program lays it. -/
import Derived.Test.YtjjkhjieegmphaaDoorRulePW
import Derived.Test.YtjjkhjieegmphaaDoorRuleL
import Derived.Test.YtjjkhjieegmphaaDoorCardS
namespace Go.Proofs.YtjjkhjieegmphaaDoor
open Gw Go.ChangeShapes Go.WideShapes Go.ChangeAt Go.RowKit
set_option linter.unusedVariables false
set_option maxRecDepth 100000
namespace LawRulePremises
theorem contract (H : Type) (enc : TypeId × Value → H) (W : World) (base : Nat) (args : Array Value) (ds gs : List (DataW H)) (before : List MemPlace)
    (hval : ∀ (j : Nat) t v, D_law09_RulePremises.params[j]? = some t → args[j]? = some v → Value.okWide PP W .any base t v)
    (hW : DataW.Whole enc PP D_law09_RulePremises.params.toList Rows.rulePremisesSpec.vars false W args.toList ds gs before) (hL : laidMetH PP Rows.rulePremisesUptoRow.laid W) (hsm : Rows.uptoSmall H (ds ++ gs) = true) :
    Calls PP F_law09_RulePremises args W fun e W' => ∃ v, e = .returned v ∧ Rows.rulePremisesSpec.post enc PP D_law09_RulePremises false true false false W args v W' := by
  have hW' := hW
  have hlt := hW.lt
  obtain ⟨p, q, hA0, hV, rfl, hfz, hnd⟩ := hW
  have hA : DataW.TrodAll enc PP W 0 (fun _ => true) true D_law09_RulePremises.params.toList args.toList ds p := hA0
  have hpar : D_law09_RulePremises.params = #[T_L_api_Node, T_Sq, T_api_Rule, T_int] := by kernel_rfl
  rw [hpar] at hA hval
  obtain ⟨v0, v1, v2, v3, d0, d1, d2, d3, p0, p1, p2, p3, rfl, rfl, rfl, h0, h1, h2, h3⟩ := trodAll_four hA
  obtain ⟨rfl, rfl⟩ := trodVars_none hV
  obtain ⟨rows, s, rfl, hrd, hnm, hsl⟩ := nds_of (hval 0 _ _ rfl rfl) h0
  obtain ⟨a0, rfl, hb0, hg0⟩ := sq_of (hval 1 _ _ rfl rfl)
  obtain ⟨a1, rfl, hr1⟩ := int_of (k := .i64) (by kernel_rfl) (hval 2 _ _ rfl rfl)
  obtain ⟨a2, rfl, hr2⟩ := int_of (k := .i64) un_int (hval 3 _ _ rfl rfl)
  have hlen := small_len hsm (by simp) hsl
  have S := strs (tz_of hL) hrd (by omega)
  refine (law09_RulePremises_st S (RulePremises_true (r := a1) (k := a2) hnm (by omega) hb0)).mono fun e W' ⟨v, he, hv, hS⟩ => ?_
  subst hv
  have hx := hS.frame
  refine ⟨_, he, post_of_same (pa := p0 ++ p1 ++ p2 ++ p3) (pv := []) hW' (fun _ _ _ => trodAll_cons_mk (shut_bool un_bool _) trodAll_mk0) (fun sp hsp => ?_) (fun _ _ => rfl) (by simp) ((Ext.below hx).frame _) hx.froz (ok_one (by kernel_rfl) rfl (okWide_bool_mk un_bool _))⟩
  rw [hpar]
  refine trodAll_stays (ts := [T_L_api_Node, T_Sq, T_api_Rule, T_int]) (fun t ht => ?_) hA (fun p hp => (Ext.below hx).same (hlt p (by simpa using hp))) (fun p hp => hsp p (by simpa using hp))
  simp only [List.mem_cons, List.not_mem_nil, or_false] at ht
  rcases ht with rfl | rfl | rfl | rfl <;> exact ⟨by kernel_rfl, of_decide_eq_true (by kernel_rfl)⟩

/-- a world for the witness: the settled one, the table laid -/
noncomputable def laidWorld (os : Os) : World :=
  { World.holding PP os ⟨#[], #[], []⟩ with heap := (World.holding PP os ⟨#[], #[], []⟩).heap.modify 0 fun
      | .cells _ t frozen => .cells (tzs.map (Value.int .u8)).toArray t frozen
      | o => o }
def argsN : Array Value := #[.slice none 0 0, .agg (Sq.C Sq.z).toArray, .int .i64 0, .int .i64 0]
theorem laid_met (os : Os) : laidMet PP Rows.rulePremisesUptoRow.laid ((laidWorld os).forCall (fun _ _ => 0) ⟨#[], argsN, []⟩).memory :=
  laidMet_of_run' 8 (by kernel_rfl) (by kernel_rfl)
def ddN (H : Type) : List (DataW H) := [.nil, .agg [.agg (List.replicate 16 (.lit (.int .u64 0))), .lit (.int .i64 0)], .lit (.int .i64 0), .lit (.int .i64 0)]
theorem reads (os : Os) {H : Type} (enc : TypeId × Value → H) : ∃ places, DataW.whole enc PP ((laidWorld os).forCall (fun _ _ => 0) ⟨#[], argsN, []⟩).memory D_law09_RulePremises.params.toList Rows.rulePremisesSpec.vars false argsN.toList 8 = some (ddN H, [], places) :=
  ⟨[], by kernel_rfl⟩
theorem lifted (os : Os) (started : os.Started) (H : Type) (enc : TypeId × Value → H) (F : Stop.Interp) :
    ReturnsInHanded {} Tryd.checked os F_law09_RulePremises .any ((Rows.OpenSpec.upto Rows.rulePremisesSpec).preRow enc PP D_law09_RulePremises Rows.rulePremisesUptoRow.domain false Rows.rulePremisesUptoRow.laid) (((Rows.OpenSpec.upto Rows.rulePremisesSpec).at F).post enc PP D_law09_RulePremises false true false false) := by
  obtain ⟨places, hx⟩ := reads os enc
  refine returnsInHanded_of_row (C := Tryd.checked) (s := Rows.OpenSpec.upto Rows.rulePremisesSpec) ownKnob_none started (by kernel_rfl) fn_law09_RulePremises
    (witness_row_at (enc := enc) (C := Tryd.checked) false (laidWorld os) argsN rfl (by kernel_rfl) (by kernel_rfl) (by kernel_rfl)
      (OpenSpec.preRow_of_cond 8 hx (by kernel_rfl) (fun k hk => by cases hk; kernel_rfl) (by kernel_rfl) (laid_met os))) ?_
  intro W base args ds gs before hval hW _ hcond _ hL _ _
  exact contract H enc W base args ds gs before hval hW hL (hcond _ rfl)
theorem said : Rows.RulePremisesUptoSaid :=
  OpenClaim.holds_of_cond F_law09_RulePremises D_law09_RulePremises rfl rfl rfl rfl rfl rfl rfl ⟨rfl, rfl, rfl, rfl, rfl⟩ rfl rfl rfl rfl rfl (by kernel_rfl) fn_law09_RulePremises (by kernel_rfl)
    (of_decide_eq_true (by kernel_rfl)) (by unfold Func.isWrapper; first | (rw [if_pos (by decide +kernel)]; kernel_rfl) | (rw [if_neg (by decide +kernel)]; exact ⟨rfl, rfl⟩))
    (fun os started H enc _ F => by rw [OpenClaim.pre_eq_preRow]; exact lifted os started H enc F)
theorem plain (f : FuncId) (fn : Func) (hf : Tryd.pinned.checked.prog.funcNamed "dictum/dictumlaw09.RulePremises" = some f) (hfn : Tryd.pinned.checked.prog.funcs[f]? = some fn) :
    false = Tryd.pinned.checked.prog.looks [] ∧ ∀ (j : Nat) t, fn.params[j]? = some t → Tryd.pinned.checked.prog.wantsStandIn t = false := by
  obtain rfl : f = F_law09_RulePremises := Option.some.inj ((show PP.funcNamed "dictum/dictumlaw09.RulePremises" = some F_law09_RulePremises by kernel_rfl).symm.trans hf) |>.symm
  obtain rfl : fn = D_law09_RulePremises := (Option.some.inj (fn_law09_RulePremises.symm.trans hfn)).symm
  refine ⟨by kernel_rfl, fun j t ht => ?_⟩
  rw [show D_law09_RulePremises.params = #[T_L_api_Node, T_Sq, T_api_Rule, T_int] by kernel_rfl] at ht
  have hm : t ∈ [T_L_api_Node, T_Sq, T_api_Rule, T_int] := by simpa using Array.mem_of_getElem? ht
  simp only [List.mem_cons, List.not_mem_nil, or_false] at hm
  rcases hm with rfl | rfl | rfl | rfl
  · exact (show PP.wantsStandIn T_L_api_Node = false by kernel_rfl)
  · exact (show PP.wantsStandIn T_Sq = false by kernel_rfl)
  · exact (show PP.wantsStandIn T_api_Rule = false by kernel_rfl)
  · exact (show PP.wantsStandIn T_int = false by kernel_rfl)
theorem card : Rows.RulePremisesUptoCardSaid :=
  Claim7.holds_tied_plain_at .later [] _ _ _ _ said (fun _ h => by cases h) (by kernel_rfl) (fun _ h => by cases h) rulePremisesUpto_row_tie rfl ⟨rfl, rfl⟩ (by kernel_rfl) rfl plain (by kernel_rfl)
end LawRulePremises
end Go.Proofs.YtjjkhjieegmphaaDoor
