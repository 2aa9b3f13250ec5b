/- HilbertChecks, where what it reads is of the bulk that the row names: the row's statement and its card. The package variables that the row lists read as the program lays them. Printed by card16.py, a program of mine. -/
import Derived.Test.YtflieamjacclnaaGreatDoorMHK5
set_option linter.unusedVariables false
set_option linter.unusedSimpArgs false
section
namespace Go.Proofs.YtflieamjacclnaaGreatDoor
open Gw Go.ChangeShapes Go.WideShapes Go.ChangeAt Go.RowKit
set_option maxRecDepth 100000
namespace LawHilbertChecks
theorem contract (H : Type) (enc : TypeId × Value → H) (W : World) (base : Nat) (args : Array Value) (ds gs : List (DataW H)) (before : List MemPlace)
  (hval : ∀ (j : Nat) t v, xt.params[j]? = some t → args[j]? = some v → Value.okWide PP W .any base t v)
  (hW : DataW.Whole enc PP xt.params.toList Rows.hilbertChecksSpec.vars false W args.toList ds gs before) (hL : laidMetH PP Rows.hilbertChecksUptoRow.laid W) (hsm : Rows.uptoSmall H (ds ++ gs) = true) :
  Calls PP yy args W fun e W' => ∃ v, e = .returned v ∧ Rows.hilbertChecksSpec.post enc PP xt false true false false W args v W' := by
 have hW' := hW
 have hlt := hW.lt
 obtain ⟨p, q, hA0, hV, rfl, hfz, hnd⟩ := hW
 have hA : DataW.TrodAll enc PP W 0 (fun _ => true) true xt.params.toList args.toList ds p := hA0
 have hpar : xt.params = #[ug, T_L_int, yz] := by kernel_rfl
 rw [hpar] at hA hval
 obtain ⟨v0, v1, v2, d0, d1, d2, p0, p1, p2, rfl, rfl, rfl, h0, h1, h2⟩ := trodAll_three hA
 obtain ⟨rfl, rfl⟩ := trodVars_none hV
 obtain ⟨a0, s0, rfl, hrd0, hnm0, hsl0⟩ := nds_of (hval 0 _ _ rfl rfl) h0
 have hln0 := small_len hsm (by simp) hsl0
 obtain ⟨a1, s1, rfl, hrd1, hnm1, hsl1⟩ := ints_of (hval 1 _ _ rfl rfl) h1
 have hln1 := small_len hsm (by simp) hsl1
 obtain ⟨a2, s2, rfl, hrd2, hnm2, hsl2⟩ := lns_of (hval 2 _ _ rfl rfl) h2
 have hln2 := small_len hsm (by simp) hsl2
 have S := stheld (W := W) (.s hrd0 (by omega) (.s hrd1 (by omega) (.s hrd2 (by omega) (.et (laid_four hL).2 (.pw (laid_four hL).1 .nil)))))
 refine (law16_HilbertChecks_st S (HilbertChecks_true (K := 70000) (by decide) heads16 hnm0 (by omega) (by omega) (by omega))).mono fun e W' ⟨v, he, hv, hS⟩ => ?_
 subst hv
 have hx := hS.frame
 refine ⟨_, he, post_old (pa := p0 ++ p1 ++ p2) (pv := []) hW' (fun _ _ _ => trodAll_cons_mk (shut_bool un_bool _) trodAll_mk0) (fun sp hsp => ?_) (fun _ _ => rfl) (by simp) ((Ext.below hx).frame _) hx.froz (ok_one (by kernel_rfl) rfl (okWide_bool_mk un_bool _))⟩
 rw [hpar]
 refine trodAll_stays (ts := [ug, T_L_int, yz]) (fun t ht => ?_) hA (fun p hp => (Ext.below hx).same (hlt p (by simpa using hp))) (fun p hp => hsp p (by simpa using hp))
 simp only [List.mem_cons, List.not_mem_nil, or_false] at ht
 rcases ht with rfl | rfl | rfl <;> exact ⟨by kernel_rfl, of_decide_eq_true (by kernel_rfl)⟩
noncomputable def laidWorld0 (os : Os) : World :=
 { World.holding PP os ⟨#[], #[], []⟩ with heap := (World.holding PP os ⟨#[], #[], []⟩).heap.modify 0 fun
   | .cells _ t frozen => .cells #[etV] t frozen
   | o => o }
noncomputable def laidWorld1 (os : Os) : World :=
 { laidWorld0 os with heap := (laidWorld0 os).heap.modify 3 fun
   | .cells _ t frozen => .cells (tz64.map (Value.int .u8)).toArray t frozen
   | o => o }
noncomputable def laidWorld2 (os : Os) : World :=
 { laidWorld1 os with heap := (laidWorld1 os).heap.modify 2 fun
   | .cells _ t frozen => .cells (tz32.map (Value.int .u8)).toArray t frozen
   | o => o }
noncomputable def laidWorld (os : Os) : World :=
 { laidWorld2 os with heap := (laidWorld2 os).heap.modify 1 fun
   | .cells _ t frozen => .cells (Lib.pow10Tab.map (Value.int .u64)).toArray t frozen
   | o => o }
def argsN : Array Value := #[.slice none 0 0, .slice none 0 0, .slice none 0 0]
theorem laid_met (os : Os) : laidMetH PP Rows.hilbertChecksUptoRow.laid ((laidWorld os).forCall (fun _ _ => 0) ⟨#[], argsN, []⟩).memory :=
 laidMetH_of_parts (laidMet_of_run' 8 (by kernel_rfl) (by kernel_rfl)) (by kernel_rfl)
def ddN (H : Type) : List (DataW H) := [.nil, .nil, .nil]
theorem reads (os : Os) {H : Type} (enc : TypeId × Value → H) : ∃ places, DataW.whole enc PP ((laidWorld os).forCall (fun _ _ => 0) ⟨#[], argsN, []⟩).memory xt.params.toList Rows.hilbertChecksSpec.vars false argsN.toList 8 = some (ddN H, [], places) :=
 ⟨[], by kernel_rfl⟩
theorem lifted (os : Os) (started : os.Started) (H : Type) (enc : TypeId × Value → H) (F : Stop.Interp) :
  ReturnsInHanded {} Tryz.checked os yy .any ((Rows.OpenSpec.upto Rows.hilbertChecksSpec).preRow enc PP xt Rows.hilbertChecksUptoRow.domain false Rows.hilbertChecksUptoRow.laid) (((Rows.OpenSpec.upto Rows.hilbertChecksSpec).at F).post enc PP xt false true false false) := by
 obtain ⟨places, hx⟩ := reads os enc
 refine returnsInHanded_of_row (C := Tryz.checked) (s := Rows.OpenSpec.upto Rows.hilbertChecksSpec) ownKnob_none started (by kernel_rfl) vj
  (witness_row_at (enc := enc) (C := Tryz.checked) false (laidWorld os) argsN rfl (by kernel_rfl) (by kernel_rfl) (by kernel_rfl)
   (OpenSpec.preRow_of_cond 8 hx (by kernel_rfl) (fun k hk => by cases hk; kernel_rfl) (by kernel_rfl) (laid_met os))) ?_
 intro W base args ds gs before hval hW _ hcond _ hL _ _
 exact contract H enc W base args ds gs before hval hW hL (hcond _ rfl)
theorem said : Rows.HilbertChecksUptoSaid :=
 OpenClaim.holds_of_cond yy xt rfl rfl rfl rfl rfl rfl rfl ⟨rfl, rfl, rfl, rfl, rfl⟩ rfl rfl rfl rfl rfl (by kernel_rfl) vj (by kernel_rfl)
  (of_decide_eq_true (by kernel_rfl)) (by unfold Func.isWrapper; first | (rw [if_pos (by decide +kernel)]; kernel_rfl) | (rw [if_neg (by decide +kernel)]; exact ⟨rfl, rfl⟩))
  (fun os started H enc _ F => by rw [OpenClaim.pre_eq_preRow]; exact lifted os started H enc F)
theorem plain (f : FuncId) (fn : Func) (hf : Tryz.pinned.checked.prog.funcNamed "dictum/dictumlaw16.HilbertChecks" = some f) (hfn : Tryz.pinned.checked.prog.funcs[f]? = some fn) :
  true = Tryz.pinned.checked.prog.looks [] ∧ ∀ (j : Nat) t, fn.params[j]? = some t → Tryz.pinned.checked.prog.wantsStandIn t = false := by
 obtain rfl : f = yy := Option.some.inj ((show PP.funcNamed "dictum/dictumlaw16.HilbertChecks" = some yy by kernel_rfl).symm.trans hf) |>.symm
 obtain rfl : fn = xt := (Option.some.inj (vj.symm.trans hfn)).symm
 refine ⟨by kernel_rfl, fun j t ht => ?_⟩
 rw [show xt.params = #[ug, T_L_int, yz] by kernel_rfl] at ht
 have hm : t ∈ [ug, T_L_int, yz] := by simpa using Array.mem_of_getElem? ht
 simp only [List.mem_cons, List.not_mem_nil, or_false] at hm
 rcases hm with rfl | rfl | rfl
 ·exact (show PP.wantsStandIn ug = false by kernel_rfl)
 ·exact (show PP.wantsStandIn T_L_int = false by kernel_rfl)
 ·exact (show PP.wantsStandIn yz = false by kernel_rfl)
theorem card : Rows.HilbertChecksUptoCardSaid :=
 Claim7.holds_tied_plain_at .later [] _ _ _ _ said (fun _ h => by cases h) (by kernel_rfl) (fun _ h => by cases h) hilbertChecksUpto_row_tie rfl ⟨rfl, rfl⟩ (by kernel_rfl) rfl plain (by kernel_rfl)
end LawHilbertChecks
end Go.Proofs.YtflieamjacclnaaGreatDoor
end
