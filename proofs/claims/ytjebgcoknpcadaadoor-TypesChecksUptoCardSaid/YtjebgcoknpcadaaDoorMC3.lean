/- Texts put together: Chapter 12, kinds of terms: the walks. Printed by pp.py, a program of mine. Chapter 12, what is right: the walks. Printed by pp.py, a program of mine. Errors on their way up: the walks. Printed by pp.py, a program of mine. Chapter 13, types: the walks. Printed by pp.py, a program of mine. -/
import Derived.Test.YtjebgcoknpcadaaDoorMC2
set_option linter.unusedVariables false
set_option linter.unusedSimpArgs false
section
namespace Go.Proofs.YtjebgcoknpcadaaDoor
open Gw Go.RowKit
set_option maxHeartbeats 4000000
set_option maxRecDepth 20000
theorem term_shape_st {A : Nat → Prop} {N : Oth} {w : World} {a0 : Int} (S : St A N w w [] []) {r : Int × Bool × Bool × Bool} (H : term_shape.f a0 = some r) :
  Calls PP F_term_shape #[.int .i64 a0] w fun e w' => ∃ v, e = .returned v ∧ (v = .tuple #[.int .i64 r.1, .bool r.2.1, .bool r.2.2.1, .bool r.2.2.2] ∧ St A N w w' [] []) := by
 unfold term_shape.f at H
 refine calls_of_wc (n := 25) fn_term_shape rfl rfl (by simp) ?_
 refine wc_seq (wc_region ?_)
 refine wd (does_as_i rfl) ?_
 refine wd (does_as_b rfl) ?_
 refine wd (does_as_b rfl) ?_
 refine wd (does_as_b rfl) ?_
 refine wl_nil ?_
 refine wc_seq (wc_seq (wc_region ?_))
 refine wd (does_mv_i rfl) ?_
 refine wl_nil ?_
 refine wc_block ?_
 refine wc_seq (wc_region ?_)
 refine wd (does_eq rfl rfl) ?_
 refine wd (does_as_b rfl) ?_
 refine wl_nil ?_
 refine wc_if rfl (fun hc1 => ?_) (fun hc1 => ?_)
 ·replace H := if_t hc1 H
  refine wc_seq (wc_region ?_)
  refine wd (does_as_i rfl) ?_
  refine wd (does_as_b rfl) ?_
  refine wd (does_as_b rfl) ?_
  refine wd (does_as_b rfl) ?_
  refine wl_nil ?_
  refine wc_ret ?_
  refine ⟨_, (rets4 (retOne_tmp rfl) (retOne_tmp rfl) (retOne_tmp rfl) (retOne_tmp rfl)), ?_⟩
  obtain rfl := Option.some.inj H
  exact ⟨rfl, S⟩
 replace H := if_f hc1 H
 refine wc_seq (wc_region ?_)
 refine wd (does_eq rfl rfl) ?_
 refine wd (does_as_b rfl) ?_
 refine wl_nil ?_
 refine wc_if rfl (fun hc2 => ?_) (fun hc2 => ?_)
 ·replace H := if_t hc2 H
  refine wc_seq (wc_region ?_)
  refine wd (does_as_i rfl) ?_
  refine wd (does_as_b rfl) ?_
  refine wd (does_as_b rfl) ?_
  refine wd (does_as_b rfl) ?_
  refine wl_nil ?_
  refine wc_ret ?_
  refine ⟨_, (rets4 (retOne_tmp rfl) (retOne_tmp rfl) (retOne_tmp rfl) (retOne_tmp rfl)), ?_⟩
  obtain rfl := Option.some.inj H
  exact ⟨rfl, S⟩
 replace H := if_f hc2 H
 refine wc_seq (wc_region ?_)
 refine wd (does_eq rfl rfl) ?_
 refine wd (does_as_b rfl) ?_
 refine wl_nil ?_
 refine wc_if rfl (fun hc3 => ?_) (fun hc3 => ?_)
 ·replace H := if_t hc3 H
  refine wc_seq (wc_region ?_)
  refine wd (does_as_i rfl) ?_
  refine wd (does_as_b rfl) ?_
  refine wd (does_as_b rfl) ?_
  refine wd (does_as_b rfl) ?_
  refine wl_nil ?_
  refine wc_ret ?_
  refine ⟨_, (rets4 (retOne_tmp rfl) (retOne_tmp rfl) (retOne_tmp rfl) (retOne_tmp rfl)), ?_⟩
  obtain rfl := Option.some.inj H
  exact ⟨rfl, S⟩
 replace H := if_f hc3 H
 refine wc_seq (wc_region ?_)
 refine wd (does_eq rfl rfl) ?_
 refine wd (does_as_b rfl) ?_
 refine wl_nil ?_
 refine wc_if rfl (fun hc4 => ?_) (fun hc4 => ?_)
 ·replace H := if_t hc4 H
  refine wc_seq (wc_region ?_)
  refine wd (does_as_i rfl) ?_
  refine wd (does_as_b rfl) ?_
  refine wd (does_as_b rfl) ?_
  refine wd (does_as_b rfl) ?_
  refine wl_nil ?_
  refine wc_ret ?_
  refine ⟨_, (rets4 (retOne_tmp rfl) (retOne_tmp rfl) (retOne_tmp rfl) (retOne_tmp rfl)), ?_⟩
  obtain rfl := Option.some.inj H
  exact ⟨rfl, S⟩
 replace H := if_f hc4 H
 refine wc_seq (wc_seq (wc_region ?_))
 refine wd (does_eq rfl rfl) ?_
 refine wd (does_as_b rfl) ?_
 refine wl_nil ?_
 obtain ⟨o5, e5, Ho5⟩ := bind_ex H
 replace H := e5; clear e5
 refine wc_cutq [15, 17, 18, 19, 20, 21] (fun fr W => fr 15 = .bool o5 ∧ St A N w W [] []) ?_ ?_
 ·refine wc_if rfl (fun hc6 => ?_) (fun hc6 => ?_)
  ·replace H := if_t hc6 H
   refine wc_skip ?_
   obtain rfl := Option.some.inj H
   exact ⟨rfl, (Dif.refl _ _), rfl, S⟩
  ·replace H := if_f hc6 H
   refine wc_seq (wc_region ?_)
   refine wd (does_eq rfl rfl) ?_
   refine wd (does_as_b rfl) ?_
   refine wl_nil ?_
   refine wc_if rfl (fun hc7 => ?_) (fun hc7 => ?_)
   ·replace H := if_t hc7 H
    refine wc_skip ?_
    obtain rfl := Option.some.inj H
    exact ⟨rfl, (((Dif.refl _ _).upd rfl _).upd rfl _), rfl, S⟩
   ·replace H := if_f hc7 H
    refine wc_seq (wc_region ?_)
    refine wd (does_eq rfl rfl) ?_
    refine wd (does_as_b rfl) ?_
    refine wl_nil ?_
    refine wc_if rfl (fun hc8 => ?_) (fun hc8 => ?_)
    ·replace H := if_t hc8 H
     refine wc_skip ?_
     obtain rfl := Option.some.inj H
     exact ⟨rfl, (((((Dif.refl _ _).upd rfl _).upd rfl _).upd rfl _).upd rfl _), rfl, S⟩
    ·replace H := if_f hc8 H
     refine wc_seq (wc_region ?_)
     refine wd (does_eq rfl rfl) ?_
     refine wd (does_as_b rfl) ?_
     refine wl_nil ?_
     refine wc_if rfl (fun hc9 => ?_) (fun hc9 => ?_)
     ·replace H := if_t hc9 H
      refine wc_skip ?_
      obtain rfl := Option.some.inj H
      exact ⟨rfl, (((((((Dif.refl _ _).upd rfl _).upd rfl _).upd rfl _).upd rfl _).upd rfl _).upd rfl _), rfl, S⟩
     ·replace H := if_f hc9 H
      refine wc_seq (wc_region ?_)
      refine wd (does_eq rfl rfl) ?_
      refine wd (does_as_b rfl) ?_
      refine wl_nil ?_
      refine wc_if rfl (fun hc10 => ?_) (fun hc10 => ?_)
      ·replace H := if_t hc10 H
       refine wc_skip ?_
       obtain rfl := Option.some.inj H
       exact ⟨rfl, (((((((((Dif.refl _ _).upd rfl _).upd rfl _).upd rfl _).upd rfl _).upd rfl _).upd rfl _).upd rfl _).upd rfl _), rfl, S⟩
      ·replace H := if_f hc10 H
       refine wc_region ?_
       refine wd (does_eq rfl rfl) ?_
       refine wd (does_as_b rfl) ?_
       refine wl_nil ?_
       obtain rfl := Option.some.inj H
       exact ⟨rfl, (((((((((((Dif.refl _ _).upd rfl _).upd rfl _).upd rfl _).upd rfl _).upd rfl _).upd rfl _).upd rfl _).upd rfl _).upd rfl _).upd rfl _), rfl, S⟩
 rintro g11 u12 ⟨p5_15, S⟩
 have H := Ho5
 refine wc_if p5_15 (fun hc13 => ?_) (fun hc13 => ?_)
 ·replace H := if_t hc13 H
  refine wc_seq (wc_region ?_)
  refine wd (does_as_i rfl) ?_
  refine wd (does_as_b rfl) ?_
  refine wd (does_as_b rfl) ?_
  refine wd (does_as_b rfl) ?_
  refine wl_nil ?_
  refine wc_ret ?_
  refine ⟨_, (rets4 (retOne_tmp rfl) (retOne_tmp rfl) (retOne_tmp rfl) (retOne_tmp rfl)), ?_⟩
  obtain rfl := Option.some.inj H
  exact ⟨rfl, S⟩
 replace H := if_f hc13 H
 refine wc_seq (wc_seq (wc_region ?_))
 refine wd (does_eq rfl rfl) ?_
 refine wd (does_as_b rfl) ?_
 refine wl_nil ?_
 refine wc_if rfl (fun hc14 => ?_) (fun hc14 => ?_)
 ·replace H := if_t hc14 H
  refine wc_skip ?_
  refine wc_if rfl (fun hc15 => ?_) (fun hc15 => ?_)
  ·replace H := if_t hc15 H
   refine wc_seq (wc_region ?_)
   refine wd (does_as_i rfl) ?_
   refine wd (does_as_b rfl) ?_
   refine wd (does_as_b rfl) ?_
   refine wd (does_as_b rfl) ?_
   refine wl_nil ?_
   refine wc_ret ?_
   refine ⟨_, (rets4 (retOne_tmp rfl) (retOne_tmp rfl) (retOne_tmp rfl) (retOne_tmp rfl)), ?_⟩
   obtain rfl := Option.some.inj H
   exact ⟨rfl, S⟩
  replace H := if_f hc15 H
  refine wc_skip ?_
  refine wc_seq (wc_region ?_)
  refine wd (does_as_i rfl) ?_
  refine wd (does_as_b rfl) ?_
  refine wd (does_as_b rfl) ?_
  refine wd (does_as_b rfl) ?_
  refine wl_nil ?_
  refine wc_ret ?_
  refine ⟨_, (rets4 (retOne_tmp rfl) (retOne_tmp rfl) (retOne_tmp rfl) (retOne_tmp rfl)), ?_⟩
  obtain rfl := Option.some.inj H
  exact ⟨rfl, S⟩
 ·replace H := if_f hc14 H
  refine wc_region ?_
  refine wd (does_eq rfl rfl) ?_
  refine wd (does_as_b rfl) ?_
  refine wl_nil ?_
  refine wc_if rfl (fun hc16 => ?_) (fun hc16 => ?_)
  ·replace H := if_t hc16 H
   refine wc_seq (wc_region ?_)
   refine wd (does_as_i rfl) ?_
   refine wd (does_as_b rfl) ?_
   refine wd (does_as_b rfl) ?_
   refine wd (does_as_b rfl) ?_
   refine wl_nil ?_
   refine wc_ret ?_
   refine ⟨_, (rets4 (retOne_tmp rfl) (retOne_tmp rfl) (retOne_tmp rfl) (retOne_tmp rfl)), ?_⟩
   obtain rfl := Option.some.inj H
   exact ⟨rfl, S⟩
  replace H := if_f hc16 H
  refine wc_skip ?_
  refine wc_seq (wc_region ?_)
  refine wd (does_as_i rfl) ?_
  refine wd (does_as_b rfl) ?_
  refine wd (does_as_b rfl) ?_
  refine wd (does_as_b rfl) ?_
  refine wl_nil ?_
  refine wc_ret ?_
  refine ⟨_, (rets4 (retOne_tmp rfl) (retOne_tmp rfl) (retOne_tmp rfl) (retOne_tmp rfl)), ?_⟩
  obtain rfl := Option.some.inj H
  exact ⟨rfl, S⟩
theorem term_named_st {A : Nat → Prop} {N : Oth} {w : World} {a0 : ByteArray} {a1 : Bool} (S : St A N w w [] []) {r : Bool} (H : term_named.f a0 a1 = some r) :
  Calls PP F_term_named #[.string a0, .bool a1] w fun e w' => ∃ v, e = .returned v ∧ (v = .bool r ∧ St A N w w' [] []) := by
 unfold term_named.f at H
 refine calls_of_wc (n := 11) fn_term_named rfl rfl (by simp) ?_
 refine wc_seq (wc_region ?_)
 refine wd (does_as_b rfl) ?_
 refine wl_nil ?_
 refine wc_seq (wc_seq (wc_region ?_))
 refine wd (does_mv_b rfl) ?_
 refine wd (does_not rfl) ?_
 refine wl_nil ?_
 refine wc_if rfl (fun hc1 => ?_) (fun hc1 => ?_)
 ·replace H := if_t hc1 H
  refine wc_seq (wc_region ?_)
  refine wd (does_mv_s rfl) ?_
  refine wd (does_eqs rfl rfl) ?_
  refine wd (does_as_b rfl) ?_
  refine wl_nil ?_
  refine wc_ret ?_
  refine ⟨_, (rets1 (retOne_tmp rfl)), ?_⟩
  obtain rfl := Option.some.inj H
  exact ⟨rfl, S⟩
 replace H := if_f hc1 H
 refine wc_skip ?_
 refine wc_seq (wc_region ?_)
 refine wd (does_mv_s rfl) ?_
 obtain ⟨r2, er2, H⟩ := bind_ex H
 obtain ⟨B4, MB4, SB4, back⟩ := S.calln 0 ((.nil))
 refine wl_call (does_call ca_formula_Word) (by decide) (formula_Word_st SB4 er2) ?_
 rintro _ w3 ⟨rfl, S2⟩
 replace S : St A N w w3 [] [] := back _ _ _ _ S2 rfl
 clear back S2 SB4
 refine wd (does_as_b rfl) ?_
 refine wl_nil ?_
 refine wc_ret ?_
 refine ⟨_, (rets1 (retOne_tmp rfl)), ?_⟩
 obtain rfl := Option.some.inj H
 exact ⟨rfl, S⟩
theorem ref12_parts_st {A : Nat → Prop} {N : Oth} {w : World} {a0 : Int} (S : St A N w w [] []) {r : Int} (H : ref12_parts.f a0 = some r) :
  Calls PP F_ref12_parts #[.int .i64 a0] w fun e w' => ∃ v, e = .returned v ∧ (v = .int .i64 r ∧ St A N w w' [] []) := by
 unfold ref12_parts.f at H
 refine calls_of_wc (n := 20) fn_ref12_parts rfl rfl (by simp) ?_
 refine wc_seq (wc_region ?_)
 refine wd (does_as_i rfl) ?_
 refine wl_nil ?_
 refine wc_seq (wc_seq (wc_region ?_))
 refine wd (does_mv_i rfl) ?_
 refine wl_nil ?_
 refine wc_block ?_
 refine wc_seq (wc_region ?_)
 refine wd (does_eq rfl rfl) ?_
 refine wd (does_as_b rfl) ?_
 refine wl_nil ?_
 refine wc_if rfl (fun hc1 => ?_) (fun hc1 => ?_)
 ·replace H := if_t hc1 H
  refine wc_seq (wc_region ?_)
  refine wd (does_as_i rfl) ?_
  refine wl_nil ?_
  refine wc_ret ?_
  refine ⟨_, (rets1 (retOne_tmp rfl)), ?_⟩
  obtain rfl := Option.some.inj H
  exact ⟨rfl, S⟩
 replace H := if_f hc1 H
 refine wc_seq (wc_seq (wc_region ?_))
 refine wd (does_eq rfl rfl) ?_
 refine wd (does_as_b rfl) ?_
 refine wl_nil ?_
 obtain ⟨o2, e2, Ho2⟩ := bind_ex H
 replace H := e2; clear e2
 refine wc_cutq [6, 8, 9, 10, 11, 12, 13] (fun fr W => fr 6 = .bool o2 ∧ St A N w W [] []) ?_ ?_
 ·refine wc_if rfl (fun hc3 => ?_) (fun hc3 => ?_)
  ·replace H := if_t hc3 H
   refine wc_skip ?_
   obtain rfl := Option.some.inj H
   exact ⟨rfl, (Dif.refl _ _), rfl, S⟩
  ·replace H := if_f hc3 H
   refine wc_seq (wc_region ?_)
   refine wd (does_eq rfl rfl) ?_
   refine wd (does_as_b rfl) ?_
   refine wl_nil ?_
   refine wc_if rfl (fun hc4 => ?_) (fun hc4 => ?_)
   ·replace H := if_t hc4 H
    refine wc_skip ?_
    obtain rfl := Option.some.inj H
    exact ⟨rfl, (((Dif.refl _ _).upd rfl _).upd rfl _), rfl, S⟩
   ·replace H := if_f hc4 H
    refine wc_seq (wc_region ?_)
    refine wd (does_eq rfl rfl) ?_
    refine wd (does_as_b rfl) ?_
    refine wl_nil ?_
    refine wc_if rfl (fun hc5 => ?_) (fun hc5 => ?_)
    ·replace H := if_t hc5 H
     refine wc_skip ?_
     obtain rfl := Option.some.inj H
     exact ⟨rfl, (((((Dif.refl _ _).upd rfl _).upd rfl _).upd rfl _).upd rfl _), rfl, S⟩
    ·replace H := if_f hc5 H
     refine wc_seq (wc_region ?_)
     refine wd (does_eq rfl rfl) ?_
     refine wd (does_as_b rfl) ?_
     refine wl_nil ?_
     refine wc_if rfl (fun hc6 => ?_) (fun hc6 => ?_)
     ·replace H := if_t hc6 H
      refine wc_skip ?_
      obtain rfl := Option.some.inj H
      exact ⟨rfl, (((((((Dif.refl _ _).upd rfl _).upd rfl _).upd rfl _).upd rfl _).upd rfl _).upd rfl _), rfl, S⟩
     ·replace H := if_f hc6 H
      refine wc_seq (wc_region ?_)
      refine wd (does_eq rfl rfl) ?_
      refine wd (does_as_b rfl) ?_
      refine wl_nil ?_
      refine wc_if rfl (fun hc7 => ?_) (fun hc7 => ?_)
      ·replace H := if_t hc7 H
       refine wc_skip ?_
       obtain rfl := Option.some.inj H
       exact ⟨rfl, (((((((((Dif.refl _ _).upd rfl _).upd rfl _).upd rfl _).upd rfl _).upd rfl _).upd rfl _).upd rfl _).upd rfl _), rfl, S⟩
      ·replace H := if_f hc7 H
       refine wc_seq (wc_region ?_)
       refine wd (does_eq rfl rfl) ?_
       refine wd (does_as_b rfl) ?_
       refine wl_nil ?_
       refine wc_if rfl (fun hc8 => ?_) (fun hc8 => ?_)
       ·replace H := if_t hc8 H
        refine wc_skip ?_
        obtain rfl := Option.some.inj H
        exact ⟨rfl, (((((((((((Dif.refl _ _).upd rfl _).upd rfl _).upd rfl _).upd rfl _).upd rfl _).upd rfl _).upd rfl _).upd rfl _).upd rfl _).upd rfl _), rfl, S⟩
       ·replace H := if_f hc8 H
        refine wc_region ?_
        refine wd (does_eq rfl rfl) ?_
        refine wd (does_as_b rfl) ?_
        refine wl_nil ?_
        obtain rfl := Option.some.inj H
        exact ⟨rfl, (((((((((((((Dif.refl _ _).upd rfl _).upd rfl _).upd rfl _).upd rfl _).upd rfl _).upd rfl _).upd rfl _).upd rfl _).upd rfl _).upd rfl _).upd rfl _).upd rfl _), rfl, S⟩
 rintro g9 u10 ⟨p2_6, S⟩
 have H := Ho2
 refine wc_if p2_6 (fun hc11 => ?_) (fun hc11 => ?_)
 ·replace H := if_t hc11 H
  refine wc_seq (wc_region ?_)
  refine wd (does_as_i rfl) ?_
  refine wl_nil ?_
  refine wc_ret ?_
  refine ⟨_, (rets1 (retOne_tmp rfl)), ?_⟩
  obtain rfl := Option.some.inj H
  exact ⟨rfl, S⟩
 replace H := if_f hc11 H
 refine wc_seq (wc_seq (wc_region ?_))
 refine wd (does_eq rfl rfl) ?_
 refine wd (does_as_b rfl) ?_
 refine wl_nil ?_
 refine wc_if rfl (fun hc12 => ?_) (fun hc12 => ?_)
 ·replace H := if_t hc12 H
  refine wc_skip ?_
  refine wc_if rfl (fun hc13 => ?_) (fun hc13 => ?_)
  ·replace H := if_t hc13 H
   refine wc_seq (wc_region ?_)
   refine wd (does_as_i rfl) ?_
   refine wl_nil ?_
   refine wc_ret ?_
   refine ⟨_, (rets1 (retOne_tmp rfl)), ?_⟩
   obtain rfl := Option.some.inj H
   exact ⟨rfl, S⟩
  replace H := if_f hc13 H
  refine wc_seq (wc_region ?_)
  refine wd (does_eq rfl rfl) ?_
  refine wd (does_as_b rfl) ?_
  refine wl_nil ?_
  refine wc_if rfl (fun hc14 => ?_) (fun hc14 => ?_)
  ·replace H := if_t hc14 H
   refine wc_seq (wc_region ?_)
   refine wd (does_as_i rfl) ?_
   refine wl_nil ?_
   refine wc_ret ?_
   refine ⟨_, (rets1 (retOne_tmp rfl)), ?_⟩
   obtain rfl := Option.some.inj H
   exact ⟨rfl, S⟩
  replace H := if_f hc14 H
  refine wc_skip ?_
  refine wc_seq (wc_region ?_)
  refine wd (does_as_i rfl) ?_
  refine wl_nil ?_
  refine wc_ret ?_
  refine ⟨_, (rets1 (retOne_tmp rfl)), ?_⟩
  obtain rfl := Option.some.inj H
  exact ⟨rfl, S⟩
 ·replace H := if_f hc12 H
  refine wc_seq (wc_region ?_)
  refine wd (does_eq rfl rfl) ?_
  refine wd (does_as_b rfl) ?_
  refine wl_nil ?_
  refine wc_if rfl (fun hc15 => ?_) (fun hc15 => ?_)
  ·replace H := if_t hc15 H
   refine wc_skip ?_
   refine wc_if rfl (fun hc16 => ?_) (fun hc16 => ?_)
   ·replace H := if_t hc16 H
    refine wc_seq (wc_region ?_)
    refine wd (does_as_i rfl) ?_
    refine wl_nil ?_
    refine wc_ret ?_
    refine ⟨_, (rets1 (retOne_tmp rfl)), ?_⟩
    obtain rfl := Option.some.inj H
    exact ⟨rfl, S⟩
   replace H := if_f hc16 H
   refine wc_seq (wc_region ?_)
   refine wd (does_eq rfl rfl) ?_
   refine wd (does_as_b rfl) ?_
   refine wl_nil ?_
   refine wc_if rfl (fun hc17 => ?_) (fun hc17 => ?_)
   ·replace H := if_t hc17 H
    refine wc_seq (wc_region ?_)
    refine wd (does_as_i rfl) ?_
    refine wl_nil ?_
    refine wc_ret ?_
    refine ⟨_, (rets1 (retOne_tmp rfl)), ?_⟩
    obtain rfl := Option.some.inj H
    exact ⟨rfl, S⟩
   replace H := if_f hc17 H
   refine wc_skip ?_
   refine wc_seq (wc_region ?_)
   refine wd (does_as_i rfl) ?_
   refine wl_nil ?_
   refine wc_ret ?_
   refine ⟨_, (rets1 (retOne_tmp rfl)), ?_⟩
   obtain rfl := Option.some.inj H
   exact ⟨rfl, S⟩
  ·replace H := if_f hc15 H
   refine wc_region ?_
   refine wd (does_eq rfl rfl) ?_
   refine wd (does_as_b rfl) ?_
   refine wl_nil ?_
   refine wc_if rfl (fun hc18 => ?_) (fun hc18 => ?_)
   ·replace H := if_t hc18 H
    refine wc_seq (wc_region ?_)
    refine wd (does_as_i rfl) ?_
    refine wl_nil ?_
    refine wc_ret ?_
    refine ⟨_, (rets1 (retOne_tmp rfl)), ?_⟩
    obtain rfl := Option.some.inj H
    exact ⟨rfl, S⟩
   replace H := if_f hc18 H
   refine wc_seq (wc_region ?_)
   refine wd (does_eq rfl rfl) ?_
   refine wd (does_as_b rfl) ?_
   refine wl_nil ?_
   refine wc_if rfl (fun hc19 => ?_) (fun hc19 => ?_)
   ·replace H := if_t hc19 H
    refine wc_seq (wc_region ?_)
    refine wd (does_as_i rfl) ?_
    refine wl_nil ?_
    refine wc_ret ?_
    refine ⟨_, (rets1 (retOne_tmp rfl)), ?_⟩
    obtain rfl := Option.some.inj H
    exact ⟨rfl, S⟩
   replace H := if_f hc19 H
   refine wc_skip ?_
   refine wc_seq (wc_region ?_)
   refine wd (does_as_i rfl) ?_
   refine wl_nil ?_
   refine wc_ret ?_
   refine ⟨_, (rets1 (retOne_tmp rfl)), ?_⟩
   obtain rfl := Option.some.inj H
   exact ⟨rfl, S⟩
theorem term_deep_gst {rec_term_deep : PTerm → Int → Option Int} (hrec_term_deep : ∀ {A : Nat → Prop} {N : Oth} {w : World} {a0 : PTerm} {s_0 : SlV} {a1 : Int} (S : St A N w w [] [oDTerm s_0 a0.sub]) {r : Int} (H : rec_term_deep a0 a1 = some r), Calls PP F_term_deep #[.agg (Term.C (⟨a0.kind, a0.name, a0.other, a0.form, s_0⟩ : Term)).toArray, .int .i64 a1] w fun e w' => ∃ v, e = .returned v ∧ (v = .int .i64 r ∧ St A N w w' [] [])) {A : Nat → Prop} {N : Oth} {w : World} {a0 : PTerm} {s_0 : SlV} {a1 : Int} (S : St A N w w [] [oDTerm s_0 a0.sub]) {k : Nat} {r : Int} (H : term_deep.g rec_term_deep k a0 a1 = some r) :
  Calls PP F_term_deep #[.agg (Term.C (⟨a0.kind, a0.name, a0.other, a0.form, s_0⟩ : Term)).toArray, .int .i64 a1] w fun e w' => ∃ v, e = .returned v ∧ (v = .int .i64 r ∧ St A N w w' [] []) := by
 unfold term_deep.g at H
 refine calls_of_wc (n := 35) fn_term_deep rfl rfl (by simp) ?_
 refine wc_seq (wc_region ?_)
 refine wl_box_agg rfl (by decide) fun b2 w1 hw1 => ?_
 replace S : St A N w w1 [oB b2 T_Term (Term.C (⟨a0.kind, a0.name, a0.other, a0.form, s_0⟩ : Term))] [oDTerm s_0 a0.sub] := S.new hw1
 refine wd (does_as_i rfl) ?_
 refine wl_nil ?_
 refine wc_seq (wc_seq (wc_region ?_))
 refine wd (does_mv_i rfl) ?_
 refine wd (does_le rfl rfl) ?_
 refine wl_nil ?_
 refine wc_if rfl (fun hc3 => ?_) (fun hc3 => ?_)
 ·replace H := if_t hc3 H
  refine wc_seq (wc_region ?_)
  refine wd (does_mv_i rfl) ?_
  refine wd (does_as_i rfl) ?_
  refine wl_nil ?_
  refine wc_ret ?_
  refine ⟨_, (rets1 (retOne_tmp rfl)), ?_⟩
  replace S : St A N w w1 [] [] := S.arr [] []
  obtain rfl := Option.some.inj H
  exact ⟨rfl, S⟩
 replace H := if_f hc3 H
 refine wc_skip ?_
 refine wc_seq (wc_region ?_)
 refine wd (does_as_i rfl) ?_
 refine wl_nil ?_
 refine wc_seq (wc_seq (wc_region ?_))
 refine wd (does_as_i rfl) ?_
 refine wl_nil ?_
 obtain ⟨o4, e4, Ho4⟩ := bind_ex H
 clear H
 refine wc_cutq [5, 6, 10, 11, 12, 13, 14, 15, 16, 17, 18, 19, 20, 21, 22, 23, 24, 25, 26, 27, 28, 29, 30, 31, 32] (fun fr W => ∃ s4 : Int × Int, o4 = .inl s4 ∧ fr 5 = .int .i64 s4.1 ∧ fr 6 = .int .i64 s4.2 ∧ St A N w W [oB b2 T_Term (Term.C (⟨a0.kind, a0.name, a0.other, a0.form, s_0⟩ : Term))] [oDTerm s_0 a0.sub]) ?_ ?_
 ·refine wc_block ?_
  refine wc_loopm (α := Nat × (Int × Int)) [5, 6, 10, 11, 12, 13, 14, 15, 16, 17, 18, 19, 20, 21, 22, 23, 24, 25, 26, 27, 28, 29, 30, 31, 32] (fun x fr W => iter (fun s => term_deep.b0 a0 a1 rec_term_deep s.1 s.2) x.1 x.2 = some o4 ∧ fr 5 = .int .i64 (x.2.1) ∧ fr 6 = .int .i64 (x.2.2) ∧ St A N w W [oB b2 T_Term (Term.C (⟨a0.kind, a0.name, a0.other, a0.form, s_0⟩ : Term))] [oDTerm s_0 a0.sub]) (fun x => x.1) (k, (0, 0)) ⟨(by dsimp only; exact e4), rfl, rfl, S⟩ ?_
  rintro ⟨m4, ⟨x4_0, x4_1⟩⟩ g4 u4 ⟨e4, q4_5, q4_6, S⟩
  try dsimp only at e4
  try dsimp only at S
  try dsimp only at q4_5
  try dsimp only at q4_6
  obtain ⟨m4, rfl⟩ : ∃ m, m4 = m + 1 := ⟨m4 - 1, by cases m4 with | zero => cases e4 | succ m => rfl⟩
  obtain ⟨q4, H, e4⟩ := iter_s e4
  unfold term_deep.b0 at H
  try dsimp only at H
  refine wc_seq (wc_seq (wc_region ?_))
  refine wd (does_mv_i q4_6) ?_
  refine wd (does_fieldAddr fl_Term_sub rfl (o' := 4) rfl) ?_
  refine wd (does_load on_L_api_Term rfl ((S.blk 0).cell (Term.get_sub _))) ?_
  refine wd (does_lenF sl_L_api_Term rfl (S.onZ 0)) ?_
  refine wd (does_lt rfl rfl) ?_
  refine wd (does_mv_b rfl) ?_
  refine wl_guard (j := 5) (pol := true) rfl rfl rfl (by decide) (fun hg => does_mv_i q4_5) (by decide) ?_
  refine wl_guard (j := 5) (pol := true) rfl rfl rfl (by decide) (fun hg => does_mv_i rfl) (by decide) ?_
  refine wl_guard (j := 5) (pol := true) rfl rfl rfl (by decide) (fun hg => does_sub (gv_yes hg) rfl) (by decide) ?_
  refine wl_guard (j := 5) (pol := true) rfl rfl rfl (by decide) (fun hg => does_lt (gv_yes hg) (gv_yes hg)) (by decide) ?_
  refine wd (does_and rfl (fun hp => (gv_yes (and_1 hp)))) ?_
  refine wl_nil ?_
  refine wc_if rfl (fun hc5 => ?_) (fun hc5 => ?_)
  rotate_left
  ·replace H := if_f hc5 H
   refine wc_exit ?_
   obtain rfl := Option.some.inj H
   exact ⟨rfl, ((((((((((((Dif.self _ _ _).upd rfl _).upd rfl _).upd rfl _).upd rfl _).upd rfl _).upd rfl _).upd rfl _).upd rfl _).upd rfl _).upd rfl _).upd rfl _), (x4_0, x4_1), e4, q4_5, q4_6, S⟩
  replace H := if_t hc5 H
  refine wc_skip ?_
  refine wc_seq ?_
  refine wc_block ?_
  refine wc_region ?_
  refine wd (does_mv_i q4_5) ?_
  refine wd (does_fieldAddr fl_Term_sub rfl (o' := 4) rfl) ?_
  refine wd (does_load on_L_api_Term rfl ((S.blk 0).cell (Term.get_sub _))) ?_
  refine wd (does_mv_i q4_6) ?_
  obtain ⟨hi6, H⟩ := chk_ex H
  refine wd (does_indexF sl_L_api_Term rfl rfl (S.onZ 0) (inb_ex hi6).1 (inb_ex hi6).2) ?_
  obtain ⟨s7, hc8, S⟩ := S.viewTerm 0 (inb_ex hi6)
  replace S : St A N w u4 [oB b2 T_Term (Term.C (⟨a0.kind, a0.name, a0.other, a0.form, s_0⟩ : Term))] [oDTerm s7 ((at_ PTerm.z a0.sub x4_1).sub), oDTerm s_0 a0.sub] := S
  refine wd (does_load_agg ag_Term rfl hc8 (Term.len _)) ?_
  refine wd (does_mv_i rfl) ?_
  refine wd (does_sub rfl rfl) ?_
  obtain ⟨r9, er9, H⟩ := bind_ex H
  obtain ⟨B11, MB11, SB11, back⟩ := S.calln 0 ((.z 0 rfl .nil))
  refine wl_call (does_call ca_term_deep) (by decide) (hrec_term_deep (a0 := (at_ PTerm.z a0.sub x4_1)) SB11 er9) ?_
  rintro _ w10 ⟨rfl, S2⟩
  replace S : St A N w w10 [oB b2 T_Term (Term.C (⟨a0.kind, a0.name, a0.other, a0.form, s_0⟩ : Term))] [oDTerm s7 ((at_ PTerm.z a0.sub x4_1).sub), oDTerm s_0 a0.sub] := back _ _ _ _ S2 rfl
  clear back S2 SB11
  refine wd (does_max rfl rfl) ?_
  refine wd (does_as_i rfl) ?_
  refine wl_nil ?_
  refine wc_region ?_
  refine wd (does_mv_i q4_6) ?_
  refine wd (does_add rfl rfl) ?_
  refine wd (does_as_i rfl) ?_
  refine wl_nil ?_
  replace S : St A N w w10 [oB b2 T_Term (Term.C (⟨a0.kind, a0.name, a0.other, a0.form, s_0⟩ : Term))] [oDTerm s_0 a0.sub] := S.arr [0] [1]
  obtain rfl := Option.some.inj H
  exact ⟨rfl, ((((((((((((((((((((((((((Dif.self _ _ _).upd rfl _).upd rfl _).upd rfl _).upd rfl _).upd rfl _).upd rfl _).upd rfl _).upd rfl _).upd rfl _).upd rfl _).upd rfl _).upd rfl _).upd rfl _).upd rfl _).upd rfl _).upd rfl _).upd rfl _).upd rfl _).upd rfl _).upd rfl _).upd rfl _).upd rfl _).upd rfl _).upd rfl _).upd rfl _), (m4, ((if x4_0 < r9 then r9 else x4_0), IntKind.i64.wrap (x4_1 + 1))), ⟨e4, rfl, rfl, S⟩, by dsimp only; omega⟩
 rintro g12 u13 ⟨s4, rfl, p4_5, p4_6, S⟩
 have H := Ho4
 dsimp only [aft] at H
 refine wc_seq (wc_region ?_)
 refine wd (does_mv_i p4_5) ?_
 refine wd (does_add rfl rfl) ?_
 refine wd (does_as_i rfl) ?_
 refine wl_nil ?_
 refine wc_ret ?_
 refine ⟨_, (rets1 (retOne_tmp rfl)), ?_⟩
 replace S : St A N w u13 [] [] := S.arr [] []
 obtain rfl := Option.some.inj H
 exact ⟨rfl, S⟩
theorem term_deep_st {A : Nat → Prop} {N : Oth} {w : World} {a0 : PTerm} {s_0 : SlV} {a1 : Int} (S : St A N w w [] [oDTerm s_0 a0.sub]) {k : Nat} {r : Int} (H : term_deep.f k a0 a1 = some r) :
  Calls PP F_term_deep #[.agg (Term.C (⟨a0.kind, a0.name, a0.other, a0.form, s_0⟩ : Term)).toArray, .int .i64 a1] w fun e w' => ∃ v, e = .returned v ∧ (v = .int .i64 r ∧ St A N w w' [] []) := by
 have main : ∀ (k : Nat) {A : Nat → Prop} {N : Oth} {w : World} {a0 : PTerm} {s_0 : SlV} {a1 : Int} (S : St A N w w [] [oDTerm s_0 a0.sub]) {r : Int} (H : term_deep.f k a0 a1 = some r), Calls PP F_term_deep #[.agg (Term.C (⟨a0.kind, a0.name, a0.other, a0.form, s_0⟩ : Term)).toArray, .int .i64 a1] w fun e w' => ∃ v, e = .returned v ∧ (v = .int .i64 r ∧ St A N w w' [] []) := by
  intro k
  induction k with
  | zero => intro A N w a0 s_0 a1 S r H; cases H
  | succ k ih => intro A N w a0 s_0 a1 S r H; exact term_deep_gst ih S H
 exact main k S H
theorem term_Deep_st {A : Nat → Prop} {N : Oth} {w : World} {a0 : PTerm} {s_0 : SlV} (S : St A N w w [] [oDTerm s_0 a0.sub]) {k : Nat} {r : Int} (H : term_Deep.f k a0 = some r) :
  Calls PP F_term_Deep #[.agg (Term.C (⟨a0.kind, a0.name, a0.other, a0.form, s_0⟩ : Term)).toArray] w fun e w' => ∃ v, e = .returned v ∧ (v = .int .i64 r ∧ St A N w w' [] []) := by
 unfold term_Deep.f at H
 refine calls_of_wc (n := 5) fn_term_Deep rfl rfl (by simp) ?_
 refine wc_seq (wc_region ?_)
 refine wl_box_agg rfl (by decide) fun b2 w1 hw1 => ?_
 replace S : St A N w w1 [oB b2 T_Term (Term.C (⟨a0.kind, a0.name, a0.other, a0.form, s_0⟩ : Term))] [oDTerm s_0 a0.sub] := S.new hw1
 refine wd (does_as_i rfl) ?_
 refine wl_nil ?_
 refine wc_seq (wc_region ?_)
 refine wd (does_load_agg ag_Term rfl ((S.blk 0).all _ (Term.len _)) (Term.len _)) ?_
 obtain ⟨r3, er3, H⟩ := bind_ex H
 obtain ⟨B5, MB5, SB5, back⟩ := S.calln 0 ((.z 0 rfl .nil))
 refine wl_call (does_call ca_term_deep) (by decide) (term_deep_st (a0 := a0) SB5 er3) ?_
 rintro _ w4 ⟨rfl, S2⟩
 replace S : St A N w w4 [oB b2 T_Term (Term.C (⟨a0.kind, a0.name, a0.other, a0.form, s_0⟩ : Term))] [oDTerm s_0 a0.sub] := back _ _ _ _ S2 rfl
 clear back S2 SB5
 refine wd (does_as_i rfl) ?_
 refine wl_nil ?_
 refine wc_ret ?_
 refine ⟨_, (rets1 (retOne_tmp rfl)), ?_⟩
 replace S : St A N w w4 [] [] := S.arr [] []
 obtain rfl := Option.some.inj H
 exact ⟨rfl, S⟩
theorem ref12_size_gst {rec_ref12_size : PTerm → Int → Option Int} (hrec_ref12_size : ∀ {A : Nat → Prop} {N : Oth} {w : World} {a0 : PTerm} {s_0 : SlV} {a1 : Int} (S : St A N w w [] [oDTerm s_0 a0.sub]) {r : Int} (H : rec_ref12_size a0 a1 = some r), Calls PP F_ref12_size #[.agg (Term.C (⟨a0.kind, a0.name, a0.other, a0.form, s_0⟩ : Term)).toArray, .int .i64 a1] w fun e w' => ∃ v, e = .returned v ∧ (v = .int .i64 r ∧ St A N w w' [] [])) {A : Nat → Prop} {N : Oth} {w : World} {a0 : PTerm} {s_0 : SlV} {a1 : Int} (S : St A N w w [] [oDTerm s_0 a0.sub]) {k : Nat} {r : Int} (H : ref12_size.g rec_ref12_size k a0 a1 = some r) :
  Calls PP F_ref12_size #[.agg (Term.C (⟨a0.kind, a0.name, a0.other, a0.form, s_0⟩ : Term)).toArray, .int .i64 a1] w fun e w' => ∃ v, e = .returned v ∧ (v = .int .i64 r ∧ St A N w w' [] []) := by
 unfold ref12_size.g at H
 refine calls_of_wc (n := 27) fn_ref12_size rfl rfl (by simp) ?_
 refine wc_seq (wc_region ?_)
 refine wl_box_agg rfl (by decide) fun b2 w1 hw1 => ?_
 replace S : St A N w w1 [oB b2 T_Term (Term.C (⟨a0.kind, a0.name, a0.other, a0.form, s_0⟩ : Term))] [oDTerm s_0 a0.sub] := S.new hw1
 refine wd (does_as_i rfl) ?_
 refine wl_nil ?_
 refine wc_seq (wc_region ?_)
 refine wd (does_mv_i rfl) ?_
 refine wd (does_add rfl rfl) ?_
 refine wd (does_as_i rfl) ?_
 refine wl_nil ?_
 refine wc_seq (wc_seq (wc_region ?_))
 refine wd (does_as_i rfl) ?_
 refine wl_nil ?_
 obtain ⟨o3, e3, Ho3⟩ := bind_ex H
 clear H
 refine wc_cutq [1, 5, 8, 9, 10, 11, 12, 13, 14, 15, 16, 17, 18, 19, 20, 21, 22, 23, 24, 25] (fun fr W => ∃ s3 : Int × Int, o3 = .inl s3 ∧ fr 1 = .int .i64 s3.1 ∧ fr 5 = .int .i64 s3.2 ∧ St A N w W [oB b2 T_Term (Term.C (⟨a0.kind, a0.name, a0.other, a0.form, s_0⟩ : Term))] [oDTerm s_0 a0.sub]) ?_ ?_
 ·refine wc_block ?_
  refine wc_loopm (α := Nat × (Int × Int)) [1, 5, 8, 9, 10, 11, 12, 13, 14, 15, 16, 17, 18, 19, 20, 21, 22, 23, 24, 25] (fun x fr W => iter (fun s => ref12_size.b0 a0 rec_ref12_size s.1 s.2) x.1 x.2 = some o3 ∧ fr 1 = .int .i64 (x.2.1) ∧ fr 5 = .int .i64 (x.2.2) ∧ St A N w W [oB b2 T_Term (Term.C (⟨a0.kind, a0.name, a0.other, a0.form, s_0⟩ : Term))] [oDTerm s_0 a0.sub]) (fun x => x.1) (k, (IntKind.i64.wrap (a1 + 1), 0)) ⟨(by dsimp only; exact e3), rfl, rfl, S⟩ ?_
  rintro ⟨m3, ⟨x3_0, x3_1⟩⟩ g3 u3 ⟨e3, q3_1, q3_5, S⟩
  try dsimp only at e3
  try dsimp only at S
  try dsimp only at q3_1
  try dsimp only at q3_5
  obtain ⟨m3, rfl⟩ : ∃ m, m3 = m + 1 := ⟨m3 - 1, by cases m3 with | zero => cases e3 | succ m => rfl⟩
  obtain ⟨q3, H, e3⟩ := iter_s e3
  unfold ref12_size.b0 at H
  try dsimp only at H
  refine wc_seq (wc_seq (wc_region ?_))
  refine wd (does_mv_i q3_5) ?_
  refine wd (does_fieldAddr fl_Term_sub rfl (o' := 4) rfl) ?_
  refine wd (does_load on_L_api_Term rfl ((S.blk 0).cell (Term.get_sub _))) ?_
  refine wd (does_lenF sl_L_api_Term rfl (S.onZ 0)) ?_
  refine wd (does_lt rfl rfl) ?_
  refine wd (does_mv_b rfl) ?_
  refine wl_guard (j := 5) (pol := true) rfl rfl rfl (by decide) (fun hg => does_mv_i q3_1) (by decide) ?_
  refine wl_guard (j := 5) (pol := true) rfl rfl rfl (by decide) (fun hg => does_le (gv_yes hg) rfl) (by decide) ?_
  refine wd (does_and rfl (fun hp => (gv_yes (and_1 hp)))) ?_
  refine wl_nil ?_
  refine wc_if rfl (fun hc4 => ?_) (fun hc4 => ?_)
  rotate_left
  ·replace H := if_f hc4 H
   refine wc_exit ?_
   obtain rfl := Option.some.inj H
   exact ⟨rfl, ((((((((((Dif.self _ _ _).upd rfl _).upd rfl _).upd rfl _).upd rfl _).upd rfl _).upd rfl _).upd rfl _).upd rfl _).upd rfl _), (x3_0, x3_1), e3, q3_1, q3_5, S⟩
  replace H := if_t hc4 H
  refine wc_skip ?_
  refine wc_seq ?_
  refine wc_block ?_
  refine wc_region ?_
  refine wd (does_fieldAddr fl_Term_sub rfl (o' := 4) rfl) ?_
  refine wd (does_load on_L_api_Term rfl ((S.blk 0).cell (Term.get_sub _))) ?_
  refine wd (does_mv_i q3_5) ?_
  obtain ⟨hi5, H⟩ := chk_ex H
  refine wd (does_indexF sl_L_api_Term rfl rfl (S.onZ 0) (inb_ex hi5).1 (inb_ex hi5).2) ?_
  obtain ⟨s6, hc7, S⟩ := S.viewTerm 0 (inb_ex hi5)
  replace S : St A N w u3 [oB b2 T_Term (Term.C (⟨a0.kind, a0.name, a0.other, a0.form, s_0⟩ : Term))] [oDTerm s6 ((at_ PTerm.z a0.sub x3_1).sub), oDTerm s_0 a0.sub] := S
  refine wd (does_load_agg ag_Term rfl hc7 (Term.len _)) ?_
  refine wd (does_mv_i q3_1) ?_
  obtain ⟨r8, er8, H⟩ := bind_ex H
  obtain ⟨B10, MB10, SB10, back⟩ := S.calln 0 ((.z 0 rfl .nil))
  refine wl_call (does_call ca_ref12_size) (by decide) (hrec_ref12_size (a0 := (at_ PTerm.z a0.sub x3_1)) SB10 er8) ?_
  rintro _ w9 ⟨rfl, S2⟩
  replace S : St A N w w9 [oB b2 T_Term (Term.C (⟨a0.kind, a0.name, a0.other, a0.form, s_0⟩ : Term))] [oDTerm s6 ((at_ PTerm.z a0.sub x3_1).sub), oDTerm s_0 a0.sub] := back _ _ _ _ S2 rfl
  clear back S2 SB10
  refine wd (does_as_i rfl) ?_
  refine wl_nil ?_
  refine wc_region ?_
  refine wd (does_mv_i q3_5) ?_
  refine wd (does_add rfl rfl) ?_
  refine wd (does_as_i rfl) ?_
  refine wl_nil ?_
  replace S : St A N w w9 [oB b2 T_Term (Term.C (⟨a0.kind, a0.name, a0.other, a0.form, s_0⟩ : Term))] [oDTerm s_0 a0.sub] := S.arr [0] [1]
  obtain rfl := Option.some.inj H
  exact ⟨rfl, (((((((((((((((((((((Dif.self _ _ _).upd rfl _).upd rfl _).upd rfl _).upd rfl _).upd rfl _).upd rfl _).upd rfl _).upd rfl _).upd rfl _).upd rfl _).upd rfl _).upd rfl _).upd rfl _).upd rfl _).upd rfl _).upd rfl _).upd rfl _).upd rfl _).upd rfl _).upd rfl _), (m3, (r8, IntKind.i64.wrap (x3_1 + 1))), ⟨e3, rfl, rfl, S⟩, by dsimp only; omega⟩
 rintro g11 u12 ⟨s3, rfl, p3_1, p3_5, S⟩
 have H := Ho3
 dsimp only [aft] at H
 refine wc_seq (wc_region ?_)
 refine wd (does_mv_i p3_1) ?_
 refine wd (does_as_i rfl) ?_
 refine wl_nil ?_
 refine wc_ret ?_
 refine ⟨_, (rets1 (retOne_tmp rfl)), ?_⟩
 replace S : St A N w u12 [] [] := S.arr [] []
 obtain rfl := Option.some.inj H
 exact ⟨rfl, S⟩
theorem ref12_size_st {A : Nat → Prop} {N : Oth} {w : World} {a0 : PTerm} {s_0 : SlV} {a1 : Int} (S : St A N w w [] [oDTerm s_0 a0.sub]) {k : Nat} {r : Int} (H : ref12_size.f k a0 a1 = some r) :
  Calls PP F_ref12_size #[.agg (Term.C (⟨a0.kind, a0.name, a0.other, a0.form, s_0⟩ : Term)).toArray, .int .i64 a1] w fun e w' => ∃ v, e = .returned v ∧ (v = .int .i64 r ∧ St A N w w' [] []) := by
 have main : ∀ (k : Nat) {A : Nat → Prop} {N : Oth} {w : World} {a0 : PTerm} {s_0 : SlV} {a1 : Int} (S : St A N w w [] [oDTerm s_0 a0.sub]) {r : Int} (H : ref12_size.f k a0 a1 = some r), Calls PP F_ref12_size #[.agg (Term.C (⟨a0.kind, a0.name, a0.other, a0.form, s_0⟩ : Term)).toArray, .int .i64 a1] w fun e w' => ∃ v, e = .returned v ∧ (v = .int .i64 r ∧ St A N w w' [] []) := by
  intro k
  induction k with
  | zero => intro A N w a0 s_0 a1 S r H; cases H
  | succ k ih => intro A N w a0 s_0 a1 S r H; exact ref12_size_gst ih S H
 exact main k S H
theorem ref12_Size_st {A : Nat → Prop} {N : Oth} {w : World} {a0 : PTerm} {s_0 : SlV} (S : St A N w w [] [oDTerm s_0 a0.sub]) {k : Nat} {r : Int} (H : ref12_Size.f k a0 = some r) :
  Calls PP F_ref12_Size #[.agg (Term.C (⟨a0.kind, a0.name, a0.other, a0.form, s_0⟩ : Term)).toArray] w fun e w' => ∃ v, e = .returned v ∧ (v = .int .i64 r ∧ St A N w w' [] []) := by
 unfold ref12_Size.f at H
 refine calls_of_wc (n := 5) fn_ref12_Size rfl rfl (by simp) ?_
 refine wc_seq (wc_region ?_)
 refine wl_box_agg rfl (by decide) fun b2 w1 hw1 => ?_
 replace S : St A N w w1 [oB b2 T_Term (Term.C (⟨a0.kind, a0.name, a0.other, a0.form, s_0⟩ : Term))] [oDTerm s_0 a0.sub] := S.new hw1
 refine wd (does_as_i rfl) ?_
 refine wl_nil ?_
 refine wc_seq (wc_region ?_)
 refine wd (does_load_agg ag_Term rfl ((S.blk 0).all _ (Term.len _)) (Term.len _)) ?_
 obtain ⟨r3, er3, H⟩ := bind_ex H
 obtain ⟨B5, MB5, SB5, back⟩ := S.calln 0 ((.z 0 rfl .nil))
 refine wl_call (does_call ca_ref12_size) (by decide) (ref12_size_st (a0 := a0) SB5 er3) ?_
 rintro _ w4 ⟨rfl, S2⟩
 replace S : St A N w w4 [oB b2 T_Term (Term.C (⟨a0.kind, a0.name, a0.other, a0.form, s_0⟩ : Term))] [oDTerm s_0 a0.sub] := back _ _ _ _ S2 rfl
 clear back S2 SB5
 refine wd (does_as_i rfl) ?_
 refine wl_nil ?_
 refine wc_ret ?_
 refine ⟨_, (rets1 (retOne_tmp rfl)), ?_⟩
 replace S : St A N w w4 [] [] := S.arr [] []
 obtain rfl := Option.some.inj H
 exact ⟨rfl, S⟩
theorem ref12_deep_gst {rec_ref12_deep : PTerm → Int → Option Int} (hrec_ref12_deep : ∀ {A : Nat → Prop} {N : Oth} {w : World} {a0 : PTerm} {s_0 : SlV} {a1 : Int} (S : St A N w w [] [oDTerm s_0 a0.sub]) {r : Int} (H : rec_ref12_deep a0 a1 = some r), Calls PP F_ref12_deep #[.agg (Term.C (⟨a0.kind, a0.name, a0.other, a0.form, s_0⟩ : Term)).toArray, .int .i64 a1] w fun e w' => ∃ v, e = .returned v ∧ (v = .int .i64 r ∧ St A N w w' [] [])) {A : Nat → Prop} {N : Oth} {w : World} {a0 : PTerm} {s_0 : SlV} {a1 : Int} (S : St A N w w [] [oDTerm s_0 a0.sub]) {k : Nat} {r : Int} (H : ref12_deep.g rec_ref12_deep k a0 a1 = some r) :
  Calls PP F_ref12_deep #[.agg (Term.C (⟨a0.kind, a0.name, a0.other, a0.form, s_0⟩ : Term)).toArray, .int .i64 a1] w fun e w' => ∃ v, e = .returned v ∧ (v = .int .i64 r ∧ St A N w w' [] []) := by
 unfold ref12_deep.g at H
 refine calls_of_wc (n := 33) fn_ref12_deep rfl rfl (by simp) ?_
 refine wc_seq (wc_region ?_)
 refine wl_box_agg rfl (by decide) fun b2 w1 hw1 => ?_
 replace S : St A N w w1 [oB b2 T_Term (Term.C (⟨a0.kind, a0.name, a0.other, a0.form, s_0⟩ : Term))] [oDTerm s_0 a0.sub] := S.new hw1
 refine wd (does_as_i rfl) ?_
 refine wl_nil ?_
 refine wc_seq (wc_seq (wc_region ?_))
 refine wd (does_mv_i rfl) ?_
 refine wd (does_gt rfl rfl) ?_
 refine wl_nil ?_
 refine wc_if rfl (fun hc3 => ?_) (fun hc3 => ?_)
 ·replace H := if_t hc3 H
  refine wc_seq (wc_region ?_)
  refine wd (does_mv_i rfl) ?_
  refine wd (does_as_i rfl) ?_
  refine wl_nil ?_
  refine wc_ret ?_
  refine ⟨_, (rets1 (retOne_tmp rfl)), ?_⟩
  replace S : St A N w w1 [] [] := S.arr [] []
  obtain rfl := Option.some.inj H
  exact ⟨rfl, S⟩
 replace H := if_f hc3 H
 refine wc_skip ?_
 refine wc_seq (wc_region ?_)
 refine wd (does_mv_i rfl) ?_
 refine wd (does_as_i rfl) ?_
 refine wl_nil ?_
 refine wc_seq (wc_seq (wc_region ?_))
 refine wd (does_as_i rfl) ?_
 refine wl_nil ?_
 obtain ⟨o4, e4, Ho4⟩ := bind_ex H
 clear H
 refine wc_cutq [5, 6, 11, 12, 13, 14, 15, 16, 17, 18, 19, 20, 21, 22, 23, 24, 25, 26, 27, 28, 29, 30, 31] (fun fr W => ∃ s4 : Int × Int, o4 = .inl s4 ∧ fr 5 = .int .i64 s4.1 ∧ fr 6 = .int .i64 s4.2 ∧ St A N w W [oB b2 T_Term (Term.C (⟨a0.kind, a0.name, a0.other, a0.form, s_0⟩ : Term))] [oDTerm s_0 a0.sub]) ?_ ?_
 ·refine wc_block ?_
  refine wc_loopm (α := Nat × (Int × Int)) [5, 6, 11, 12, 13, 14, 15, 16, 17, 18, 19, 20, 21, 22, 23, 24, 25, 26, 27, 28, 29, 30, 31] (fun x fr W => iter (fun s => ref12_deep.b0 a0 rec_ref12_deep a1 s.1 s.2) x.1 x.2 = some o4 ∧ fr 5 = .int .i64 (x.2.1) ∧ fr 6 = .int .i64 (x.2.2) ∧ St A N w W [oB b2 T_Term (Term.C (⟨a0.kind, a0.name, a0.other, a0.form, s_0⟩ : Term))] [oDTerm s_0 a0.sub]) (fun x => x.1) (k, (a1, 0)) ⟨(by dsimp only; exact e4), rfl, rfl, S⟩ ?_
  rintro ⟨m4, ⟨x4_0, x4_1⟩⟩ g4 u4 ⟨e4, q4_5, q4_6, S⟩
  try dsimp only at e4
  try dsimp only at S
  try dsimp only at q4_5
  try dsimp only at q4_6
  obtain ⟨m4, rfl⟩ : ∃ m, m4 = m + 1 := ⟨m4 - 1, by cases m4 with | zero => cases e4 | succ m => rfl⟩
  obtain ⟨q4, H, e4⟩ := iter_s e4
  unfold ref12_deep.b0 at H
  try dsimp only at H
  refine wc_seq (wc_seq (wc_region ?_))
  refine wd (does_mv_i q4_6) ?_
  refine wd (does_fieldAddr fl_Term_sub rfl (o' := 4) rfl) ?_
  refine wd (does_load on_L_api_Term rfl ((S.blk 0).cell (Term.get_sub _))) ?_
  refine wd (does_lenF sl_L_api_Term rfl (S.onZ 0)) ?_
  refine wd (does_lt rfl rfl) ?_
  refine wd (does_mv_b rfl) ?_
  refine wl_guard (j := 5) (pol := true) rfl rfl rfl (by decide) (fun hg => does_mv_i q4_5) (by decide) ?_
  refine wl_guard (j := 5) (pol := true) rfl rfl rfl (by decide) (fun hg => does_le (gv_yes hg) rfl) (by decide) ?_
  refine wd (does_and rfl (fun hp => (gv_yes (and_1 hp)))) ?_
  refine wl_nil ?_
  refine wc_if rfl (fun hc5 => ?_) (fun hc5 => ?_)
  rotate_left
  ·replace H := if_f hc5 H
   refine wc_exit ?_
   obtain rfl := Option.some.inj H
   exact ⟨rfl, ((((((((((Dif.self _ _ _).upd rfl _).upd rfl _).upd rfl _).upd rfl _).upd rfl _).upd rfl _).upd rfl _).upd rfl _).upd rfl _), (x4_0, x4_1), e4, q4_5, q4_6, S⟩
  replace H := if_t hc5 H
  refine wc_skip ?_
  refine wc_seq ?_
  refine wc_block ?_
  refine wc_region ?_
  refine wd (does_mv_i q4_5) ?_
  refine wd (does_fieldAddr fl_Term_sub rfl (o' := 4) rfl) ?_
  refine wd (does_load on_L_api_Term rfl ((S.blk 0).cell (Term.get_sub _))) ?_
  refine wd (does_mv_i q4_6) ?_
  obtain ⟨hi6, H⟩ := chk_ex H
  refine wd (does_indexF sl_L_api_Term rfl rfl (S.onZ 0) (inb_ex hi6).1 (inb_ex hi6).2) ?_
  obtain ⟨s7, hc8, S⟩ := S.viewTerm 0 (inb_ex hi6)
  replace S : St A N w u4 [oB b2 T_Term (Term.C (⟨a0.kind, a0.name, a0.other, a0.form, s_0⟩ : Term))] [oDTerm s7 ((at_ PTerm.z a0.sub x4_1).sub), oDTerm s_0 a0.sub] := S
  refine wd (does_load_agg ag_Term rfl hc8 (Term.len _)) ?_
  refine wd (does_mv_i rfl) ?_
  refine wd (does_add rfl rfl) ?_
  obtain ⟨r9, er9, H⟩ := bind_ex H
  obtain ⟨B11, MB11, SB11, back⟩ := S.calln 0 ((.z 0 rfl .nil))
  refine wl_call (does_call ca_ref12_deep) (by decide) (hrec_ref12_deep (a0 := (at_ PTerm.z a0.sub x4_1)) SB11 er9) ?_
  rintro _ w10 ⟨rfl, S2⟩
  replace S : St A N w w10 [oB b2 T_Term (Term.C (⟨a0.kind, a0.name, a0.other, a0.form, s_0⟩ : Term))] [oDTerm s7 ((at_ PTerm.z a0.sub x4_1).sub), oDTerm s_0 a0.sub] := back _ _ _ _ S2 rfl
  clear back S2 SB11
  refine wd (does_max rfl rfl) ?_
  refine wd (does_as_i rfl) ?_
  refine wl_nil ?_
  refine wc_region ?_
  refine wd (does_mv_i q4_6) ?_
  refine wd (does_add rfl rfl) ?_
  refine wd (does_as_i rfl) ?_
  refine wl_nil ?_
  replace S : St A N w w10 [oB b2 T_Term (Term.C (⟨a0.kind, a0.name, a0.other, a0.form, s_0⟩ : Term))] [oDTerm s_0 a0.sub] := S.arr [0] [1]
  obtain rfl := Option.some.inj H
  exact ⟨rfl, ((((((((((((((((((((((((Dif.self _ _ _).upd rfl _).upd rfl _).upd rfl _).upd rfl _).upd rfl _).upd rfl _).upd rfl _).upd rfl _).upd rfl _).upd rfl _).upd rfl _).upd rfl _).upd rfl _).upd rfl _).upd rfl _).upd rfl _).upd rfl _).upd rfl _).upd rfl _).upd rfl _).upd rfl _).upd rfl _).upd rfl _), (m4, ((if x4_0 < r9 then r9 else x4_0), IntKind.i64.wrap (x4_1 + 1))), ⟨e4, rfl, rfl, S⟩, by dsimp only; omega⟩
 rintro g12 u13 ⟨s4, rfl, p4_5, p4_6, S⟩
 have H := Ho4
 dsimp only [aft] at H
 refine wc_seq (wc_region ?_)
 refine wd (does_mv_i p4_5) ?_
 refine wd (does_as_i rfl) ?_
 refine wl_nil ?_
 refine wc_ret ?_
 refine ⟨_, (rets1 (retOne_tmp rfl)), ?_⟩
 replace S : St A N w u13 [] [] := S.arr [] []
 obtain rfl := Option.some.inj H
 exact ⟨rfl, S⟩
theorem ref12_deep_st {A : Nat → Prop} {N : Oth} {w : World} {a0 : PTerm} {s_0 : SlV} {a1 : Int} (S : St A N w w [] [oDTerm s_0 a0.sub]) {k : Nat} {r : Int} (H : ref12_deep.f k a0 a1 = some r) :
  Calls PP F_ref12_deep #[.agg (Term.C (⟨a0.kind, a0.name, a0.other, a0.form, s_0⟩ : Term)).toArray, .int .i64 a1] w fun e w' => ∃ v, e = .returned v ∧ (v = .int .i64 r ∧ St A N w w' [] []) := by
 have main : ∀ (k : Nat) {A : Nat → Prop} {N : Oth} {w : World} {a0 : PTerm} {s_0 : SlV} {a1 : Int} (S : St A N w w [] [oDTerm s_0 a0.sub]) {r : Int} (H : ref12_deep.f k a0 a1 = some r), Calls PP F_ref12_deep #[.agg (Term.C (⟨a0.kind, a0.name, a0.other, a0.form, s_0⟩ : Term)).toArray, .int .i64 a1] w fun e w' => ∃ v, e = .returned v ∧ (v = .int .i64 r ∧ St A N w w' [] []) := by
  intro k
  induction k with
  | zero => intro A N w a0 s_0 a1 S r H; cases H
  | succ k ih => intro A N w a0 s_0 a1 S r H; exact ref12_deep_gst ih S H
 exact main k S H
theorem ref12_Deep_st {A : Nat → Prop} {N : Oth} {w : World} {a0 : PTerm} {s_0 : SlV} (S : St A N w w [] [oDTerm s_0 a0.sub]) {k : Nat} {r : Int} (H : ref12_Deep.f k a0 = some r) :
  Calls PP F_ref12_Deep #[.agg (Term.C (⟨a0.kind, a0.name, a0.other, a0.form, s_0⟩ : Term)).toArray] w fun e w' => ∃ v, e = .returned v ∧ (v = .int .i64 r ∧ St A N w w' [] []) := by
 unfold ref12_Deep.f at H
 refine calls_of_wc (n := 5) fn_ref12_Deep rfl rfl (by simp) ?_
 refine wc_seq (wc_region ?_)
 refine wl_box_agg rfl (by decide) fun b2 w1 hw1 => ?_
 replace S : St A N w w1 [oB b2 T_Term (Term.C (⟨a0.kind, a0.name, a0.other, a0.form, s_0⟩ : Term))] [oDTerm s_0 a0.sub] := S.new hw1
 refine wd (does_as_i rfl) ?_
 refine wl_nil ?_
 refine wc_seq (wc_region ?_)
 refine wd (does_load_agg ag_Term rfl ((S.blk 0).all _ (Term.len _)) (Term.len _)) ?_
 obtain ⟨r3, er3, H⟩ := bind_ex H
 obtain ⟨B5, MB5, SB5, back⟩ := S.calln 0 ((.z 0 rfl .nil))
 refine wl_call (does_call ca_ref12_deep) (by decide) (ref12_deep_st (a0 := a0) SB5 er3) ?_
 rintro _ w4 ⟨rfl, S2⟩
 replace S : St A N w w4 [oB b2 T_Term (Term.C (⟨a0.kind, a0.name, a0.other, a0.form, s_0⟩ : Term))] [oDTerm s_0 a0.sub] := back _ _ _ _ S2 rfl
 clear back S2 SB5
 refine wd (does_as_i rfl) ?_
 refine wl_nil ?_
 refine wc_ret ?_
 refine ⟨_, (rets1 (retOne_tmp rfl)), ?_⟩
 replace S : St A N w w4 [] [] := S.arr [] []
 obtain rfl := Option.some.inj H
 exact ⟨rfl, S⟩
end Go.Proofs.YtjebgcoknpcadaaDoor
end
section
namespace Go.Proofs.YtjebgcoknpcadaaDoor
open Gw Go.RowKit
set_option maxHeartbeats 4000000
set_option maxRecDepth 20000
theorem term_right_1_gst {rec_term_right : PTerm → Option Bool} (hrec_term_right : ∀ {A : Nat → Prop} {N : Oth} {w : World} {a0 : PTerm} {s_0 : SlV} (S : St A N w w [] [oDTerm s_0 a0.sub]) {r : Bool} (H : rec_term_right a0 = some r), Calls PP F_term_right #[.agg (Term.C (⟨a0.kind, a0.name, a0.other, a0.form, s_0⟩ : Term)).toArray] w fun e w' => ∃ v, e = .returned v ∧ (v = .bool r ∧ St A N w w' [] [])) {A : Nat → Prop} {N : Oth} {w : World} {a0 : PTerm} {s_0 : SlV} (S : St A N w w [] [oDTerm s_0 a0.sub]) {r : Bool} (H : term_right_1.g rec_term_right a0 = some r) :
  Calls PP F_term_right_1 #[.agg (Term.C (⟨a0.kind, a0.name, a0.other, a0.form, s_0⟩ : Term)).toArray] w fun e w' => ∃ v, e = .returned v ∧ (v = .bool r ∧ St A N w w' [] []) := by
 unfold term_right_1.g at H
 refine calls_of_wc (n := 6) fn_term_right_1 rfl rfl (by simp) ?_
 refine wc_seq (wc_region ?_)
 refine wl_box_agg rfl (by decide) fun b2 w1 hw1 => ?_
 replace S : St A N w w1 [oB b2 T_Term (Term.C (⟨a0.kind, a0.name, a0.other, a0.form, s_0⟩ : Term))] [oDTerm s_0 a0.sub] := S.new hw1
 refine wd (does_as_b rfl) ?_
 refine wl_nil ?_
 refine wc_seq (wc_region ?_)
 refine wd (does_load_agg ag_Term rfl ((S.blk 0).all _ (Term.len _)) (Term.len _)) ?_
 obtain ⟨r3, er3, H⟩ := bind_ex H
 obtain ⟨B5, MB5, SB5, back⟩ := S.calln 0 ((.z 0 rfl .nil))
 refine wl_call (does_call ca_term_right) (by decide) (hrec_term_right (a0 := a0) SB5 er3) ?_
 rintro _ w4 ⟨rfl, S2⟩
 replace S : St A N w w4 [oB b2 T_Term (Term.C (⟨a0.kind, a0.name, a0.other, a0.form, s_0⟩ : Term))] [oDTerm s_0 a0.sub] := back _ _ _ _ S2 rfl
 clear back S2 SB5
 refine wd (does_not rfl) ?_
 refine wd (does_as_b rfl) ?_
 refine wl_nil ?_
 refine wc_ret ?_
 refine ⟨_, (rets1 (retOne_tmp rfl)), ?_⟩
 replace S : St A N w w4 [] [] := S.arr [] []
 obtain rfl := Option.some.inj H
 exact ⟨rfl, S⟩
theorem slices_IndexFunc_api_Term_api_Term__term_right_1_gst {rec_term_right : PTerm → Option Bool} (hrec_term_right : ∀ {A : Nat → Prop} {N : Oth} {w : World} {a0 : PTerm} {s_0 : SlV} (S : St A N w w [] [oDTerm s_0 a0.sub]) {r : Bool} (H : rec_term_right a0 = some r), Calls PP F_term_right #[.agg (Term.C (⟨a0.kind, a0.name, a0.other, a0.form, s_0⟩ : Term)).toArray] w fun e w' => ∃ v, e = .returned v ∧ (v = .bool r ∧ St A N w w' [] [])) {A : Nat → Prop} {N : Oth} {w : World} {a0 : List PTerm} {s_0 : SlV} (S : St A N w w [] [oDTerm s_0 a0]) {r : Int} (H : slices_IndexFunc_api_Term_api_Term__term_right_1.g rec_term_right a0 = some r) :
  Calls PP F_slices_IndexFunc_api_Term_api_Term #[s_0.v, .func (.func F_term_right_1) #[] #[]] w fun e w' => ∃ v, e = .returned v ∧ (v = .int .i64 r ∧ St A N w w' [] []) := by
 unfold slices_IndexFunc_api_Term_api_Term__term_right_1.g at H
 refine calls_of_wc (n := 19) fn_slices_IndexFunc_api_Term_api_Term rfl rfl (by simp) ?_
 refine wc_seq (wc_region ?_)
 refine wd (does_as_i rfl) ?_
 refine wl_nil ?_
 refine wc_seq (wc_seq (wc_region ?_))
 refine wd (does_mv_l rfl) ?_
 refine wd (does_lenF sl_L_api_Term rfl (S.onZ 0)) ?_
 refine wd (does_mv_i rfl) ?_
 refine wl_nil ?_
 obtain ⟨o1, e1, Ho1⟩ := bind_ex H
 clear H
 refine wc_cutq [4, 5, 8, 9, 10, 11, 12, 13, 14, 15, 16, 17, 18] (fun fr W => ∃ s1 : Unit, o1 = .inl s1 ∧ St A N w W [] [oDTerm s_0 a0]) ?_ ?_
 ·refine wc_block ?_
  refine wc_loopm (α := Nat × Int × Unit) [4, 5, 8, 9, 10, 11, 12, 13, 14, 15, 16, 17, 18] (fun x fr W => (x.1 : Int) = (a0.length : Int) - x.2.1 ∧ 0 ≤ x.2.1 ∧ forN (fun i s => slices_IndexFunc_api_Term_api_Term__term_right_1.b0 rec_term_right a0 i) x.1 x.2.1 x.2.2 = some o1 ∧ fr 8 = .int .i64 x.2.1 ∧ St A N w W [] [oDTerm s_0 a0]) (fun x => x.1) (((a0.length : Int) - 0).toNat, 0, ()) ⟨(by dsimp only; have hle := Int.natCast_nonneg (a0.length); omega), (Int.le_refl _), (by dsimp only; exact e1), rfl, S⟩ ?_
  rintro ⟨m1, i1, _⟩ g1 u1 ⟨hm1, hl1, e1, q1_i, S⟩
  try dsimp only at hm1
  try dsimp only at hl1
  try dsimp only at e1
  try dsimp only at S
  try dsimp only at q1_i
  refine wc_seq (wc_region ?_)
  refine wd (does_lt q1_i rfl) ?_
  refine wl_nil ?_
  refine wc_seq ?_
  refine wc_if rfl (fun hc2 => ?_) (fun hc2 => ?_)
  rotate_left
  ·refine wc_exit ?_
   have hge : (a0.length : Int) ≤ i1 := Int.not_lt.1 (of_decide_eq_false hc2)
   obtain rfl : m1 = 0 := by omega
   replace e1 := forN_0 e1
   exact ⟨rfl, ((Dif.self _ _ _).upd rfl _), (), e1, S⟩
  refine wc_skip ?_
  have hlt1 : i1 < (a0.length : Int) := of_decide_eq_true hc2
  obtain ⟨m1, rfl⟩ : ∃ m, m1 = m + 1 := ⟨m1 - 1, by omega⟩
  obtain ⟨q1, H, e1⟩ := forN_s e1
  unfold slices_IndexFunc_api_Term_api_Term__term_right_1.b0 at H
  try dsimp only at H
  have hb1 := (S.lenFZ 0)
  refine wc_seq ?_
  refine wc_block ?_
  refine wc_seq (wc_region ?_)
  refine wd (does_mv_i q1_i) ?_
  refine wd (does_as_i rfl) ?_
  refine wl_nil ?_
  refine wc_seq (wc_region ?_)
  refine wd (does_mv_f rfl) ?_
  refine wd (does_mv_l rfl) ?_
  refine wd (does_mv_i rfl) ?_
  refine wd (does_indexF sl_L_api_Term rfl rfl (S.onZ 0) (And.intro (show 0 ≤ i1 by omega) (show i1 < (a0.length : Int) from hlt1)).1 (And.intro (show 0 ≤ i1 by omega) (show i1 < (a0.length : Int) from hlt1)).2) ?_
  obtain ⟨s4, hc5, S⟩ := S.viewTerm 0 (And.intro (show 0 ≤ i1 by omega) (show i1 < (a0.length : Int) from hlt1))
  replace S : St A N w u1 [] [oDTerm s4 ((at_ PTerm.z a0 i1).sub), oDTerm s_0 a0] := S
  refine wd (does_load_agg ag_Term rfl hc5 (Term.len _)) ?_
  obtain ⟨r6, er6, H⟩ := bind_ex H
  obtain ⟨B8, MB8, SB8, back⟩ := S.calln 0 ((.z 0 rfl .nil))
  refine wl_call (does_callv ca_term_right_1 rfl) (by decide) (term_right_1_gst hrec_term_right (a0 := (at_ PTerm.z a0 i1)) SB8 er6) ?_
  rintro _ w7 ⟨rfl, S2⟩
  replace S : St A N w w7 [] [oDTerm s4 ((at_ PTerm.z a0 i1).sub), oDTerm s_0 a0] := back _ _ _ _ S2 rfl
  clear back S2 SB8
  refine wl_nil ?_
  refine wc_if rfl (fun hc9 => ?_) (fun hc9 => ?_)
  ·replace H := if_t hc9 H
   refine wc_seq (wc_region ?_)
   refine wd (does_mv_i rfl) ?_
   refine wd (does_as_i rfl) ?_
   refine wl_nil ?_
   refine wc_ret ?_
   refine ⟨_, (rets1 (retOne_tmp rfl)), ?_⟩
   replace S : St A N w w7 [] [] := S.arr [] []
   obtain rfl := Option.some.inj H
   obtain rfl := e1
   obtain rfl := aft_r Ho1
   exact ⟨rfl, S⟩
  replace H := if_f hc9 H
  refine wc_skip ?_
  refine wc_region ?_
  refine wd (does_addc q1_i rfl (c := i1 + 1) rfl (by omega) (by omega)) ?_
  refine wd (does_mv_i rfl) ?_
  refine wl_nil ?_
  replace S : St A N w w7 [] [oDTerm s_0 a0] := S.arr [] [1]
  obtain rfl := Option.some.inj H
  exact ⟨rfl, ((((((((((((Dif.self _ _ _).upd rfl _).upd rfl _).upd rfl _).upd rfl _).upd rfl _).upd rfl _).upd rfl _).upd rfl _).upd rfl _).upd rfl _).upd rfl _), (m1, i1 + 1, ()), ⟨(by dsimp only; omega), (by dsimp only; omega), e1, rfl, S⟩, by dsimp only; omega⟩
 rintro g10 u11 ⟨s1, rfl, S⟩
 have H := Ho1
 dsimp only [aft] at H
 refine wc_seq (wc_region ?_)
 refine wd (does_as_i rfl) ?_
 refine wl_nil ?_
 refine wc_ret ?_
 refine ⟨_, (rets1 (retOne_tmp rfl)), ?_⟩
 replace S : St A N w u11 [] [] := S.arr [] []
 obtain rfl := Option.some.inj H
 exact ⟨rfl, S⟩
theorem slices_ContainsFunc_api_Term_api_Term__term_right_1_gst {rec_term_right : PTerm → Option Bool} (hrec_term_right : ∀ {A : Nat → Prop} {N : Oth} {w : World} {a0 : PTerm} {s_0 : SlV} (S : St A N w w [] [oDTerm s_0 a0.sub]) {r : Bool} (H : rec_term_right a0 = some r), Calls PP F_term_right #[.agg (Term.C (⟨a0.kind, a0.name, a0.other, a0.form, s_0⟩ : Term)).toArray] w fun e w' => ∃ v, e = .returned v ∧ (v = .bool r ∧ St A N w w' [] [])) {A : Nat → Prop} {N : Oth} {w : World} {a0 : List PTerm} {s_0 : SlV} (S : St A N w w [] [oDTerm s_0 a0]) {r : Bool} (H : slices_ContainsFunc_api_Term_api_Term__term_right_1.g rec_term_right a0 = some r) :
  Calls PP F_slices_ContainsFunc_api_Term_api_Term #[s_0.v, .func (.func F_term_right_1) #[] #[]] w fun e w' => ∃ v, e = .returned v ∧ (v = .bool r ∧ St A N w w' [] []) := by
 unfold slices_ContainsFunc_api_Term_api_Term__term_right_1.g at H
 refine calls_of_wc (n := 9) fn_slices_ContainsFunc_api_Term_api_Term rfl rfl (by simp) ?_
 refine wc_seq (wc_region ?_)
 refine wd (does_as_b rfl) ?_
 refine wl_nil ?_
 refine wc_seq (wc_region ?_)
 refine wd (does_mv_l rfl) ?_
 refine wd (does_mv_f rfl) ?_
 obtain ⟨r1, er1, H⟩ := bind_ex H
 obtain ⟨B3, MB3, SB3, back⟩ := S.calln 0 ((.z 0 rfl .nil))
 refine wl_call (does_call ca_slices_IndexFunc_api_Term_api_Term) (by decide) (slices_IndexFunc_api_Term_api_Term__term_right_1_gst hrec_term_right SB3 er1) ?_
 rintro _ w2 ⟨rfl, S2⟩
 replace S : St A N w w2 [] [oDTerm s_0 a0] := back _ _ _ _ S2 rfl
 clear back S2 SB3
 refine wd (does_ge rfl rfl) ?_
 refine wd (does_as_b rfl) ?_
 refine wl_nil ?_
 refine wc_ret ?_
 refine ⟨_, (rets1 (retOne_tmp rfl)), ?_⟩
 replace S : St A N w w2 [] [] := S.arr [] []
 obtain rfl := Option.some.inj H
 exact ⟨rfl, S⟩
theorem term_right_gst {rec_term_right : PTerm → Option Bool} (hrec_term_right : ∀ {A : Nat → Prop} {N : Oth} {w : World} {a0 : PTerm} {s_0 : SlV} (S : St A N w w [] [oDTerm s_0 a0.sub]) {r : Bool} (H : rec_term_right a0 = some r), Calls PP F_term_right #[.agg (Term.C (⟨a0.kind, a0.name, a0.other, a0.form, s_0⟩ : Term)).toArray] w fun e w' => ∃ v, e = .returned v ∧ (v = .bool r ∧ St A N w w' [] [])) {A : Nat → Prop} {N : Oth} {w : World} {a0 : PTerm} {s_0 : SlV} (S : St A N w w [] [oDTerm s_0 a0.sub]) {r : Bool} (H : term_right.g rec_term_right a0 = some r) :
  Calls PP F_term_right #[.agg (Term.C (⟨a0.kind, a0.name, a0.other, a0.form, s_0⟩ : Term)).toArray] w fun e w' => ∃ v, e = .returned v ∧ (v = .bool r ∧ St A N w w' [] []) := by
 unfold term_right.g at H
 refine calls_of_wc (n := 60) fn_term_right rfl rfl (by simp) ?_
 refine wc_seq (wc_region ?_)
 refine wl_box_agg rfl (by decide) fun b2 w1 hw1 => ?_
 replace S : St A N w w1 [oB b2 T_Term (Term.C (⟨a0.kind, a0.name, a0.other, a0.form, s_0⟩ : Term))] [oDTerm s_0 a0.sub] := S.new hw1
 refine wd (does_as_b rfl) ?_
 refine wl_nil ?_
 refine wc_seq (wc_region ?_)
 refine wd (does_fieldAddr fl_Term_kind rfl (o' := 0) rfl) ?_
 refine wd (does_load on_api_TermKind rfl ((S.blk 0).cell (Term.get_kind _))) ?_
 obtain ⟨r3, er3, H⟩ := bind_ex H
 obtain ⟨B5, MB5, SB5, back⟩ := S.calln 0 ((.nil))
 refine wl_call (does_call ca_term_shape) (by decide) (term_shape_st SB5 er3) ?_
 rintro _ w4 ⟨rfl, S2⟩
 replace S : St A N w w4 [oB b2 T_Term (Term.C (⟨a0.kind, a0.name, a0.other, a0.form, s_0⟩ : Term))] [oDTerm s_0 a0.sub] := back _ _ _ _ S2 rfl
 clear back S2 SB5
 refine wd (does_mv_t rfl) ?_
 refine wd (does_extract rfl rfl) ?_
 refine wd (does_extract rfl rfl) ?_
 refine wd (does_extract rfl rfl) ?_
 refine wd (does_extract rfl rfl) ?_
 refine wd (does_as_i rfl) ?_
 refine wd (does_as_b rfl) ?_
 refine wd (does_as_b rfl) ?_
 refine wd (does_as_b rfl) ?_
 refine wl_nil ?_
 refine wc_seq (wc_seq (wc_region ?_))
 refine wd (does_mv_b rfl) ?_
 refine wd (does_not rfl) ?_
 refine wd (does_mv_b rfl) ?_
 refine wl_guard (j := 2) (pol := false) rfl rfl rfl (by decide) (fun hg => does_fieldAddr fl_Term_sub rfl (o' := 4) rfl) (by decide) ?_
 refine wl_guard (j := 2) (pol := false) rfl rfl rfl (by decide) (fun hg => does_load on_L_api_Term (gv_yes hg) ((S.blk 0).cell (Term.get_sub _))) (by decide) ?_
 refine wl_guard (j := 2) (pol := false) rfl rfl rfl (by decide) (fun hg => does_lenF sl_L_api_Term (gv_yes hg) (S.onZ 0)) (by decide) ?_
 refine wl_guard (j := 2) (pol := false) rfl rfl rfl (by decide) (fun hg => does_mv_i rfl) (by decide) ?_
 refine wl_guard (j := 2) (pol := false) rfl rfl rfl (by decide) (fun hg => does_ne (gv_yes hg) (gv_yes hg)) (by decide) ?_
 refine wd (does_or rfl (fun hp => (gv_yes (and_1 hp)))) ?_
 refine wd (does_mv_b rfl) ?_
 refine wl_guard (j := 9) (pol := false) rfl rfl rfl (by decide) (fun hg => does_fieldAddr fl_Term_name rfl (o' := 1) rfl) (by decide) ?_
 refine wl_guard (j := 9) (pol := false) rfl rfl rfl (by decide) (fun hg => does_load on_string (gv_yes hg) ((S.blk 0).cell (Term.get_name _))) (by decide) ?_
 refine wl_guard (j := 9) (pol := false) rfl rfl rfl (by decide) (fun hg => does_mv_b rfl) (by decide) ?_
 obtain ⟨r6, er6, H⟩ := bind_ex H
 refine wl_gcall (j := 9) (pol := false) rfl rfl rfl (by decide) (fun hg => does_callg ca_term_named (cons2 (gv_yes hg) (cons2 (gv_yes hg) rfl))) (by decide) (fun hg => (have ⟨M, SS⟩ := S.lend ((.nil)); quiet (term_named_st SS (if_t (by simpa using hg) er6)) (fun v w' h => ⟨h.1, _, _, h.2⟩))) fun w7 hw7 => ?_
 replace S := S.ext hw7
 refine wl_guard (j := 9) (pol := false) rfl rfl rfl (by decide) (fun hg => does_not (gv_yes hg)) (by decide) ?_
 refine wd (does_or rfl (fun hp => (gv_yes (and_1 hp)))) ?_
 refine wd (does_mv_b rfl) ?_
 refine wl_guard (j := 16) (pol := false) rfl rfl rfl (by decide) (fun hg => does_fieldAddr fl_Term_other rfl (o' := 2) rfl) (by decide) ?_
 refine wl_guard (j := 16) (pol := false) rfl rfl rfl (by decide) (fun hg => does_load on_string (gv_yes hg) ((S.blk 0).cell (Term.get_other _))) (by decide) ?_
 refine wl_guard (j := 16) (pol := false) rfl rfl rfl (by decide) (fun hg => does_mv_b rfl) (by decide) ?_
 obtain ⟨r8, er8, H⟩ := bind_ex H
 refine wl_gcall (j := 16) (pol := false) rfl rfl rfl (by decide) (fun hg => does_callg ca_term_named (cons2 (gv_yes hg) (cons2 (gv_yes hg) rfl))) (by decide) (fun hg => (have ⟨M, SS⟩ := S.lend ((.nil)); quiet (term_named_st SS (if_t (by simpa using hg) er8)) (fun v w' h => ⟨h.1, _, _, h.2⟩))) fun w9 hw9 => ?_
 replace S := S.ext hw9
 refine wl_guard (j := 16) (pol := false) rfl rfl rfl (by decide) (fun hg => does_not (gv_yes hg)) (by decide) ?_
 refine wd (does_or rfl (fun hp => (gv_yes (and_1 hp)))) ?_
 refine wl_nil ?_
 refine wc_if rfl (fun hc10 => ?_) (fun hc10 => ?_)
 ·replace H := if_t hc10 H
  refine wc_seq (wc_region ?_)
  refine wd (does_as_b rfl) ?_
  refine wl_nil ?_
  refine wc_ret ?_
  refine ⟨_, (rets1 (retOne_tmp rfl)), ?_⟩
  replace S : St A N w w9 [] [] := S.arr [] []
  obtain rfl := Option.some.inj H
  exact ⟨rfl, S⟩
 replace H := if_f hc10 H
 refine wc_skip ?_
 refine wc_seq (wc_seq (wc_region ?_))
 refine wd (does_fieldAddr fl_Term_kind rfl (o' := 0) rfl) ?_
 refine wd (does_load on_api_TermKind rfl ((S.blk 0).cell (Term.get_kind _))) ?_
 refine wd (does_ne rfl rfl) ?_
 refine wd (does_mv_b rfl) ?_
 refine wl_guard (j := 3) (pol := true) rfl rfl rfl (by decide) (fun hg => does_fieldAddr fl_Term_form rfl (o' := 3) rfl) (by decide) ?_
 refine wl_guard (j := 3) (pol := true) rfl rfl rfl (by decide) (fun hg => does_load on_int (gv_yes hg) ((S.blk 0).cell (Term.get_form _))) (by decide) ?_
 refine wl_guard (j := 3) (pol := true) rfl rfl rfl (by decide) (fun hg => does_ne (gv_yes hg) rfl) (by decide) ?_
 refine wd (does_and rfl (fun hp => (gv_yes (and_1 hp)))) ?_
 refine wd (does_mv_b rfl) ?_
 refine wl_guard (j := 8) (pol := false) rfl rfl rfl (by decide) (fun hg => does_fieldAddr fl_Term_form rfl (o' := 3) rfl) (by decide) ?_
 refine wl_guard (j := 8) (pol := false) rfl rfl rfl (by decide) (fun hg => does_load on_int (gv_yes hg) ((S.blk 0).cell (Term.get_form _))) (by decide) ?_
 refine wl_guard (j := 8) (pol := false) rfl rfl rfl (by decide) (fun hg => does_lt (gv_yes hg) rfl) (by decide) ?_
 refine wd (does_or rfl (fun hp => (gv_yes (and_1 hp)))) ?_
 refine wd (does_mv_b rfl) ?_
 refine wl_guard (j := 13) (pol := false) rfl rfl rfl (by decide) (fun hg => does_fieldAddr fl_Term_form rfl (o' := 3) rfl) (by decide) ?_
 refine wl_guard (j := 13) (pol := false) rfl rfl rfl (by decide) (fun hg => does_load on_int (gv_yes hg) ((S.blk 0).cell (Term.get_form _))) (by decide) ?_
 refine wl_guard (j := 13) (pol := false) rfl rfl rfl (by decide) (fun hg => does_ge (gv_yes hg) rfl) (by decide) ?_
 refine wd (does_or rfl (fun hp => (gv_yes (and_1 hp)))) ?_
 refine wl_nil ?_
 refine wc_if rfl (fun hc11 => ?_) (fun hc11 => ?_)
 ·replace H := if_t hc11 H
  refine wc_seq (wc_region ?_)
  refine wd (does_as_b rfl) ?_
  refine wl_nil ?_
  refine wc_ret ?_
  refine ⟨_, (rets1 (retOne_tmp rfl)), ?_⟩
  replace S : St A N w w9 [] [] := S.arr [] []
  obtain rfl := Option.some.inj H
  exact ⟨rfl, S⟩
 replace H := if_f hc11 H
 refine wc_skip ?_
 refine wc_seq (wc_region ?_)
 refine wd (does_fieldAddr fl_Term_sub rfl (o' := 4) rfl) ?_
 refine wd (does_load on_L_api_Term rfl ((S.blk 0).cell (Term.get_sub _))) ?_
 obtain ⟨r12, er12, H⟩ := bind_ex H
 obtain ⟨B14, MB14, SB14, back⟩ := S.calln 0 ((.z 0 rfl .nil))
 refine wl_call (does_call ca_slices_ContainsFunc_api_Term_api_Term) (by decide) (slices_ContainsFunc_api_Term_api_Term__term_right_1_gst hrec_term_right SB14 er12) ?_
 rintro _ w13 ⟨rfl, S2⟩
 replace S : St A N w w13 [oB b2 T_Term (Term.C (⟨a0.kind, a0.name, a0.other, a0.form, s_0⟩ : Term))] [oDTerm s_0 a0.sub] := back _ _ _ _ S2 rfl
 clear back S2 SB14
 refine wd (does_not rfl) ?_
 refine wd (does_as_b rfl) ?_
 refine wl_nil ?_
 refine wc_ret ?_
 refine ⟨_, (rets1 (retOne_tmp rfl)), ?_⟩
 replace S : St A N w w13 [] [] := S.arr [] []
 obtain rfl := Option.some.inj H
 exact ⟨rfl, S⟩
theorem term_right_st {A : Nat → Prop} {N : Oth} {w : World} {a0 : PTerm} {s_0 : SlV} (S : St A N w w [] [oDTerm s_0 a0.sub]) {k : Nat} {r : Bool} (H : term_right.f k a0 = some r) :
  Calls PP F_term_right #[.agg (Term.C (⟨a0.kind, a0.name, a0.other, a0.form, s_0⟩ : Term)).toArray] w fun e w' => ∃ v, e = .returned v ∧ (v = .bool r ∧ St A N w w' [] []) := by
 have main : ∀ (k : Nat) {A : Nat → Prop} {N : Oth} {w : World} {a0 : PTerm} {s_0 : SlV} (S : St A N w w [] [oDTerm s_0 a0.sub]) {r : Bool} (H : term_right.f k a0 = some r), Calls PP F_term_right #[.agg (Term.C (⟨a0.kind, a0.name, a0.other, a0.form, s_0⟩ : Term)).toArray] w fun e w' => ∃ v, e = .returned v ∧ (v = .bool r ∧ St A N w w' [] []) := by
  intro k
  induction k with
  | zero => intro A N w a0 s_0 S r H; cases H
  | succ k ih => intro A N w a0 s_0 S r H; exact term_right_gst ih S H
 exact main k S H
theorem term_Check_st {A : Nat → Prop} {N : Oth} {w : World} {a0 : PTerm} {s_0 : SlV} (S : St A N w w [] [oDTerm s_0 a0.sub]) {k : Nat} {r : Int} (H : term_Check.f k a0 = some r) :
  Calls PP F_term_Check #[.agg (Term.C (⟨a0.kind, a0.name, a0.other, a0.form, s_0⟩ : Term)).toArray] w fun e w' => ∃ v, e = .returned v ∧ (v = .int .i64 r ∧ St A N w w' [] []) := by
 unfold term_Check.f at H
 refine calls_of_wc (n := 16) fn_term_Check rfl rfl (by simp) ?_
 refine wc_seq (wc_region ?_)
 refine wl_box_agg rfl (by decide) fun b2 w1 hw1 => ?_
 replace S : St A N w w1 [oB b2 T_Term (Term.C (⟨a0.kind, a0.name, a0.other, a0.form, s_0⟩ : Term))] [oDTerm s_0 a0.sub] := S.new hw1
 refine wd (does_as_i rfl) ?_
 refine wl_nil ?_
 refine wc_seq ?_
 refine wc_block ?_
 refine wc_seq (wc_region ?_)
 refine wd (does_load_agg ag_Term rfl ((S.blk 0).all _ (Term.len _)) (Term.len _)) ?_
 obtain ⟨r3, er3, H⟩ := bind_ex H
 obtain ⟨B5, MB5, SB5, back⟩ := S.calln 0 ((.z 0 rfl .nil))
 refine wl_call (does_call ca_term_Size) (by decide) (term_Size_st (a0 := a0) SB5 er3) ?_
 rintro _ w4 ⟨rfl, S2⟩
 replace S : St A N w w4 [oB b2 T_Term (Term.C (⟨a0.kind, a0.name, a0.other, a0.form, s_0⟩ : Term))] [oDTerm s_0 a0.sub] := back _ _ _ _ S2 rfl
 clear back S2 SB5
 refine wd (does_gt rfl rfl) ?_
 refine wd (does_mv_b rfl) ?_
 refine wl_guard (j := 3) (pol := false) rfl rfl rfl (by decide) (fun hg => does_load_agg ag_Term rfl ((S.blk 0).all _ (Term.len _)) (Term.len _)) (by decide) ?_
 obtain ⟨r6, er6, H⟩ := bind_ex H
 refine wl_gcall (j := 3) (pol := false) rfl rfl rfl (by decide) (fun hg => does_callg ca_term_Deep (cons2 (gv_yes hg) rfl)) (by decide) (fun hg => (have ⟨M, SS⟩ := S.lend ((.z 0 rfl .nil)); quiet (term_Deep_st (a0 := a0) SS (if_t (by simpa using hg) er6)) (fun v w' h => ⟨h.1, _, _, h.2⟩))) fun w7 hw7 => ?_
 replace S := S.ext hw7
 refine wl_guard (j := 3) (pol := false) rfl rfl rfl (by decide) (fun hg => does_gt (gv_yes hg) rfl) (by decide) ?_
 refine wd (does_or rfl (fun hp => (gv_yes (and_1 hp)))) ?_
 refine wd (does_as_b rfl) ?_
 refine wl_nil ?_
 refine wc_if rfl (fun hc8 => ?_) (fun hc8 => ?_)
 ·replace H := if_t hc8 H
  refine wc_seq (wc_region ?_)
  refine wd (does_as_i rfl) ?_
  refine wl_nil ?_
  refine wc_ret ?_
  refine ⟨_, (rets1 (retOne_tmp rfl)), ?_⟩
  replace S : St A N w w7 [] [] := S.arr [] []
  obtain rfl := Option.some.inj H
  exact ⟨rfl, S⟩
 replace H := if_f hc8 H
 refine wc_seq (wc_region ?_)
 refine wd (does_load_agg ag_Term rfl ((S.blk 0).all _ (Term.len _)) (Term.len _)) ?_
 obtain ⟨r9, er9, H⟩ := bind_ex H
 obtain ⟨B11, MB11, SB11, back⟩ := S.calln 0 ((.z 0 rfl .nil))
 refine wl_call (does_call ca_term_right) (by decide) (term_right_st (a0 := a0) SB11 er9) ?_
 rintro _ w10 ⟨rfl, S2⟩
 replace S : St A N w w10 [oB b2 T_Term (Term.C (⟨a0.kind, a0.name, a0.other, a0.form, s_0⟩ : Term))] [oDTerm s_0 a0.sub] := back _ _ _ _ S2 rfl
 clear back S2 SB11
 refine wd (does_not rfl) ?_
 refine wd (does_as_b rfl) ?_
 refine wl_nil ?_
 refine wc_if rfl (fun hc12 => ?_) (fun hc12 => ?_)
 ·replace H := if_t hc12 H
  refine wc_seq (wc_region ?_)
  refine wd (does_as_i rfl) ?_
  refine wl_nil ?_
  refine wc_ret ?_
  refine ⟨_, (rets1 (retOne_tmp rfl)), ?_⟩
  replace S : St A N w w10 [] [] := S.arr [] []
  obtain rfl := Option.some.inj H
  exact ⟨rfl, S⟩
 replace H := if_f hc12 H
 refine wc_skip ?_
 refine wc_seq (wc_region ?_)
 refine wd (does_as_i rfl) ?_
 refine wl_nil ?_
 refine wc_ret ?_
 refine ⟨_, (rets1 (retOne_tmp rfl)), ?_⟩
 replace S : St A N w w10 [] [] := S.arr [] []
 obtain rfl := Option.some.inj H
 exact ⟨rfl, S⟩
theorem ref12_right_gst {rec_ref12_right : PTerm → Option Bool} (hrec_ref12_right : ∀ {A : Nat → Prop} {N : Oth} {w : World} {a0 : PTerm} {s_0 : SlV} (S : St A N w w [] [oDTerm s_0 a0.sub]) {r : Bool} (H : rec_ref12_right a0 = some r), Calls PP F_ref12_right #[.agg (Term.C (⟨a0.kind, a0.name, a0.other, a0.form, s_0⟩ : Term)).toArray] w fun e w' => ∃ v, e = .returned v ∧ (v = .bool r ∧ St A N w w' [] [])) {A : Nat → Prop} {N : Oth} {w : World} {a0 : PTerm} {s_0 : SlV} (S : St A N w w [] [oDTerm s_0 a0.sub]) {k : Nat} {r : Bool} (H : ref12_right.g rec_ref12_right k a0 = some r) :
  Calls PP F_ref12_right #[.agg (Term.C (⟨a0.kind, a0.name, a0.other, a0.form, s_0⟩ : Term)).toArray] w fun e w' => ∃ v, e = .returned v ∧ (v = .bool r ∧ St A N w w' [] []) := by
 unfold ref12_right.g at H
 refine calls_of_wc (n := 102) fn_ref12_right rfl rfl (by simp) ?_
 refine wc_seq (wc_region ?_)
 refine wl_box_agg rfl (by decide) fun b2 w1 hw1 => ?_
 replace S : St A N w w1 [oB b2 T_Term (Term.C (⟨a0.kind, a0.name, a0.other, a0.form, s_0⟩ : Term))] [oDTerm s_0 a0.sub] := S.new hw1
 refine wd (does_as_b rfl) ?_
 refine wl_nil ?_
 refine wc_seq ?_
 refine wc_seq ?_
 refine wc_quiet 6 (Ext w1) hmix (by kernel_rfl) (by kernel_rfl) (Ext.drawn _) ?_
 refine wq_does (fun v K => does_fieldAddr fl_Term_kind rfl (o' := 0) rfl) ?_
 refine wq_does (fun v K => does_load on_api_TermKind rfl (((S.ext K).blk 0).cell (Term.get_kind _))) ?_
 obtain ⟨r3, er3, H⟩ := bind_ex H
 refine wq_call (fun v => does_call ca_ref12_parts) (fun v K => (have ⟨M, SS⟩ := (S.ext K).lend ((.nil)); quiet (ref12_parts_st SS er3) (fun v w' h => ⟨h.1, _, _, h.2⟩))) (fun v v' K h => K.thenExt h) ?_
 refine wq_does (fun v K => does_fieldAddr fl_Term_sub rfl (o' := 4) rfl) ?_
 refine wq_does (fun v K => does_load on_L_api_Term rfl (((S.ext K).blk 0).cell (Term.get_sub _))) ?_
 refine wq_does (fun v K => does_lenF sl_L_api_Term rfl ((S.ext K).onZ 0)) ?_
 refine wq_nil fun w4 K => ?_
 replace S := S.ext K
 clear K
 refine wd (does_ne rfl rfl) ?_
 refine wl_nil ?_
 refine wc_if rfl (fun hc5 => ?_) (fun hc5 => ?_)
 ·replace H := if_t hc5 H
  refine wc_seq (wc_region ?_)
  refine wd (does_as_b rfl) ?_
  refine wl_nil ?_
  refine wc_ret ?_
  refine ⟨_, (rets1 (retOne_tmp rfl)), ?_⟩
  replace S : St A N w w4 [] [] := S.arr [] []
  obtain rfl := Option.some.inj H
  exact ⟨rfl, S⟩
 replace H := if_f hc5 H
 refine wc_skip ?_
 refine wc_seq (wc_region ?_)
 refine wd (does_fieldAddr fl_Term_kind rfl (o' := 0) rfl) ?_
 refine wd (does_load on_api_TermKind rfl ((S.blk 0).cell (Term.get_kind _))) ?_
 refine wd (does_eq rfl rfl) ?_
 refine wd (does_mv_b rfl) ?_
 refine wl_guard (j := 3) (pol := false) rfl rfl rfl (by decide) (fun hg => does_fieldAddr fl_Term_kind rfl (o' := 0) rfl) (by decide) ?_
 refine wl_guard (j := 3) (pol := false) rfl rfl rfl (by decide) (fun hg => does_load on_api_TermKind (gv_yes hg) ((S.blk 0).cell (Term.get_kind _))) (by decide) ?_
 refine wl_guard (j := 3) (pol := false) rfl rfl rfl (by decide) (fun hg => does_eq (gv_yes hg) rfl) (by decide) ?_
 refine wd (does_or rfl (fun hp => (gv_yes (and_1 hp)))) ?_
 refine wd (does_mv_b rfl) ?_
 refine wl_guard (j := 8) (pol := false) rfl rfl rfl (by decide) (fun hg => does_fieldAddr fl_Term_kind rfl (o' := 0) rfl) (by decide) ?_
 refine wl_guard (j := 8) (pol := false) rfl rfl rfl (by decide) (fun hg => does_load on_api_TermKind (gv_yes hg) ((S.blk 0).cell (Term.get_kind _))) (by decide) ?_
 refine wl_guard (j := 8) (pol := false) rfl rfl rfl (by decide) (fun hg => does_eq (gv_yes hg) rfl) (by decide) ?_
 refine wd (does_or rfl (fun hp => (gv_yes (and_1 hp)))) ?_
 refine wd (does_mv_b rfl) ?_
 refine wl_guard (j := 13) (pol := false) rfl rfl rfl (by decide) (fun hg => does_fieldAddr fl_Term_kind rfl (o' := 0) rfl) (by decide) ?_
 refine wl_guard (j := 13) (pol := false) rfl rfl rfl (by decide) (fun hg => does_load on_api_TermKind (gv_yes hg) ((S.blk 0).cell (Term.get_kind _))) (by decide) ?_
 refine wl_guard (j := 13) (pol := false) rfl rfl rfl (by decide) (fun hg => does_eq (gv_yes hg) rfl) (by decide) ?_
 refine wd (does_or rfl (fun hp => (gv_yes (and_1 hp)))) ?_
 refine wd (does_as_b rfl) ?_
 refine wl_nil ?_
 refine wc_seq (wc_seq (wc_region ?_))
 refine wd (does_mv_b rfl) ?_
 refine wd (does_mv_b rfl) ?_
 refine wl_guard (j := 1) (pol := true) rfl rfl rfl (by decide) (fun hg => does_fieldAddr fl_Term_name rfl (o' := 1) rfl) (by decide) ?_
 refine wl_guard (j := 1) (pol := true) rfl rfl rfl (by decide) (fun hg => does_load on_string (gv_yes hg) ((S.blk 0).cell (Term.get_name _))) (by decide) ?_
 obtain ⟨r6, er6, H⟩ := bind_ex H
 refine wl_gcall (j := 1) (pol := true) rfl rfl rfl (by decide) (fun hg => does_callg ca_ref03_Word (cons2 (gv_yes hg) rfl)) (by decide) (fun hg => (have ⟨M, SS⟩ := S.lend ((.nil)); quiet (ref03_Word_st SS (if_t (by simpa using hg) er6)) (fun v w' h => ⟨h.1, _, _, h.2⟩))) fun w7 hw7 => ?_
 replace S := S.ext hw7
 refine wl_guard (j := 1) (pol := true) rfl rfl rfl (by decide) (fun hg => does_not (gv_yes hg)) (by decide) ?_
 refine wd (does_and rfl (fun hp => (gv_yes (and_1 hp)))) ?_
 refine wd (does_mv_b rfl) ?_
 refine wl_guard (j := 7) (pol := false) rfl rfl rfl (by decide) (fun hg => does_mv_b rfl) (by decide) ?_
 refine wl_guard (j := 7) (pol := false) rfl rfl rfl (by decide) (fun hg => does_not (gv_yes hg)) (by decide) ?_
 refine wl_guard (j := 7) (pol := false) rfl rfl rfl (by decide) (fun hg => does_mv_b (gv_yes hg)) (by decide) ?_
 refine wl_guard2 (j := 10) (pol := true) rfl rfl rfl (by decide) (fun hg => does_fieldAddr fl_Term_name rfl (o' := 1) rfl) (by decide) ?_
 refine wl_guard2 (j := 10) (pol := true) rfl rfl rfl (by decide) (fun hg => does_load on_string (gv_yes hg) ((S.blk 0).cell (Term.get_name _))) (by decide) ?_
 refine wl_guard2 (j := 10) (pol := true) rfl rfl rfl (by decide) (fun hg => does_nes (gv_yes hg) rfl) (by decide) ?_
 refine wl_guard (j := 7) (pol := false) rfl rfl rfl (by decide) (fun hg => does_and (gv_yes hg) (fun hp => (gv_yes (and_b hg hp)))) (by decide) ?_
 refine wd (does_or rfl (fun hp => (gv_yes (and_1 hp)))) ?_
 refine wl_nil ?_
 refine wc_if rfl (fun hc8 => ?_) (fun hc8 => ?_)
 ·replace H := if_t hc8 H
  refine wc_seq (wc_region ?_)
  refine wd (does_as_b rfl) ?_
  refine wl_nil ?_
  refine wc_ret ?_
  refine ⟨_, (rets1 (retOne_tmp rfl)), ?_⟩
  replace S : St A N w w7 [] [] := S.arr [] []
  obtain rfl := Option.some.inj H
  exact ⟨rfl, S⟩
 replace H := if_f hc8 H
 refine wc_skip ?_
 refine wc_seq (wc_seq (wc_region ?_))
 refine wd (does_fieldAddr fl_Term_kind rfl (o' := 0) rfl) ?_
 refine wd (does_load on_api_TermKind rfl ((S.blk 0).cell (Term.get_kind _))) ?_
 refine wd (does_eq rfl rfl) ?_
 refine wd (does_mv_b rfl) ?_
 refine wl_guard (j := 3) (pol := true) rfl rfl rfl (by decide) (fun hg => does_fieldAddr fl_Term_other rfl (o' := 2) rfl) (by decide) ?_
 refine wl_guard (j := 3) (pol := true) rfl rfl rfl (by decide) (fun hg => does_load on_string (gv_yes hg) ((S.blk 0).cell (Term.get_other _))) (by decide) ?_
 obtain ⟨r9, er9, H⟩ := bind_ex H
 refine wl_gcall (j := 3) (pol := true) rfl rfl rfl (by decide) (fun hg => does_callg ca_ref03_Word (cons2 (gv_yes hg) rfl)) (by decide) (fun hg => (have ⟨M, SS⟩ := S.lend ((.nil)); quiet (ref03_Word_st SS (if_t (by simpa using hg) er9)) (fun v w' h => ⟨h.1, _, _, h.2⟩))) fun w10 hw10 => ?_
 replace S := S.ext hw10
 refine wl_guard (j := 3) (pol := true) rfl rfl rfl (by decide) (fun hg => does_not (gv_yes hg)) (by decide) ?_
 refine wd (does_and rfl (fun hp => (gv_yes (and_1 hp)))) ?_
 refine wd (does_mv_b rfl) ?_
 refine wl_guard (j := 9) (pol := false) rfl rfl rfl (by decide) (fun hg => does_fieldAddr fl_Term_kind rfl (o' := 0) rfl) (by decide) ?_
 refine wl_guard (j := 9) (pol := false) rfl rfl rfl (by decide) (fun hg => does_load on_api_TermKind (gv_yes hg) ((S.blk 0).cell (Term.get_kind _))) (by decide) ?_
 refine wl_guard (j := 9) (pol := false) rfl rfl rfl (by decide) (fun hg => does_ne (gv_yes hg) rfl) (by decide) ?_
 refine wl_guard (j := 9) (pol := false) rfl rfl rfl (by decide) (fun hg => does_mv_b (gv_yes hg)) (by decide) ?_
 refine wl_guard2 (j := 13) (pol := true) rfl rfl rfl (by decide) (fun hg => does_fieldAddr fl_Term_other rfl (o' := 2) rfl) (by decide) ?_
 refine wl_guard2 (j := 13) (pol := true) rfl rfl rfl (by decide) (fun hg => does_load on_string (gv_yes hg) ((S.blk 0).cell (Term.get_other _))) (by decide) ?_
 refine wl_guard2 (j := 13) (pol := true) rfl rfl rfl (by decide) (fun hg => does_nes (gv_yes hg) rfl) (by decide) ?_
 refine wl_guard (j := 9) (pol := false) rfl rfl rfl (by decide) (fun hg => does_and (gv_yes hg) (fun hp => (gv_yes (and_b hg hp)))) (by decide) ?_
 refine wd (does_or rfl (fun hp => (gv_yes (and_1 hp)))) ?_
 refine wl_nil ?_
 refine wc_if rfl (fun hc11 => ?_) (fun hc11 => ?_)
 ·replace H := if_t hc11 H
  refine wc_seq (wc_region ?_)
  refine wd (does_as_b rfl) ?_
  refine wl_nil ?_
  refine wc_ret ?_
  refine ⟨_, (rets1 (retOne_tmp rfl)), ?_⟩
  replace S : St A N w w10 [] [] := S.arr [] []
  obtain rfl := Option.some.inj H
  exact ⟨rfl, S⟩
 replace H := if_f hc11 H
 refine wc_skip ?_
 refine wc_seq (wc_seq (wc_region ?_))
 refine wd (does_fieldAddr fl_Term_kind rfl (o' := 0) rfl) ?_
 refine wd (does_load on_api_TermKind rfl ((S.blk 0).cell (Term.get_kind _))) ?_
 refine wd (does_eq rfl rfl) ?_
 refine wd (does_mv_b rfl) ?_
 refine wl_guard (j := 3) (pol := true) rfl rfl rfl (by decide) (fun hg => does_fieldAddr fl_Term_form rfl (o' := 3) rfl) (by decide) ?_
 refine wl_guard (j := 3) (pol := true) rfl rfl rfl (by decide) (fun hg => does_load on_int (gv_yes hg) ((S.blk 0).cell (Term.get_form _))) (by decide) ?_
 refine wl_guard (j := 3) (pol := true) rfl rfl rfl (by decide) (fun hg => does_lt (gv_yes hg) rfl) (by decide) ?_
 refine wl_guard (j := 3) (pol := true) rfl rfl rfl (by decide) (fun hg => does_mv_b (gv_yes hg)) (by decide) ?_
 refine wl_guard2 (j := 7) (pol := false) rfl rfl rfl (by decide) (fun hg => does_fieldAddr fl_Term_form rfl (o' := 3) rfl) (by decide) ?_
 refine wl_guard2 (j := 7) (pol := false) rfl rfl rfl (by decide) (fun hg => does_load on_int (gv_yes hg) ((S.blk 0).cell (Term.get_form _))) (by decide) ?_
 refine wl_guard2 (j := 7) (pol := false) rfl rfl rfl (by decide) (fun hg => does_ge (gv_yes hg) rfl) (by decide) ?_
 refine wl_guard (j := 3) (pol := true) rfl rfl rfl (by decide) (fun hg => does_or (gv_yes hg) (fun hp => (gv_yes (and_b hg hp)))) (by decide) ?_
 refine wd (does_and rfl (fun hp => (gv_yes (and_1 hp)))) ?_
 refine wd (does_mv_b rfl) ?_
 refine wl_guard (j := 13) (pol := false) rfl rfl rfl (by decide) (fun hg => does_fieldAddr fl_Term_kind rfl (o' := 0) rfl) (by decide) ?_
 refine wl_guard (j := 13) (pol := false) rfl rfl rfl (by decide) (fun hg => does_load on_api_TermKind (gv_yes hg) ((S.blk 0).cell (Term.get_kind _))) (by decide) ?_
 refine wl_guard (j := 13) (pol := false) rfl rfl rfl (by decide) (fun hg => does_ne (gv_yes hg) rfl) (by decide) ?_
 refine wl_guard (j := 13) (pol := false) rfl rfl rfl (by decide) (fun hg => does_mv_b (gv_yes hg)) (by decide) ?_
 refine wl_guard2 (j := 17) (pol := true) rfl rfl rfl (by decide) (fun hg => does_fieldAddr fl_Term_form rfl (o' := 3) rfl) (by decide) ?_
 refine wl_guard2 (j := 17) (pol := true) rfl rfl rfl (by decide) (fun hg => does_load on_int (gv_yes hg) ((S.blk 0).cell (Term.get_form _))) (by decide) ?_
 refine wl_guard2 (j := 17) (pol := true) rfl rfl rfl (by decide) (fun hg => does_ne (gv_yes hg) rfl) (by decide) ?_
 refine wl_guard (j := 13) (pol := false) rfl rfl rfl (by decide) (fun hg => does_and (gv_yes hg) (fun hp => (gv_yes (and_b hg hp)))) (by decide) ?_
 refine wd (does_or rfl (fun hp => (gv_yes (and_1 hp)))) ?_
 refine wl_nil ?_
 refine wc_if rfl (fun hc12 => ?_) (fun hc12 => ?_)
 ·replace H := if_t hc12 H
  refine wc_seq (wc_region ?_)
  refine wd (does_as_b rfl) ?_
  refine wl_nil ?_
  refine wc_ret ?_
  refine ⟨_, (rets1 (retOne_tmp rfl)), ?_⟩
  replace S : St A N w w10 [] [] := S.arr [] []
  obtain rfl := Option.some.inj H
  exact ⟨rfl, S⟩
 replace H := if_f hc12 H
 refine wc_skip ?_
 refine wc_seq (wc_seq (wc_region ?_))
 refine wd (does_as_i rfl) ?_
 refine wl_nil ?_
 obtain ⟨o13, e13, Ho13⟩ := bind_ex H
 clear H
 refine wc_cutq [2, 4, 88, 89, 90, 91, 92, 93, 94, 95, 96, 97, 98, 99, 100, 101] (fun fr W => ∃ s13 : Int, o13 = .inl s13 ∧ fr 4 = .int .i64 s13 ∧ St A N w W [oB b2 T_Term (Term.C (⟨a0.kind, a0.name, a0.other, a0.form, s_0⟩ : Term))] [oDTerm s_0 a0.sub]) ?_ ?_
 ·refine wc_block ?_
  refine wc_loopm (α := Nat × Int) [2, 4, 88, 89, 90, 91, 92, 93, 94, 95, 96, 97, 98, 99, 100, 101] (fun x fr W => iter (fun s => ref12_right.b0 a0 rec_ref12_right s) x.1 x.2 = some o13 ∧ fr 4 = .int .i64 (x.2) ∧ St A N w W [oB b2 T_Term (Term.C (⟨a0.kind, a0.name, a0.other, a0.form, s_0⟩ : Term))] [oDTerm s_0 a0.sub]) (fun x => x.1) (k, 0) ⟨(by dsimp only; exact e13), rfl, S⟩ ?_
  rintro ⟨m13, x13_0⟩ g13 u13 ⟨e13, q13_4, S⟩
  try dsimp only at e13
  try dsimp only at S
  try dsimp only at q13_4
  obtain ⟨m13, rfl⟩ : ∃ m, m13 = m + 1 := ⟨m13 - 1, by cases m13 with | zero => cases e13 | succ m => rfl⟩
  obtain ⟨q13, H, e13⟩ := iter_s e13
  unfold ref12_right.b0 at H
  try dsimp only at H
  refine wc_seq (wc_seq (wc_region ?_))
  refine wd (does_mv_i q13_4) ?_
  refine wd (does_fieldAddr fl_Term_sub rfl (o' := 4) rfl) ?_
  refine wd (does_load on_L_api_Term rfl ((S.blk 0).cell (Term.get_sub _))) ?_
  refine wd (does_lenF sl_L_api_Term rfl (S.onZ 0)) ?_
  refine wd (does_lt rfl rfl) ?_
  refine wl_nil ?_
  refine wc_if rfl (fun hc14 => ?_) (fun hc14 => ?_)
  rotate_left
  ·replace H := if_f hc14 H
   refine wc_exit ?_
   obtain rfl := Option.some.inj H
   exact ⟨rfl, ((((((Dif.self _ _ _).upd rfl _).upd rfl _).upd rfl _).upd rfl _).upd rfl _), x13_0, e13, q13_4, S⟩
  replace H := if_t hc14 H
  refine wc_skip ?_
  refine wc_seq ?_
  refine wc_block ?_
  refine wc_seq (wc_region ?_)
  refine wd (does_fieldAddr fl_Term_sub rfl (o' := 4) rfl) ?_
  refine wd (does_load on_L_api_Term rfl ((S.blk 0).cell (Term.get_sub _))) ?_
  refine wd (does_mv_i q13_4) ?_
  obtain ⟨hi15, H⟩ := chk_ex H
  refine wd (does_indexF sl_L_api_Term rfl rfl (S.onZ 0) (inb_ex hi15).1 (inb_ex hi15).2) ?_
  obtain ⟨s16, hc17, S⟩ := S.viewTerm 0 (inb_ex hi15)
  replace S : St A N w u13 [oB b2 T_Term (Term.C (⟨a0.kind, a0.name, a0.other, a0.form, s_0⟩ : Term))] [oDTerm s16 ((at_ PTerm.z a0.sub x13_0).sub), oDTerm s_0 a0.sub] := S
  refine wd (does_load_agg ag_Term rfl hc17 (Term.len _)) ?_
  obtain ⟨r18, er18, H⟩ := bind_ex H
  obtain ⟨B20, MB20, SB20, back⟩ := S.calln 0 ((.z 0 rfl .nil))
  refine wl_call (does_call ca_ref12_right) (by decide) (hrec_ref12_right (a0 := (at_ PTerm.z a0.sub x13_0)) SB20 er18) ?_
  rintro _ w19 ⟨rfl, S2⟩
  replace S : St A N w w19 [oB b2 T_Term (Term.C (⟨a0.kind, a0.name, a0.other, a0.form, s_0⟩ : Term))] [oDTerm s16 ((at_ PTerm.z a0.sub x13_0).sub), oDTerm s_0 a0.sub] := back _ _ _ _ S2 rfl
  clear back S2 SB20
  refine wd (does_not rfl) ?_
  refine wl_nil ?_
  refine wc_if rfl (fun hc21 => ?_) (fun hc21 => ?_)
  ·replace H := if_t hc21 H
   refine wc_seq (wc_region ?_)
   refine wd (does_as_b rfl) ?_
   refine wl_nil ?_
   refine wc_ret ?_
   refine ⟨_, (rets1 (retOne_tmp rfl)), ?_⟩
   replace S : St A N w w19 [] [] := S.arr [] []
   obtain rfl := Option.some.inj H
   obtain rfl := e13
   obtain rfl := aft_r Ho13
   exact ⟨rfl, S⟩
  replace H := if_f hc21 H
  refine wc_skip ?_
  refine wc_region ?_
  refine wd (does_mv_i q13_4) ?_
  refine wd (does_add rfl rfl) ?_
  refine wd (does_as_i rfl) ?_
  refine wl_nil ?_
  replace S : St A N w w19 [oB b2 T_Term (Term.C (⟨a0.kind, a0.name, a0.other, a0.form, s_0⟩ : Term))] [oDTerm s_0 a0.sub] := S.arr [0] [1]
  obtain rfl := Option.some.inj H
  exact ⟨rfl, ((((((((((((((((Dif.self _ _ _).upd rfl _).upd rfl _).upd rfl _).upd rfl _).upd rfl _).upd rfl _).upd rfl _).upd rfl _).upd rfl _).upd rfl _).upd rfl _).upd rfl _).upd rfl _).upd rfl _).upd rfl _), (m13, IntKind.i64.wrap (x13_0 + 1)), ⟨e13, rfl, S⟩, by dsimp only; omega⟩
 rintro g22 u23 ⟨s13, rfl, p13_4, S⟩
 have H := Ho13
 dsimp only [aft] at H
 refine wc_seq (wc_region ?_)
 refine wd (does_as_b rfl) ?_
 refine wl_nil ?_
 refine wc_ret ?_
 refine ⟨_, (rets1 (retOne_tmp rfl)), ?_⟩
 replace S : St A N w u23 [] [] := S.arr [] []
 obtain rfl := Option.some.inj H
 exact ⟨rfl, S⟩
theorem ref12_right_st {A : Nat → Prop} {N : Oth} {w : World} {a0 : PTerm} {s_0 : SlV} (S : St A N w w [] [oDTerm s_0 a0.sub]) {k : Nat} {r : Bool} (H : ref12_right.f k a0 = some r) :
  Calls PP F_ref12_right #[.agg (Term.C (⟨a0.kind, a0.name, a0.other, a0.form, s_0⟩ : Term)).toArray] w fun e w' => ∃ v, e = .returned v ∧ (v = .bool r ∧ St A N w w' [] []) := by
 have main : ∀ (k : Nat) {A : Nat → Prop} {N : Oth} {w : World} {a0 : PTerm} {s_0 : SlV} (S : St A N w w [] [oDTerm s_0 a0.sub]) {r : Bool} (H : ref12_right.f k a0 = some r), Calls PP F_ref12_right #[.agg (Term.C (⟨a0.kind, a0.name, a0.other, a0.form, s_0⟩ : Term)).toArray] w fun e w' => ∃ v, e = .returned v ∧ (v = .bool r ∧ St A N w w' [] []) := by
  intro k
  induction k with
  | zero => intro A N w a0 s_0 S r H; cases H
  | succ k ih => intro A N w a0 s_0 S r H; exact ref12_right_gst ih S H
 exact main k S H
theorem ref12_Check_st {A : Nat → Prop} {N : Oth} {w : World} {a0 : PTerm} {s_0 : SlV} (S : St A N w w [] [oDTerm s_0 a0.sub]) {k : Nat} {r : Int} (H : ref12_Check.f k a0 = some r) :
  Calls PP F_ref12_Check #[.agg (Term.C (⟨a0.kind, a0.name, a0.other, a0.form, s_0⟩ : Term)).toArray] w fun e w' => ∃ v, e = .returned v ∧ (v = .int .i64 r ∧ St A N w w' [] []) := by
 unfold ref12_Check.f at H
 refine calls_of_wc (n := 14) fn_ref12_Check rfl rfl (by simp) ?_
 refine wc_seq (wc_region ?_)
 refine wl_box_agg rfl (by decide) fun b2 w1 hw1 => ?_
 replace S : St A N w w1 [oB b2 T_Term (Term.C (⟨a0.kind, a0.name, a0.other, a0.form, s_0⟩ : Term))] [oDTerm s_0 a0.sub] := S.new hw1
 refine wd (does_as_i rfl) ?_
 refine wl_nil ?_
 refine wc_seq (wc_seq (wc_region ?_))
 refine wd (does_load_agg ag_Term rfl ((S.blk 0).all _ (Term.len _)) (Term.len _)) ?_
 obtain ⟨r3, er3, H⟩ := bind_ex H
 obtain ⟨B5, MB5, SB5, back⟩ := S.calln 0 ((.z 0 rfl .nil))
 refine wl_call (does_call ca_ref12_Size) (by decide) (ref12_Size_st (a0 := a0) SB5 er3) ?_
 rintro _ w4 ⟨rfl, S2⟩
 replace S : St A N w w4 [oB b2 T_Term (Term.C (⟨a0.kind, a0.name, a0.other, a0.form, s_0⟩ : Term))] [oDTerm s_0 a0.sub] := back _ _ _ _ S2 rfl
 clear back S2 SB5
 refine wd (does_gt rfl rfl) ?_
 refine wd (does_mv_b rfl) ?_
 refine wl_guard (j := 3) (pol := false) rfl rfl rfl (by decide) (fun hg => does_load_agg ag_Term rfl ((S.blk 0).all _ (Term.len _)) (Term.len _)) (by decide) ?_
 obtain ⟨r6, er6, H⟩ := bind_ex H
 refine wl_gcall (j := 3) (pol := false) rfl rfl rfl (by decide) (fun hg => does_callg ca_ref12_Deep (cons2 (gv_yes hg) rfl)) (by decide) (fun hg => (have ⟨M, SS⟩ := S.lend ((.z 0 rfl .nil)); quiet (ref12_Deep_st (a0 := a0) SS (if_t (by simpa using hg) er6)) (fun v w' h => ⟨h.1, _, _, h.2⟩))) fun w7 hw7 => ?_
 replace S := S.ext hw7
 refine wl_guard (j := 3) (pol := false) rfl rfl rfl (by decide) (fun hg => does_gt (gv_yes hg) rfl) (by decide) ?_
 refine wd (does_or rfl (fun hp => (gv_yes (and_1 hp)))) ?_
 refine wl_nil ?_
 refine wc_if rfl (fun hc8 => ?_) (fun hc8 => ?_)
 ·replace H := if_t hc8 H
  refine wc_seq (wc_region ?_)
  refine wd (does_as_i rfl) ?_
  refine wl_nil ?_
  refine wc_ret ?_
  refine ⟨_, (rets1 (retOne_tmp rfl)), ?_⟩
  replace S : St A N w w7 [] [] := S.arr [] []
  obtain rfl := Option.some.inj H
  exact ⟨rfl, S⟩
 replace H := if_f hc8 H
 refine wc_skip ?_
 refine wc_seq (wc_seq (wc_region ?_))
 refine wd (does_load_agg ag_Term rfl ((S.blk 0).all _ (Term.len _)) (Term.len _)) ?_
 obtain ⟨r9, er9, H⟩ := bind_ex H
 obtain ⟨B11, MB11, SB11, back⟩ := S.calln 0 ((.z 0 rfl .nil))
 refine wl_call (does_call ca_ref12_right) (by decide) (ref12_right_st (a0 := a0) SB11 er9) ?_
 rintro _ w10 ⟨rfl, S2⟩
 replace S : St A N w w10 [oB b2 T_Term (Term.C (⟨a0.kind, a0.name, a0.other, a0.form, s_0⟩ : Term))] [oDTerm s_0 a0.sub] := back _ _ _ _ S2 rfl
 clear back S2 SB11
 refine wd (does_not rfl) ?_
 refine wl_nil ?_
 refine wc_if rfl (fun hc12 => ?_) (fun hc12 => ?_)
 ·replace H := if_t hc12 H
  refine wc_seq (wc_region ?_)
  refine wd (does_as_i rfl) ?_
  refine wl_nil ?_
  refine wc_ret ?_
  refine ⟨_, (rets1 (retOne_tmp rfl)), ?_⟩
  replace S : St A N w w10 [] [] := S.arr [] []
  obtain rfl := Option.some.inj H
  exact ⟨rfl, S⟩
 replace H := if_f hc12 H
 refine wc_skip ?_
 refine wc_seq (wc_region ?_)
 refine wd (does_as_i rfl) ?_
 refine wl_nil ?_
 refine wc_ret ?_
 refine ⟨_, (rets1 (retOne_tmp rfl)), ?_⟩
 replace S : St A N w w10 [] [] := S.arr [] []
 obtain rfl := Option.some.inj H
 exact ⟨rfl, S⟩
end Go.Proofs.YtjebgcoknpcadaaDoor
end
section
namespace Go.Proofs.YtjebgcoknpcadaaDoor
open Gw Go.RowKit
set_option maxHeartbeats 4000000
set_option maxRecDepth 20000
theorem types_at_st {A : Nat → Prop} {N : Oth} {w : World} {a0 : Int} {a1 : Option (Int × List Int)} {v_1 : Value} (S : St A N w w [oE v_1 a1] [oEt]) {r : (Option (Int × List Int))} (H : types_at.f a0 a1 = some r) :
  Calls PP F_types_at #[.int .i64 a0, v_1] w fun e w' => ∃ v, e = .returned v ∧ (∃ vo0 : Value, v = vo0 ∧ St A N w w' [oE vo0 r] []) := by
 unfold types_at.f at H
 refine calls_of_wc (n := 20) fn_types_at rfl rfl (by simp) ?_
 rcases a1 with _ | ⟨c0, up0⟩
 ·obtain rfl := S.seeE 0
  replace S : St A N w w [oE .nilIface none] [oEt] := S
  refine wc_seq (wc_region ?_)
  refine wd (does_assign rfl) ?_
  refine wl_nil ?_
  refine wc_seq (wc_region ?_)
  refine wl_alloc ze_P_types_refusal (by decide) fun b2 w1 hw1 => ?_
  replace S : St A N w w1 [oB b2 T_P_types_refusal [.pointer none], oE .nilIface none] [oEt] := S.new hw1
  refine wl_nil ?_
  refine wc_seq (wc_seq (wc_region ?_))
  refine wd (does_move rfl) ?_
  refine wd (does_mkIface (by kernel_rfl) rfl) ?_
  refine wl_call (does_callg ca_errors_As (cons2 rfl (cons2 rfl rfl))) (by decide) (errors_As_no _ _) ?_
  rintro _ w3 ⟨rfl, hx⟩
  replace S := S.ext hx
  clear hx
  refine wl_nil ?_
  refine wc_false rfl ?_
  refine wc_skip ?_
  refine wc_seq (wc_region ?_)
  refine wd (does_move rfl) ?_
  refine wd (does_assign rfl) ?_
  refine wl_nil ?_
  refine wc_ret ?_
  refine ⟨_, (rets1 (retOne_tmp rfl)), ?_⟩
  replace S : St A N w w3 [oE .nilIface none] [] := S.arr [1] []
  obtain rfl := Option.some.inj H
  exact ⟨.nilIface, rfl, S⟩
 ·obtain ⟨b0, s0, rfl, S⟩ := S.openE 0
  replace S : St A N w w [oB b0 T_Refusal (Refusal.C (⟨c0, s0⟩ : Refusal)), oS T_int 1 IC s0 up0] [oEt] := S
  refine wc_seq (wc_region ?_)
  refine wd (does_assign rfl) ?_
  refine wl_nil ?_
  refine wc_seq (wc_region ?_)
  refine wl_alloc ze_P_types_refusal (by decide) fun b6 w5 hw5 => ?_
  replace S : St A N w w5 [oB b6 T_P_types_refusal [.pointer none], oB b0 T_Refusal (Refusal.C (⟨c0, s0⟩ : Refusal)), oS T_int 1 IC s0 up0] [oEt] := S.new hw5
  refine wl_nil ?_
  refine wc_seq (wc_seq (wc_region ?_))
  refine wd (does_move rfl) ?_
  refine wd (does_mkIface (by kernel_rfl) rfl) ?_
  refine wl_call (does_callg ca_errors_As (cons2 rfl (cons2 rfl rfl))) (by decide) (errors_As_yes _ (S.et 0) (S.blk 0)) ?_
  rintro _ w7 ⟨rfl, hc, hb⟩
  replace S : St A N w w7 [oB b6 T_P_types_refusal [.pointer (some ⟨b0, 0, none⟩)], oB b0 T_Refusal (Refusal.C (⟨c0, s0⟩ : Refusal)), oS T_int 1 IC s0 up0] [oEt] := S.store 0 hb hc
  clear hc hb
  refine wl_nil ?_
  refine wc_true rfl ?_
  obtain ⟨ha9, H⟩ := chk_ex H
  have ha9 := of_decide_eq_true ha9
  have hSO := S.sl 2
  have hSlt := hSO.lt
  have SH : ∀ v, Chg s0.fp w7 v → St A (N.or s0.fp) w v [oB b6 T_P_types_refusal [.pointer (some ⟨b0, 0, none⟩)], oB b0 T_Refusal (Refusal.C (⟨c0, s0⟩ : Refusal))] [oEt] := fun v hc => S.away 2 (hc := hc)
  refine wc_draw 8 ⟨fun L v => Chg s0.fp w7 v ∧ (L 7 = false → Ext w7 v), fun L a b => Chg s0.fp a b ∧ (L 7 = true → Ext a b), fun i v u => match i with
   | 0 => v = Value.pointer (some ⟨b0, 0, none⟩)
   | 1 => v = Value.pointer (some ⟨b0, 0, none⟩)
   | 2 => v = Value.pointer (some ⟨b0, 0, none⟩)
   | 3 => v = Value.pointer (some ⟨b0, 1, none⟩)
   | 4 => v = s0.v
   | 5 => v = Value.int .i64 a0
   | 6 => ∃ b sl, v = SlV.v sl ∧ sl = ⟨some ⟨b, 0, none⟩, 1, 1⟩ ∧ Blk u b T_int (IC a0) ∧ ¬ s0.fp b
   | 7 => ∃ s', v = SlV.v s' ∧ Own u 0 T_int 1 s' ((up0 ++ [a0]).map IC) ∧ ∀ i, s'.fp i → s0.fp i ∨ w7.heap.size ≤ i
   | _ => True⟩ hmix (by kernel_rfl) ?_ ⟨(Ext.drawn _).mono (fun _ _ x => x.elim), fun _ => Ext.drawn _⟩ ⟨?_, ?_, ?_, ?_, ?_, ?_, ?_, ?_, trivial⟩ ?_
  ·intro L i v a b hLi hle hv
   match i, hLi, hv with
   | 0, _, hv => exact hv
   | 1, _, hv => exact hv
   | 2, _, hv => exact hv
   | 3, _, hv => exact hv
   | 4, _, hv => exact hv
   | 5, _, hv => exact hv
   | 6, _, ⟨b, sl, e1, e2, hb, hn⟩ => exact ⟨b, sl, e1, e2, hb.chg hle.1 hn, hn⟩
   | 7, hLi, ⟨s', e1, ho, hg⟩ => exact ⟨s', e1, ho.ext (hle.2 hLi), hg⟩
   | _ + 8, _, _ => exact trivial
  ·rintro L g v hL hT 
   refine wl_does (does_load on_P_types_refusal rfl (((SH v hT.1).blk 0).cell rfl)) (by decide) (wl_nil (ob ⟨hT.1, fun h => hT.2 h⟩ ⟨Chg.refl _ _, fun _ => Ext.refl _⟩ rfl))
  ·rintro L g v hL hT 
   refine wl_does (does_load on_P_types_refusal rfl (((SH v hT.1).blk 0).cell rfl)) (by decide) (wl_nil (ob ⟨hT.1, fun h => hT.2 h⟩ ⟨Chg.refl _ _, fun _ => Ext.refl _⟩ rfl))
  ·rintro L g v hL hT hv1
   refine wl_does (does_nilCheck hv1) (by decide) (wl_nil (ob ⟨hT.1, fun h => hT.2 h⟩ ⟨Chg.refl _ _, fun _ => Ext.refl _⟩ rfl))
  ·rintro L g v hL hT hv2
   refine wl_does (does_fieldAddr fl_Refusal_up_ hv2 (o' := 1) rfl) (by decide) (wl_nil (ob ⟨hT.1, fun h => hT.2 h⟩ ⟨Chg.refl _ _, fun _ => Ext.refl _⟩ rfl))
  ·rintro L g v hL hT hv3
   refine wl_does (does_load on_L_int hv3 (((SH v hT.1).blk 1).cell (Refusal.get_up_ _))) (by decide) (wl_nil (ob ⟨hT.1, fun h => hT.2 h⟩ ⟨Chg.refl _ _, fun _ => Ext.refl _⟩ rfl))
  ·rintro L g v hL hT 
   refine wl_does (does_mv_i rfl) (by decide) (wl_nil (ob ⟨hT.1, fun h => hT.2 h⟩ ⟨Chg.refl _ _, fun _ => Ext.refl _⟩ rfl))
  ·rintro L g v hL hT hv5
   refine wl_lit1 sl_L_int el_int.zero hv5 rfl rfl (by decide) (by decide) fun b v' sl hn hq => wl_nil (ob ⟨hT.1.thenExt hn.ext, fun h => (hT.2 h).trans hn.ext⟩ ⟨hn.ext.mono (fun _ _ x => x.elim), fun _ => hn.ext⟩ ⟨b, sl, rfl, hq, hn.blk, fun e => by have := hSlt _ e; have := hn.at_; have := hT.1.size; omega⟩)
  ·rintro L g v hL hT hv4 ⟨b, sl, hv6, hq, hb, hnb⟩
   refine wl_push (C := IC) sl_L_int el_int hv4 hv6 (hSO.ext (hT.2 hL)) hb hq rfl (fun v hv => by rw [List.mem_singleton.1 hv]; rfl) ha9 (by omega) (by decide) fun s' v' ho hc hg => wl_nil (ob ⟨hT.1.trans hc, fun h => (by cases h)⟩ ⟨hc, fun h => (by rw [hL] at h; cases h)⟩ ⟨s', rfl, ho, fun i e => (hg i e).imp id (fun h => Nat.le_trans hT.1.size h)⟩)
  rintro L g w10 hLm hT hv12_0 hv12_1 hv12_2 hv12_3 hv12_4 hv12_5 ⟨b, sl, hv12_6, hq, hb, hnb⟩ ⟨s11, hv12_7, O, gO⟩
  replace S : St A N w w10 [oS T_int 1 IC s11 (up0 ++ [a0]), oB b6 T_P_types_refusal [.pointer (some ⟨b0, 0, none⟩)], oB b0 T_Refusal (Refusal.C (⟨c0, s0⟩ : Refusal))] [oEt] := S.push 2 O (by rw [List.length_append, List.length_singleton]; omega) hT.1 gO
  clear O gO SH hSO hSlt
  refine wd (does_nilCheck hv12_0) ?_
  refine wd (does_fieldAddr fl_Refusal_up_ rfl (o' := 1) rfl) ?_
  refine wl_store on_L_int rfl hv12_7 (S.blk 2) (by rw [Refusal.len]; decide) (SlV.one _ _ rfl) (Refusal.set_up_ _ _) fun w13 B hw13 zw13 => ?_
  replace S : St A N w w13 [oB b0 T_Refusal (Refusal.C (⟨c0, s11⟩ : Refusal)), oS T_int 1 IC s11 (up0 ++ [a0]), oB b6 T_P_types_refusal [.pointer (some ⟨b0, 0, none⟩)]] [oEt] := S.store 2 B hw13
  clear B
  refine wl_nil ?_
  refine wc_seq (wc_region ?_)
  refine wd (does_move rfl) ?_
  refine wd (does_assign rfl) ?_
  refine wl_nil ?_
  refine wc_ret ?_
  replace S := S.front 1
  replace S := S.front 1
  replace S : St A N w w13 [oE (.iface T_P_Refusal (.pointer (some ⟨b0, 0, none⟩))) (some (c0, up0 ++ [a0])), oB b6 T_P_types_refusal [.pointer (some ⟨b0, 0, none⟩)]] [oEt] := S.mkE
  refine ⟨_, (rets1 (retOne_tmp rfl)), ?_⟩
  replace S : St A N w w13 [oE (.iface T_P_Refusal (.pointer (some ⟨b0, 0, none⟩))) (some (c0, up0 ++ [a0]))] [] := S.arr [0] []
  obtain rfl := Option.some.inj H
  exact ⟨(.iface T_P_Refusal (.pointer (some ⟨b0, 0, none⟩))), rfl, S⟩
theorem types_code_st {A : Nat → Prop} {N : Oth} {w : World} {a0 : Option (Int × List Int)} {v_0 : Value} (S : St A N w w [oE v_0 a0] [oEt]) {r : List Int × Int} (H : types_code.f a0 = some r) :
  Calls PP F_types_code #[v_0] w fun e w' => ∃ v, e = .returned v ∧ (∃ so0 : SlV, v = .tuple #[so0.v, .int .i64 r.2] ∧ St A N w w' [oS T_int 1 IC so0 r.1] []) := by
 unfold types_code.f at H
 refine calls_of_wc (n := 22) fn_types_code rfl rfl (by simp) ?_
 rcases a0 with _ | ⟨c0, up0⟩
 ·obtain rfl := S.seeE 0
  replace S : St A N w w [oE .nilIface none] [oEt] := S
  refine wc_seq (wc_region ?_)
  refine wd (does_as_nil) ?_
  refine wd (does_as_i rfl) ?_
  refine wl_nil ?_
  refine wc_seq (wc_region ?_)
  refine wl_alloc ze_P_types_refusal (by decide) fun b2 w1 hw1 => ?_
  replace S : St A N w w1 [oB b2 T_P_types_refusal [.pointer none], oE .nilIface none] [oEt] := S.new hw1
  refine wl_nil ?_
  refine wc_seq (wc_seq (wc_region ?_))
  refine wd (does_move rfl) ?_
  refine wd (does_mkIface (by kernel_rfl) rfl) ?_
  refine wl_call (does_callg ca_errors_As (cons2 rfl (cons2 rfl rfl))) (by decide) (errors_As_no _ _) ?_
  rintro _ w3 ⟨rfl, hx⟩
  replace S := S.ext hx
  clear hx
  refine wd (does_not rfl) ?_
  refine wl_nil ?_
  refine wc_true rfl ?_
  refine wc_seq (wc_region ?_)
  refine wd (does_as_nil) ?_
  refine wd (does_as_i rfl) ?_
  refine wl_nil ?_
  refine wc_ret ?_
  replace S : St A N w w3 [oS T_int 1 IC SlV.nil ([] : List Int), oB b2 T_P_types_refusal [.pointer none], oE .nilIface none] [oEt] := S.nil T_int 1 IC
  refine ⟨_, (rets2 (retOne_tmp rfl) (retOne_tmp rfl)), ?_⟩
  replace S : St A N w w3 [oS T_int 1 IC SlV.nil ([] : List Int)] [] := S.arr [0] []
  obtain rfl := Option.some.inj H
  exact ⟨SlV.nil, rfl, S⟩
 ·obtain ⟨b0, s0, rfl, S⟩ := S.openE 0
  replace S : St A N w w [oB b0 T_Refusal (Refusal.C (⟨c0, s0⟩ : Refusal)), oS T_int 1 IC s0 up0] [oEt] := S
  refine wc_seq (wc_region ?_)
  refine wd (does_as_nil) ?_
  refine wd (does_as_i rfl) ?_
  refine wl_nil ?_
  refine wc_seq (wc_region ?_)
  refine wl_alloc ze_P_types_refusal (by decide) fun b6 w5 hw5 => ?_
  replace S : St A N w w5 [oB b6 T_P_types_refusal [.pointer none], oB b0 T_Refusal (Refusal.C (⟨c0, s0⟩ : Refusal)), oS T_int 1 IC s0 up0] [oEt] := S.new hw5
  refine wl_nil ?_
  refine wc_seq (wc_seq (wc_region ?_))
  refine wd (does_move rfl) ?_
  refine wd (does_mkIface (by kernel_rfl) rfl) ?_
  refine wl_call (does_callg ca_errors_As (cons2 rfl (cons2 rfl rfl))) (by decide) (errors_As_yes _ (S.et 0) (S.blk 0)) ?_
  rintro _ w7 ⟨rfl, hc, hb⟩
  replace S : St A N w w7 [oB b6 T_P_types_refusal [.pointer (some ⟨b0, 0, none⟩)], oB b0 T_Refusal (Refusal.C (⟨c0, s0⟩ : Refusal)), oS T_int 1 IC s0 up0] [oEt] := S.store 0 hb hc
  clear hc hb
  refine wd (does_not rfl) ?_
  refine wl_nil ?_
  refine wc_false rfl ?_
  refine wc_skip ?_
  refine wc_seq (wc_region ?_)
  refine wd (does_load on_P_types_refusal rfl ((S.blk 0).cell rfl)) ?_
  refine wd (does_nilCheck rfl) ?_
  refine wd (does_fieldAddr fl_Refusal_up_ rfl (o' := 1) rfl) ?_
  refine wd (does_load on_L_int rfl ((S.blk 1).cell (Refusal.get_up_ _))) ?_
  obtain ⟨r9, er9, H⟩ := bind_ex H
  replace S : St A N w w7 [oS T_int 1 IC s0 up0, oB b6 T_P_types_refusal [.pointer (some ⟨b0, 0, none⟩)], oB b0 T_Refusal (Refusal.C (⟨c0, s0⟩ : Refusal))] [oEt] := S.front 2
  obtain ⟨B11, MB11, SB11, back⟩ := S.calln 1 ((.nil))
  refine wl_call (does_call ca_slices_Reverse_int_int) (by decide) (slices_Reverse_int_int_st SB11 er9) ?_
  rintro _ w10 ⟨rfl, S2⟩
  replace S : St A N w w10 [oS T_int 1 IC s0 r9, oB b6 T_P_types_refusal [.pointer (some ⟨b0, 0, none⟩)], oB b0 T_Refusal (Refusal.C (⟨c0, s0⟩ : Refusal))] [oEt] := back _ _ _ _ S2 rfl
  clear back S2 SB11
  refine wl_nil ?_
  refine wc_seq ?_
  refine wc_quiet 9 (Ext w10) hmix (by kernel_rfl) (by kernel_rfl) (Ext.drawn _) ?_
  refine wq_does (fun v K => does_load on_P_types_refusal rfl (((S.ext K).blk 1).cell rfl)) ?_
  refine wq_does (fun v K => does_nilCheck rfl) ?_
  refine wq_does (fun v K => does_fieldAddr fl_Refusal_up_ rfl (o' := 1) rfl) ?_
  refine wq_does (fun v K => does_load on_L_int rfl (((S.ext K).blk 2).cell (Refusal.get_up_ _))) ?_
  refine wq_does (fun v K => does_load on_P_types_refusal rfl (((S.ext K).blk 1).cell rfl)) ?_
  refine wq_does (fun v K => does_nilCheck rfl) ?_
  refine wq_does (fun v K => does_fieldAddr fl_Refusal_code rfl (o' := 0) rfl) ?_
  refine wq_does (fun v K => does_load on_api_Errno rfl (((S.ext K).blk 2).cell (Refusal.get_code _))) ?_
  refine wq_does (fun v K => does_as_l rfl) ?_
  refine wq_nil fun w12 K => ?_
  replace S := S.ext K
  clear K
  refine wd (does_as_i rfl) ?_
  refine wl_nil ?_
  refine wc_ret ?_
  refine ⟨_, (rets2 (retOne_tmp rfl) (retOne_tmp rfl)), ?_⟩
  replace S : St A N w w12 [oS T_int 1 IC s0 r9] [] := S.arr [0] []
  obtain rfl := Option.some.inj H
  exact ⟨s0, rfl, S⟩
end Go.Proofs.YtjebgcoknpcadaaDoor
end
section
namespace Go.Proofs.YtjebgcoknpcadaaDoor
open Gw Go.RowKit
set_option maxHeartbeats 4000000
set_option maxRecDepth 20000
theorem types_checker_node_st {A : Nat → Prop} {N : Oth} {w : World} {a0 : PChecker} {a_0 : Option Addr} {a1 : Int} {a2 : Int} (S : St A N w w [] [oT a_0 a0.t]) {r : Nd × (Option (Int × List Int))} (H : types_checker_node.f a0 a1 a2 = some r) :
  Calls PP F_types_checker_node #[.agg (Checker.C (⟨a_0⟩ : Checker)).toArray, .int .i64 a1, .int .i64 a2] w fun e w' => ∃ v, e = .returned v ∧ (∃ vo0 : Value, v = .tuple #[.agg (Nd.C r.1).toArray, vo0] ∧ St A N w w' [oE vo0 r.2] []) := by
 unfold types_checker_node.f at H
 refine calls_of_wc (n := 26) fn_types_checker_node rfl rfl (by simp) ?_
 refine wc_seq (wc_region ?_)
 refine wl_box_agg rfl (by decide) fun b2 w1 hw1 => ?_
 replace S : St A N w w1 [oB b2 T_Checker (Checker.C (⟨a_0⟩ : Checker))] [oT a_0 a0.t] := S.new hw1
 refine wl_alloc ze_Nd (by decide) fun b4 w3 hw3 => ?_
 replace S : St A N w w3 [oB b4 T_Nd (Nd.C Nd.z), oB b2 T_Checker (Checker.C (⟨a_0⟩ : Checker))] [oT a_0 a0.t] := S.new hw3
 refine wd (does_assign rfl) ?_
 refine wl_nil ?_
 refine wc_seq (wc_region ?_)
 refine wd (does_fieldAddr fl_Checker_t rfl (o' := 0) rfl) ?_
 refine wd (does_load on_dictum_formula_has rfl ((S.blk 1).cell (Checker.get_t _))) ?_
 refine wd (does_mv_i rfl) ?_
 obtain ⟨r5, er5, H⟩ := bind_ex H
 obtain ⟨B7, MB7, SB7, back⟩ := S.calln 0 ((.z 0 rfl .nil))
 refine wl_call (does_call ca_formula_Table_Node) (by decide) (formula_Table_Node_st SB7 er5) ?_
 rintro _ w6 ⟨rfl, S2⟩
 replace S : St A N w w6 [oB b4 T_Nd (Nd.C Nd.z), oB b2 T_Checker (Checker.C (⟨a_0⟩ : Checker))] [oT a_0 a0.t] := back _ _ _ _ S2 rfl
 clear back S2 SB7
 refine wd (does_mv_t rfl) ?_
 refine wd (does_extract rfl rfl) ?_
 refine wd (does_extract rfl rfl) ?_
 refine wl_alloc ze_Nd (by decide) fun b9 w8 hw8 => ?_
 replace S : St A N w w8 [oB b9 T_Nd (Nd.C Nd.z), oB b4 T_Nd (Nd.C Nd.z), oB b2 T_Checker (Checker.C (⟨a_0⟩ : Checker))] [oT a_0 a0.t] := S.new hw8
 refine wl_store_agg ag_Nd rfl rfl (S.blk 0) (Nd.len _) (by rw [Nd.len]; decide) (Nd.one _) (store_all (Nd.len _)) fun w10 B hw10 zw10 => ?_
 replace S : St A N w w10 [oB b9 T_Nd (Nd.C r5.1), oB b4 T_Nd (Nd.C Nd.z), oB b2 T_Checker (Checker.C (⟨a_0⟩ : Checker))] [oT a_0 a0.t] := S.store 0 B hw10
 clear B
 refine wd (does_as_b rfl) ?_
 refine wl_nil ?_
 refine wc_seq (wc_seq (wc_region ?_))
 refine wd (does_fieldAddr fl_Nd_kind rfl (o' := 0) rfl) ?_
 refine wd (does_load on_api_Kind rfl ((S.blk 0).cell (Nd.get_kind _))) ?_
 refine wd (does_mv_i rfl) ?_
 refine wd (does_ne rfl rfl) ?_
 refine wl_nil ?_
 refine wc_if rfl (fun hc11 => ?_) (fun hc11 => ?_)
 ·replace H := if_t hc11 H
  refine wc_seq (wc_region ?_)
  refine wd (does_load_agg ag_Nd rfl ((S.blk 0).all _ (Nd.len _)) (Nd.len _)) ?_
  refine wd (Does.to (v' := .agg (Refusal.C (⟨130, SlV.nil⟩ : Refusal)).toArray) (does_buildv (vs := [(0, .int .i64 130)]) bu_Refusal (consP rfl rfl) (Bld.one rfl rfl (by rw [Refusal.len]; decide) (Refusal.set_code _ _) Bld.nil)) rfl) ?_
  refine wl_box_agg rfl (by decide) fun b13 w12 hw12 => ?_
  replace S : St A N w w12 [oB b13 T_Refusal (Refusal.C (⟨130, SlV.nil⟩ : Refusal)), oB b9 T_Nd (Nd.C r5.1), oB b4 T_Nd (Nd.C Nd.z), oB b2 T_Checker (Checker.C (⟨a_0⟩ : Checker))] [oT a_0 a0.t] := S.new hw12
  refine wd (does_makeInterface rfl) ?_
  replace S := S.nil T_int 1 IC
  replace S := S.front 1
  replace S : St A N w w12 [oE (.iface T_P_Refusal (.pointer (some ⟨b13, 0, none⟩))) (some (130, ([] : List Int))), oB b9 T_Nd (Nd.C r5.1), oB b4 T_Nd (Nd.C Nd.z), oB b2 T_Checker (Checker.C (⟨a_0⟩ : Checker))] [oT a_0 a0.t] := S.mkE
  refine wl_store_agg ag_Nd rfl rfl (S.blk 2) (Nd.len _) (by rw [Nd.len]; decide) (Nd.one _) (store_all (Nd.len _)) fun w14 B hw14 zw14 => ?_
  replace S : St A N w w14 [oB b4 T_Nd (Nd.C r5.1), oE (.iface T_P_Refusal (.pointer (some ⟨b13, 0, none⟩))) (some (130, ([] : List Int))), oB b9 T_Nd (Nd.C r5.1), oB b2 T_Checker (Checker.C (⟨a_0⟩ : Checker))] [oT a_0 a0.t] := S.store 2 B hw14
  clear B
  refine wd (does_assign rfl) ?_
  refine wl_nil ?_
  refine wc_ret ?_
  refine ⟨_, (rets2 (retOne_agg ag_Nd rfl ((S.blk 0).all _ (Nd.len _)) (Nd.len _)) (retOne_tmp rfl)), ?_⟩
  replace S : St A N w w14 [oE (.iface T_P_Refusal (.pointer (some ⟨b13, 0, none⟩))) (some (130, ([] : List Int)))] [] := S.arr [1] []
  obtain rfl := Option.some.inj H
  exact ⟨(.iface T_P_Refusal (.pointer (some ⟨b13, 0, none⟩))), rfl, S⟩
 replace H := if_f hc11 H
 refine wc_skip ?_
 refine wc_seq (wc_region ?_)
 refine wd (does_load_agg ag_Nd rfl ((S.blk 0).all _ (Nd.len _)) (Nd.len _)) ?_
 refine wl_store_agg ag_Nd rfl rfl (S.blk 1) (Nd.len _) (by rw [Nd.len]; decide) (Nd.one _) (store_all (Nd.len _)) fun w15 B hw15 zw15 => ?_
 replace S : St A N w w15 [oB b4 T_Nd (Nd.C r5.1), oB b9 T_Nd (Nd.C r5.1), oB b2 T_Checker (Checker.C (⟨a_0⟩ : Checker))] [oT a_0 a0.t] := S.store 1 B hw15
 clear B
 refine wd (does_assign rfl) ?_
 refine wl_nil ?_
 refine wc_ret ?_
 replace S : St A N w w15 [oE .nilIface none, oB b4 T_Nd (Nd.C r5.1), oB b9 T_Nd (Nd.C r5.1), oB b2 T_Checker (Checker.C (⟨a_0⟩ : Checker))] [oT a_0 a0.t] := S.nilE
 refine ⟨_, (rets2 (retOne_agg ag_Nd rfl ((S.blk 1).all _ (Nd.len _)) (Nd.len _)) (retOne_tmp rfl)), ?_⟩
 replace S : St A N w w15 [oE .nilIface none] [] := S.arr [0] []
 obtain rfl := Option.some.inj H
 exact ⟨.nilIface, rfl, S⟩
theorem types_checker_part_gst {rec_types_checker_told : PChecker → PTerm → (List (ByteArray × Int)) → Option (Int × (Option (Int × List Int)))} (hrec_types_checker_told : ∀ {A : Nat → Prop} {N : Oth} {w : World} {a0 : PChecker} {a_0 : Option Addr} {a1 : PTerm} {s_1 : SlV} {a2 : List (ByteArray × Int)} {a_2 : Option Addr} (S : St A N w w [] [oT a_0 a0.t, oDTerm s_1 a1.sub, fScope a_2 a2, oEt]) {r : Int × (Option (Int × List Int))} (H : rec_types_checker_told a0 a1 a2 = some r), Calls PP F_types_checker_told #[.agg (Checker.C (⟨a_0⟩ : Checker)).toArray, .agg (Term.C (⟨a1.kind, a1.name, a1.other, a1.form, s_1⟩ : Term)).toArray, .pointer a_2] w fun e w' => ∃ v, e = .returned v ∧ (∃ vo0 : Value, v = .tuple #[.int .i64 r.1, vo0] ∧ St A N w w' [oE vo0 r.2] [])) {A : Nat → Prop} {N : Oth} {w : World} {a0 : PChecker} {a_0 : Option Addr} {a1 : PTerm} {s_1 : SlV} {a2 : Int} {a3 : List (ByteArray × Int)} {a_3 : Option Addr} (S : St A N w w [] [oT a_0 a0.t, oDTerm s_1 a1.sub, fScope a_3 a3, oEt]) {r : Int × (Option (Int × List Int))} (H : types_checker_part.g rec_types_checker_told a0 a1 a2 a3 = some r) :
  Calls PP F_types_checker_part #[.agg (Checker.C (⟨a_0⟩ : Checker)).toArray, .agg (Term.C (⟨a1.kind, a1.name, a1.other, a1.form, s_1⟩ : Term)).toArray, .int .i64 a2, .pointer a_3] w fun e w' => ∃ v, e = .returned v ∧ (∃ vo0 : Value, v = .tuple #[.int .i64 r.1, vo0] ∧ St A N w w' [oE vo0 r.2] []) := by
 unfold types_checker_part.g at H
 refine calls_of_wc (n := 27) fn_types_checker_part rfl rfl (by simp) ?_
 refine wc_seq (wc_region ?_)
 refine wl_box_agg rfl (by decide) fun b2 w1 hw1 => ?_
 replace S : St A N w w1 [oB b2 T_Checker (Checker.C (⟨a_0⟩ : Checker))] [oT a_0 a0.t, oDTerm s_1 a1.sub, fScope a_3 a3, oEt] := S.new hw1
 refine wl_box_agg rfl (by decide) fun b4 w3 hw3 => ?_
 replace S : St A N w w3 [oB b4 T_Term (Term.C (⟨a1.kind, a1.name, a1.other, a1.form, s_1⟩ : Term)), oB b2 T_Checker (Checker.C (⟨a_0⟩ : Checker))] [oT a_0 a0.t, oDTerm s_1 a1.sub, fScope a_3 a3, oEt] := S.new hw3
 refine wd (does_as_i rfl) ?_
 refine wd (does_assign rfl) ?_
 refine wl_nil ?_
 refine wc_seq ?_
 refine wc_ws hmix fun w10 K => ?_
 replace S := S.ext K
 clear K
 obtain ⟨hi11, H⟩ := chk_ex H
 obtain ⟨s12, hc13, S⟩ := S.viewTerm 1 (inb_ex hi11)
 replace S : St A N w w10 [oB b4 T_Term (Term.C (⟨a1.kind, a1.name, a1.other, a1.form, s_1⟩ : Term)), oB b2 T_Checker (Checker.C (⟨a_0⟩ : Checker))] [oDTerm s12 ((at_ PTerm.z a1.sub a2).sub), oT a_0 a0.t, oDTerm s_1 a1.sub, fScope a_3 a3, oEt] := S
 replace S : St A N w w10 [oB b4 T_Term (Term.C (⟨a1.kind, a1.name, a1.other, a1.form, s_1⟩ : Term)), oB b2 T_Checker (Checker.C (⟨a_0⟩ : Checker))] [oT a_0 a0.t, oDTerm s_1 a1.sub, fScope a_3 a3, oEt, oDTerm s12 ((at_ PTerm.z a1.sub a2).sub)] := S.zs [1, 2, 3, 4, 0]
 refine ws_semi 0 7 [] (by kernel_rfl) (by decide) (by kernel_rfl)
  (V := fun i v u => match i with
  | _ => True) ?_ ?_
 ·intro i v u u' hi hx hv
  match i, hv with
  | _, _ => exact trivial
 refine wm_does (fun v K => does_load_agg ag_Checker rfl (((S.ext K).blk 1).all _ (Checker.len _)) (Checker.len _)) rfl ?_
 refine wm_does (fun v K => does_fieldAddr fl_Term_sub rfl (o' := 4) rfl) rfl ?_
 refine wm_does (fun v K => does_load on_L_api_Term rfl (((S.ext K).blk 0).cell (Term.get_sub _))) rfl ?_
 refine wm_does (fun v K => does_mv_i rfl) rfl ?_
 refine wm_does (fun v K => does_indexF sl_L_api_Term rfl rfl ((S.ext K).onZ 1) (inb_ex hi11).1 (inb_ex hi11).2) rfl ?_
 refine wm_does (fun v K => does_load_agg ag_Term rfl (hc13.chg K (fun x => x)) (Term.len _)) rfl ?_
 refine wm_does (fun v K => does_mv_p rfl) rfl ?_
 refine wm_nil fun g w14 K hV => ?_
 replace S := S.ext K
 clear K hV
 refine ws_chain 7 9 (by kernel_rfl) (by decide) ?_
 obtain ⟨r16, er16, H⟩ := bind_ex H
 obtain ⟨B18, MB18, SB18, back⟩ := S.calln 0 ((.z 0 rfl (.z 4 rfl (.z 2 rfl (.z 3 rfl .nil)))))
 refine wl_call (does_call ca_types_checker_told) (by decide) (hrec_types_checker_told (a0 := a0) (a1 := (at_ PTerm.z a1.sub a2)) SB18 er16) ?_
 rintro _ w17 ⟨v19, rfl, S2⟩
 replace S : St A N w w17 [oE v19 r16.2, oB b4 T_Term (Term.C (⟨a1.kind, a1.name, a1.other, a1.form, s_1⟩ : Term)), oB b2 T_Checker (Checker.C (⟨a_0⟩ : Checker))] [oT a_0 a0.t, oDTerm s_1 a1.sub, fScope a_3 a3, oEt, oDTerm s12 ((at_ PTerm.z a1.sub a2).sub)] := back _ _ _ _ S2 rfl
 clear back S2 SB18
 refine wd (does_mv_t rfl) ?_
 refine wl_nil ⟨rfl, ?_⟩
 refine ws_semi 9 12 [] (by kernel_rfl) (by decide) (by kernel_rfl)
  (V := fun i v u => match i with
  | _ => True) ?_ ?_
 ·intro i v u u' hi hx hv
  match i, hv with
  | _, _ => exact trivial
 refine wm_does (fun v K => does_extract rfl rfl) rfl ?_
 refine wm_does (fun v K => does_extract rfl rfl) rfl ?_
 refine wm_does (fun v K => does_as_i rfl) rfl ?_
 refine wm_nil fun g w20 K hV => ?_
 replace S := S.ext K
 clear K hV
 refine ws_tail 12 (by kernel_rfl) (by decide) ?_
 refine wd (does_assign rfl) ?_
 refine wl_nil ?_
 refine wc_seq (wc_region ?_)
 refine wd (does_mv_i rfl) ?_
 refine wd (does_mv_i rfl) ?_
 refine wd (does_move rfl) ?_
 obtain ⟨r22, er22, H⟩ := bind_ex H
 obtain ⟨B24, MB24, SB24, back⟩ := S.calln 1 ((.z 3 rfl .nil))
 refine wl_call (does_call ca_types_at) (by decide) (types_at_st (a1 := r16.2) SB24 er22) ?_
 rintro v25 w23 ⟨_, rfl, S2⟩
 replace S : St A N w w23 [oE v25 r22, oB b4 T_Term (Term.C (⟨a1.kind, a1.name, a1.other, a1.form, s_1⟩ : Term)), oB b2 T_Checker (Checker.C (⟨a_0⟩ : Checker))] [oT a_0 a0.t, oDTerm s_1 a1.sub, fScope a_3 a3, oEt, oDTerm s12 ((at_ PTerm.z a1.sub a2).sub)] := back _ _ _ _ S2 rfl
 clear back S2 SB24
 refine wd (does_as_i rfl) ?_
 refine wd (does_assign rfl) ?_
 refine wl_nil ?_
 refine wc_ret ?_
 refine ⟨_, (rets2 (retOne_tmp rfl) (retOne_tmp rfl)), ?_⟩
 replace S : St A N w w23 [oE v25 r22] [] := S.arr [0] []
 obtain rfl := Option.some.inj H
 exact ⟨v25, rfl, S⟩
theorem types_checker_check_gst {rec_types_checker_checked : PChecker → PTerm → (List (ByteArray × Int)) → Int → Option (Option (Int × List Int))} (hrec_types_checker_checked : ∀ {A : Nat → Prop} {N : Oth} {w : World} {a0 : PChecker} {a_0 : Option Addr} {a1 : PTerm} {s_1 : SlV} {a2 : List (ByteArray × Int)} {a_2 : Option Addr} {a3 : Int} (S : St A N w w [] [oT a_0 a0.t, oDTerm s_1 a1.sub, fScope a_2 a2, oEt]) {r : (Option (Int × List Int))} (H : rec_types_checker_checked a0 a1 a2 a3 = some r), Calls PP F_types_checker_checked #[.agg (Checker.C (⟨a_0⟩ : Checker)).toArray, .agg (Term.C (⟨a1.kind, a1.name, a1.other, a1.form, s_1⟩ : Term)).toArray, .pointer a_2, .int .i64 a3] w fun e w' => ∃ v, e = .returned v ∧ (∃ vo0 : Value, v = vo0 ∧ St A N w w' [oE vo0 r] [])) {A : Nat → Prop} {N : Oth} {w : World} {a0 : PChecker} {a_0 : Option Addr} {a1 : PTerm} {s_1 : SlV} {a2 : Int} {a3 : List (ByteArray × Int)} {a_3 : Option Addr} {a4 : Int} (S : St A N w w [] [oT a_0 a0.t, oDTerm s_1 a1.sub, fScope a_3 a3, oEt]) {r : (Option (Int × List Int))} (H : types_checker_check.g rec_types_checker_checked a0 a1 a2 a3 a4 = some r) :
  Calls PP F_types_checker_check #[.agg (Checker.C (⟨a_0⟩ : Checker)).toArray, .agg (Term.C (⟨a1.kind, a1.name, a1.other, a1.form, s_1⟩ : Term)).toArray, .int .i64 a2, .pointer a_3, .int .i64 a4] w fun e w' => ∃ v, e = .returned v ∧ (∃ vo0 : Value, v = vo0 ∧ St A N w w' [oE vo0 r] []) := by
 unfold types_checker_check.g at H
 refine calls_of_wc (n := 22) fn_types_checker_check rfl rfl (by simp) ?_
 refine wc_seq (wc_region ?_)
 refine wl_box_agg rfl (by decide) fun b2 w1 hw1 => ?_
 replace S : St A N w w1 [oB b2 T_Checker (Checker.C (⟨a_0⟩ : Checker))] [oT a_0 a0.t, oDTerm s_1 a1.sub, fScope a_3 a3, oEt] := S.new hw1
 refine wl_box_agg rfl (by decide) fun b4 w3 hw3 => ?_
 replace S : St A N w w3 [oB b4 T_Term (Term.C (⟨a1.kind, a1.name, a1.other, a1.form, s_1⟩ : Term)), oB b2 T_Checker (Checker.C (⟨a_0⟩ : Checker))] [oT a_0 a0.t, oDTerm s_1 a1.sub, fScope a_3 a3, oEt] := S.new hw3
 refine wd (does_assign rfl) ?_
 refine wl_nil ?_
 refine wc_seq ?_
 obtain ⟨hi5, H⟩ := chk_ex H
 obtain ⟨s6, hc7, S⟩ := S.viewTerm 1 (inb_ex hi5)
 replace S : St A N w w3 [oB b4 T_Term (Term.C (⟨a1.kind, a1.name, a1.other, a1.form, s_1⟩ : Term)), oB b2 T_Checker (Checker.C (⟨a_0⟩ : Checker))] [oDTerm s6 ((at_ PTerm.z a1.sub a2).sub), oT a_0 a0.t, oDTerm s_1 a1.sub, fScope a_3 a3, oEt] := S
 replace S : St A N w w3 [oB b4 T_Term (Term.C (⟨a1.kind, a1.name, a1.other, a1.form, s_1⟩ : Term)), oB b2 T_Checker (Checker.C (⟨a_0⟩ : Checker))] [oT a_0 a0.t, oDTerm s_1 a1.sub, fScope a_3 a3, oEt, oDTerm s6 ((at_ PTerm.z a1.sub a2).sub)] := S.zs [1, 2, 3, 4, 0]
 obtain ⟨r8, er8, H⟩ := bind_ex H
 refine wc_semi 10 [9]
  (fun i v u => match i with
  | 9 => ∃ v9 : Value, v = v9 ∧ ∃ F, (oE v9 r8).holds u F ∧ ∀ i, F i → w3.heap.size ≤ i
  | _ => True) hmix (by kernel_rfl) (by kernel_rfl) ?_ ?_
 ·intro i v u u' hi hx hv
  match i, hv with
  | 9, ⟨b, e1, F, hb, hl⟩ => exact ⟨b, e1, F, OA.loc _ hb hx (fun _ _ x => x), hl⟩
  | 0, _ => exact trivial
  | 1, _ => exact trivial
  | 2, _ => exact trivial
  | 3, _ => exact trivial
  | 4, _ => exact trivial
  | 5, _ => exact trivial
  | 6, _ => exact trivial
  | 7, _ => exact trivial
  | 8, _ => exact trivial
  | _ + 10, _ => exact trivial
 refine wm_does (fun v K => does_mv_i rfl) rfl ?_
 refine wm_does (fun v K => does_load_agg ag_Checker rfl (((S.ext K).blk 1).all _ (Checker.len _)) (Checker.len _)) rfl ?_
 refine wm_does (fun v K => does_fieldAddr fl_Term_sub rfl (o' := 4) rfl) rfl ?_
 refine wm_does (fun v K => does_load on_L_api_Term rfl (((S.ext K).blk 0).cell (Term.get_sub _))) rfl ?_
 refine wm_does (fun v K => does_mv_i rfl) rfl ?_
 refine wm_does (fun v K => does_indexF sl_L_api_Term rfl rfl ((S.ext K).onZ 1) (inb_ex hi5).1 (inb_ex hi5).2) rfl ?_
 refine wm_does (fun v K => does_load_agg ag_Term rfl (hc7.chg K (fun x => x)) (Term.len _)) rfl ?_
 refine wm_does (fun v K => does_mv_p rfl) rfl ?_
 refine wm_does (fun v K => does_mv_i rfl) rfl ?_
 refine wm_newcall (fun g v K G => (have ⟨M, SS⟩ := (S.ext K).lend ((.z 0 rfl (.z 4 rfl (.z 2 rfl (.z 3 rfl .nil))))); ⟨_, _, does_callg ca_types_checker_checked (cons2 rfl (cons2 rfl (cons2 rfl (cons2 rfl rfl)))), newc (hrec_types_checker_checked (a0 := a0) (a1 := (at_ PTerm.z a1.sub a2)) SS er8) fun _ _ ⟨v9, hv, h⟩ => ⟨h.frame, v9, hv, h.newP.elim fun F hF => ⟨F, hF.1, fun i hi => by have := hF.2 i hi; have := K.size; omega⟩⟩⟩)) rfl ?_
 refine wm_nil fun g w10 K hV => ?_
 obtain ⟨v9, hv119, F9, hb9, hf9⟩ := hV 9 rfl (by decide)
 replace S : St A N w w10 [oE v9 r8, oB b4 T_Term (Term.C (⟨a1.kind, a1.name, a1.other, a1.form, s_1⟩ : Term)), oB b2 T_Checker (Checker.C (⟨a_0⟩ : Checker))] [oT a_0 a0.t, oDTerm s_1 a1.sub, fScope a_3 a3, oEt, oDTerm s6 ((at_ PTerm.z a1.sub a2).sub)] := S.add (b := oE v9 r8) K hb9 hf9
 clear K hV
 obtain ⟨r12, er12, H⟩ := bind_ex H
 obtain ⟨B14, MB14, SB14, back⟩ := S.calln 1 ((.z 3 rfl .nil))
 refine wl_call (does_callg ca_types_at (cons2 rfl (cons2 hv119 rfl))) (by decide) (types_at_st (a1 := r8) SB14 er12) ?_
 rintro v15 w13 ⟨_, rfl, S2⟩
 replace S : St A N w w13 [oE v15 r12, oB b4 T_Term (Term.C (⟨a1.kind, a1.name, a1.other, a1.form, s_1⟩ : Term)), oB b2 T_Checker (Checker.C (⟨a_0⟩ : Checker))] [oT a_0 a0.t, oDTerm s_1 a1.sub, fScope a_3 a3, oEt, oDTerm s6 ((at_ PTerm.z a1.sub a2).sub)] := back _ _ _ _ S2 rfl
 clear back S2 SB14
 refine wd (does_assign rfl) ?_
 refine wl_nil ?_
 refine wc_ret ?_
 refine ⟨_, (rets1 (retOne_tmp rfl)), ?_⟩
 replace S : St A N w w13 [oE v15 r12] [] := S.arr [0] []
 obtain rfl := Option.some.inj H
 exact ⟨v15, rfl, S⟩
theorem types_checker_head_gst {rec_types_checker_told : PChecker → PTerm → (List (ByteArray × Int)) → Option (Int × (Option (Int × List Int)))} (hrec_types_checker_told : ∀ {A : Nat → Prop} {N : Oth} {w : World} {a0 : PChecker} {a_0 : Option Addr} {a1 : PTerm} {s_1 : SlV} {a2 : List (ByteArray × Int)} {a_2 : Option Addr} (S : St A N w w [] [oT a_0 a0.t, oDTerm s_1 a1.sub, fScope a_2 a2, oEt]) {r : Int × (Option (Int × List Int))} (H : rec_types_checker_told a0 a1 a2 = some r), Calls PP F_types_checker_told #[.agg (Checker.C (⟨a_0⟩ : Checker)).toArray, .agg (Term.C (⟨a1.kind, a1.name, a1.other, a1.form, s_1⟩ : Term)).toArray, .pointer a_2] w fun e w' => ∃ v, e = .returned v ∧ (∃ vo0 : Value, v = .tuple #[.int .i64 r.1, vo0] ∧ St A N w w' [oE vo0 r.2] [])) {A : Nat → Prop} {N : Oth} {w : World} {a0 : PChecker} {a_0 : Option Addr} {a1 : PTerm} {s_1 : SlV} {a2 : List (ByteArray × Int)} {a_2 : Option Addr} {a3 : Int} (S : St A N w w [] [oT a_0 a0.t, oDTerm s_1 a1.sub, fScope a_2 a2, oEt]) {r : Nd × (Option (Int × List Int))} (H : types_checker_head.g rec_types_checker_told a0 a1 a2 a3 = some r) :
  Calls PP F_types_checker_head #[.agg (Checker.C (⟨a_0⟩ : Checker)).toArray, .agg (Term.C (⟨a1.kind, a1.name, a1.other, a1.form, s_1⟩ : Term)).toArray, .pointer a_2, .int .i64 a3] w fun e w' => ∃ v, e = .returned v ∧ (∃ vo0 : Value, v = .tuple #[.agg (Nd.C r.1).toArray, vo0] ∧ St A N w w' [oE vo0 r.2] []) := by
 unfold types_checker_head.g at H
 refine calls_of_wc (n := 29) fn_types_checker_head rfl rfl (by simp) ?_
 refine wc_seq (wc_region ?_)
 refine wl_box_agg rfl (by decide) fun b2 w1 hw1 => ?_
 replace S : St A N w w1 [oB b2 T_Checker (Checker.C (⟨a_0⟩ : Checker))] [oT a_0 a0.t, oDTerm s_1 a1.sub, fScope a_2 a2, oEt] := S.new hw1
 refine wl_box_agg rfl (by decide) fun b4 w3 hw3 => ?_
 replace S : St A N w w3 [oB b4 T_Term (Term.C (⟨a1.kind, a1.name, a1.other, a1.form, s_1⟩ : Term)), oB b2 T_Checker (Checker.C (⟨a_0⟩ : Checker))] [oT a_0 a0.t, oDTerm s_1 a1.sub, fScope a_2 a2, oEt] := S.new hw3
 refine wl_alloc ze_Nd (by decide) fun b6 w5 hw5 => ?_
 replace S : St A N w w5 [oB b6 T_Nd (Nd.C Nd.z), oB b4 T_Term (Term.C (⟨a1.kind, a1.name, a1.other, a1.form, s_1⟩ : Term)), oB b2 T_Checker (Checker.C (⟨a_0⟩ : Checker))] [oT a_0 a0.t, oDTerm s_1 a1.sub, fScope a_2 a2, oEt] := S.new hw5
 refine wd (does_assign rfl) ?_
 refine wl_nil ?_
 refine wc_seq (wc_region ?_)
 refine wd (does_load_agg ag_Checker rfl ((S.blk 2).all _ (Checker.len _)) (Checker.len _)) ?_
 refine wd (does_load_agg ag_Term rfl ((S.blk 1).all _ (Term.len _)) (Term.len _)) ?_
 refine wd (does_mv_p rfl) ?_
 obtain ⟨r7, er7, H⟩ := bind_ex H
 obtain ⟨B9, MB9, SB9, back⟩ := S.calln 0 ((.z 0 rfl (.z 1 rfl (.z 2 rfl (.z 3 rfl .nil)))))
 refine wl_call (does_call ca_types_checker_part) (by decide) (types_checker_part_gst hrec_types_checker_told (a0 := a0) (a1 := a1) SB9 er7) ?_
 rintro _ w8 ⟨v10, rfl, S2⟩
 replace S : St A N w w8 [oE v10 r7.2, oB b6 T_Nd (Nd.C Nd.z), oB b4 T_Term (Term.C (⟨a1.kind, a1.name, a1.other, a1.form, s_1⟩ : Term)), oB b2 T_Checker (Checker.C (⟨a_0⟩ : Checker))] [oT a_0 a0.t, oDTerm s_1 a1.sub, fScope a_2 a2, oEt] := back _ _ _ _ S2 rfl
 clear back S2 SB9
 refine wd (does_mv_t rfl) ?_
 refine wd (does_extract rfl rfl) ?_
 refine wd (does_extract rfl rfl) ?_
 refine wd (does_as_i rfl) ?_
 refine wd (does_assign rfl) ?_
 refine wl_nil ?_
 refine wc_seq (wc_seq (wc_region ?_))
 refine wd (does_move rfl) ?_
 refine wd (does_neE if_error rfl rfl (S.onO 0)) ?_
 refine wl_nil ?_
 refine wc_if rfl (fun hc11 => ?_) (fun hc11 => ?_)
 ·replace H := if_t hc11 H
  refine wc_seq (wc_region ?_)
  refine wd (does_build bu_Nd Bld.nil) ?_
  refine wd (does_move rfl) ?_
  refine wl_store_agg ag_Nd rfl rfl (S.blk 1) (Nd.len _) (by rw [Nd.len]; decide) (Nd.one _) (store_all (Nd.len _)) fun w12 B hw12 zw12 => ?_
  replace S : St A N w w12 [oB b6 T_Nd (Nd.C Nd.z), oE v10 r7.2, oB b4 T_Term (Term.C (⟨a1.kind, a1.name, a1.other, a1.form, s_1⟩ : Term)), oB b2 T_Checker (Checker.C (⟨a_0⟩ : Checker))] [oT a_0 a0.t, oDTerm s_1 a1.sub, fScope a_2 a2, oEt] := S.store 1 B hw12
  clear B
  refine wd (does_assign rfl) ?_
  refine wl_nil ?_
  refine wc_ret ?_
  refine ⟨_, (rets2 (retOne_agg ag_Nd rfl ((S.blk 0).all _ (Nd.len _)) (Nd.len _)) (retOne_tmp rfl)), ?_⟩
  replace S : St A N w w12 [oE v10 r7.2] [] := S.arr [1] []
  obtain rfl := Option.some.inj H
  exact ⟨v10, rfl, S⟩
 replace H := if_f hc11 H
 refine wc_skip ?_
 refine wc_seq (wc_region ?_)
 refine wd (does_load_agg ag_Checker rfl ((S.blk 3).all _ (Checker.len _)) (Checker.len _)) ?_
 refine wd (does_mv_i rfl) ?_
 refine wd (does_mv_i rfl) ?_
 obtain ⟨r13, er13, H⟩ := bind_ex H
 obtain ⟨B15, MB15, SB15, back⟩ := S.calln 0 ((.z 0 rfl .nil))
 refine wl_call (does_call ca_types_checker_node) (by decide) (types_checker_node_st (a0 := a0) SB15 er13) ?_
 rintro _ w14 ⟨v16, rfl, S2⟩
 replace S : St A N w w14 [oE v16 r13.2, oE v10 r7.2, oB b6 T_Nd (Nd.C Nd.z), oB b4 T_Term (Term.C (⟨a1.kind, a1.name, a1.other, a1.form, s_1⟩ : Term)), oB b2 T_Checker (Checker.C (⟨a_0⟩ : Checker))] [oT a_0 a0.t, oDTerm s_1 a1.sub, fScope a_2 a2, oEt] := back _ _ _ _ S2 rfl
 clear back S2 SB15
 refine wd (does_extract rfl rfl) ?_
 refine wd (does_extract rfl rfl) ?_
 refine wl_store_agg ag_Nd rfl rfl (S.blk 2) (Nd.len _) (by rw [Nd.len]; decide) (Nd.one _) (store_all (Nd.len _)) fun w17 B hw17 zw17 => ?_
 replace S : St A N w w17 [oB b6 T_Nd (Nd.C r13.1), oE v16 r13.2, oE v10 r7.2, oB b4 T_Term (Term.C (⟨a1.kind, a1.name, a1.other, a1.form, s_1⟩ : Term)), oB b2 T_Checker (Checker.C (⟨a_0⟩ : Checker))] [oT a_0 a0.t, oDTerm s_1 a1.sub, fScope a_2 a2, oEt] := S.store 2 B hw17
 clear B
 refine wd (does_assign rfl) ?_
 refine wl_nil ?_
 refine wc_ret ?_
 refine ⟨_, (rets2 (retOne_agg ag_Nd rfl ((S.blk 0).all _ (Nd.len _)) (Nd.len _)) (retOne_tmp rfl)), ?_⟩
 replace S : St A N w w17 [oE v16 r13.2] [] := S.arr [1] []
 obtain rfl := Option.some.inj H
 exact ⟨v16, rfl, S⟩
theorem types_checker_told_gst {rec_types_checker_told : PChecker → PTerm → (List (ByteArray × Int)) → Option (Int × (Option (Int × List Int)))} (hrec_types_checker_told : ∀ {A : Nat → Prop} {N : Oth} {w : World} {a0 : PChecker} {a_0 : Option Addr} {a1 : PTerm} {s_1 : SlV} {a2 : List (ByteArray × Int)} {a_2 : Option Addr} (S : St A N w w [] [oT a_0 a0.t, oDTerm s_1 a1.sub, fScope a_2 a2, oEt]) {r : Int × (Option (Int × List Int))} (H : rec_types_checker_told a0 a1 a2 = some r), Calls PP F_types_checker_told #[.agg (Checker.C (⟨a_0⟩ : Checker)).toArray, .agg (Term.C (⟨a1.kind, a1.name, a1.other, a1.form, s_1⟩ : Term)).toArray, .pointer a_2] w fun e w' => ∃ v, e = .returned v ∧ (∃ vo0 : Value, v = .tuple #[.int .i64 r.1, vo0] ∧ St A N w w' [oE vo0 r.2] [])) {rec_types_checker_checked : PChecker → PTerm → (List (ByteArray × Int)) → Int → Option (Option (Int × List Int))} (hrec_types_checker_checked : ∀ {A : Nat → Prop} {N : Oth} {w : World} {a0 : PChecker} {a_0 : Option Addr} {a1 : PTerm} {s_1 : SlV} {a2 : List (ByteArray × Int)} {a_2 : Option Addr} {a3 : Int} (S : St A N w w [] [oT a_0 a0.t, oDTerm s_1 a1.sub, fScope a_2 a2, oEt]) {r : (Option (Int × List Int))} (H : rec_types_checker_checked a0 a1 a2 a3 = some r), Calls PP F_types_checker_checked #[.agg (Checker.C (⟨a_0⟩ : Checker)).toArray, .agg (Term.C (⟨a1.kind, a1.name, a1.other, a1.form, s_1⟩ : Term)).toArray, .pointer a_2, .int .i64 a3] w fun e w' => ∃ v, e = .returned v ∧ (∃ vo0 : Value, v = vo0 ∧ St A N w w' [oE vo0 r] [])) {A : Nat → Prop} {N : Oth} {w : World} {a0 : PChecker} {a_0 : Option Addr} {a1 : PTerm} {s_1 : SlV} {a2 : List (ByteArray × Int)} {a_2 : Option Addr} (S : St A N w w [] [oT a_0 a0.t, oDTerm s_1 a1.sub, fScope a_2 a2, oEt]) {r : Int × (Option (Int × List Int))} (H : types_checker_told.g rec_types_checker_told rec_types_checker_checked a0 a1 a2 = some r) :
  Calls PP F_types_checker_told #[.agg (Checker.C (⟨a_0⟩ : Checker)).toArray, .agg (Term.C (⟨a1.kind, a1.name, a1.other, a1.form, s_1⟩ : Term)).toArray, .pointer a_2] w fun e w' => ∃ v, e = .returned v ∧ (∃ vo0 : Value, v = .tuple #[.int .i64 r.1, vo0] ∧ St A N w w' [oE vo0 r.2] []) := by
 unfold types_checker_told.g at H
 refine calls_of_wc (n := 175) fn_types_checker_told rfl rfl (by simp) ?_
 refine wc_seq (wc_region ?_)
 refine wl_box_agg rfl (by decide) fun b2 w1 hw1 => ?_
 replace S : St A N w w1 [oB b2 T_Checker (Checker.C (⟨a_0⟩ : Checker))] [oT a_0 a0.t, oDTerm s_1 a1.sub, fScope a_2 a2, oEt] := S.new hw1
 refine wl_box_agg rfl (by decide) fun b4 w3 hw3 => ?_
 replace S : St A N w w3 [oB b4 T_Term (Term.C (⟨a1.kind, a1.name, a1.other, a1.form, s_1⟩ : Term)), oB b2 T_Checker (Checker.C (⟨a_0⟩ : Checker))] [oT a_0 a0.t, oDTerm s_1 a1.sub, fScope a_2 a2, oEt] := S.new hw3
 refine wd (does_as_i rfl) ?_
 refine wd (does_assign rfl) ?_
 refine wl_nil ?_
 refine wc_seq (wc_seq (wc_region ?_))
 refine wd (does_fieldAddr fl_Term_kind rfl (o' := 0) rfl) ?_
 refine wd (does_load on_api_TermKind rfl ((S.blk 0).cell (Term.get_kind _))) ?_
 refine wl_nil ?_
 refine wc_block ?_
 refine wc_seq (wc_region ?_)
 refine wd (does_eq rfl rfl) ?_
 refine wd (does_as_b rfl) ?_
 refine wl_nil ?_
 refine wc_if rfl (fun hc5 => ?_) (fun hc5 => ?_)
 ·replace H := if_t hc5 H
  refine wc_seq (wc_region ?_)
  refine wd (does_mv_p rfl) ?_
  refine wd (does_fieldAddr fl_Term_name rfl (o' := 1) rfl) ?_
  refine wd (does_load on_string rfl ((S.blk 0).cell (Term.get_name _))) ?_
  obtain ⟨r6, er6, H⟩ := bind_ex H
  obtain ⟨B8, MB8, SB8, back⟩ := S.calln 0 ((.z 2 rfl .nil))
  refine wl_call (does_call ca_types_scope_find) (by decide) (types_scope_find_st SB8 er6) ?_
  rintro _ w7 ⟨v9, rfl, S2⟩
  replace S : St A N w w7 [oE v9 r6.2, oB b4 T_Term (Term.C (⟨a1.kind, a1.name, a1.other, a1.form, s_1⟩ : Term)), oB b2 T_Checker (Checker.C (⟨a_0⟩ : Checker))] [oT a_0 a0.t, oDTerm s_1 a1.sub, fScope a_2 a2, oEt] := back _ _ _ _ S2 rfl
  clear back S2 SB8
  refine wd (does_extract rfl rfl) ?_
  refine wd (does_extract rfl rfl) ?_
  refine wd (does_as_i rfl) ?_
  refine wd (does_assign rfl) ?_
  refine wl_nil ?_
  refine wc_ret ?_
  refine ⟨_, (rets2 (retOne_tmp rfl) (retOne_tmp rfl)), ?_⟩
  replace S : St A N w w7 [oE v9 r6.2] [] := S.arr [0] []
  obtain rfl := Option.some.inj H
  exact ⟨v9, rfl, S⟩
 replace H := if_f hc5 H
 refine wc_seq (wc_region ?_)
 refine wd (does_eq rfl rfl) ?_
 refine wd (does_as_b rfl) ?_
 refine wl_nil ?_
 refine wc_if rfl (fun hc10 => ?_) (fun hc10 => ?_)
 ·replace H := if_t hc10 H
  refine wc_seq (wc_region ?_)
  refine wd (does_load_agg ag_Checker rfl ((S.blk 1).all _ (Checker.len _)) (Checker.len _)) ?_
  refine wd (does_load_agg ag_Term rfl ((S.blk 0).all _ (Term.len _)) (Term.len _)) ?_
  refine wd (does_mv_p rfl) ?_
  obtain ⟨r11, er11, H⟩ := bind_ex H
  obtain ⟨B13, MB13, SB13, back⟩ := S.calln 0 ((.z 0 rfl (.z 1 rfl (.z 2 rfl (.z 3 rfl .nil)))))
  refine wl_call (does_call ca_types_checker_head) (by decide) (types_checker_head_gst hrec_types_checker_told (a0 := a0) (a1 := a1) SB13 er11) ?_
  rintro _ w12 ⟨v14, rfl, S2⟩
  replace S : St A N w w12 [oE v14 r11.2, oB b4 T_Term (Term.C (⟨a1.kind, a1.name, a1.other, a1.form, s_1⟩ : Term)), oB b2 T_Checker (Checker.C (⟨a_0⟩ : Checker))] [oT a_0 a0.t, oDTerm s_1 a1.sub, fScope a_2 a2, oEt] := back _ _ _ _ S2 rfl
  clear back S2 SB13
  refine wd (does_mv_t rfl) ?_
  refine wd (does_extract rfl rfl) ?_
  refine wd (does_extract rfl rfl) ?_
  refine wl_alloc ze_Nd (by decide) fun b16 w15 hw15 => ?_
  replace S : St A N w w15 [oB b16 T_Nd (Nd.C Nd.z), oE v14 r11.2, oB b4 T_Term (Term.C (⟨a1.kind, a1.name, a1.other, a1.form, s_1⟩ : Term)), oB b2 T_Checker (Checker.C (⟨a_0⟩ : Checker))] [oT a_0 a0.t, oDTerm s_1 a1.sub, fScope a_2 a2, oEt] := S.new hw15
  refine wl_store_agg ag_Nd rfl rfl (S.blk 0) (Nd.len _) (by rw [Nd.len]; decide) (Nd.one _) (store_all (Nd.len _)) fun w17 B hw17 zw17 => ?_
  replace S : St A N w w17 [oB b16 T_Nd (Nd.C r11.1), oE v14 r11.2, oB b4 T_Term (Term.C (⟨a1.kind, a1.name, a1.other, a1.form, s_1⟩ : Term)), oB b2 T_Checker (Checker.C (⟨a_0⟩ : Checker))] [oT a_0 a0.t, oDTerm s_1 a1.sub, fScope a_2 a2, oEt] := S.store 0 B hw17
  clear B
  refine wd (does_assign rfl) ?_
  refine wl_nil ?_
  refine wc_seq (wc_seq (wc_region ?_))
  refine wd (does_move rfl) ?_
  refine wd (does_neE if_error rfl rfl (S.onO 1)) ?_
  refine wl_nil ?_
  refine wc_if rfl (fun hc18 => ?_) (fun hc18 => ?_)
  ·replace H := if_t hc18 H
   refine wc_seq (wc_region ?_)
   refine wd (does_move rfl) ?_
   refine wd (does_as_i rfl) ?_
   refine wd (does_assign rfl) ?_
   refine wl_nil ?_
   refine wc_ret ?_
   refine ⟨_, (rets2 (retOne_tmp rfl) (retOne_tmp rfl)), ?_⟩
   replace S : St A N w w17 [oE v14 r11.2] [] := S.arr [1] []
   obtain rfl := Option.some.inj H
   exact ⟨v14, rfl, S⟩
  replace H := if_f hc18 H
  refine wc_skip ?_
  refine wc_seq ?_
  obtain ⟨r19, er19, H⟩ := bind_ex H
  refine wc_semi 8 [7]
   (fun i v u => match i with
   | 7 => ∃ v20 : Value, v = v20 ∧ ∃ F, (oE v20 r19).holds u F ∧ ∀ i, F i → w17.heap.size ≤ i
   | _ => True) hmix (by kernel_rfl) (by kernel_rfl) ?_ ?_
  ·intro i v u u' hi hx hv
   match i, hv with
   | 7, ⟨b, e1, F, hb, hl⟩ => exact ⟨b, e1, F, OA.loc _ hb hx (fun _ _ x => x), hl⟩
   | 0, _ => exact trivial
   | 1, _ => exact trivial
   | 2, _ => exact trivial
   | 3, _ => exact trivial
   | 4, _ => exact trivial
   | 5, _ => exact trivial
   | 6, _ => exact trivial
   | _ + 8, _ => exact trivial
  refine wm_does (fun v K => does_fieldAddr fl_Nd_r rfl (o' := 3) rfl) rfl ?_
  refine wm_does (fun v K => does_load on_int rfl (((S.ext K).blk 0).cell (Nd.get_r _))) rfl ?_
  refine wm_does (fun v K => does_load_agg ag_Checker rfl (((S.ext K).blk 3).all _ (Checker.len _)) (Checker.len _)) rfl ?_
  refine wm_does (fun v K => does_load_agg ag_Term rfl (((S.ext K).blk 2).all _ (Term.len _)) (Term.len _)) rfl ?_
  refine wm_does (fun v K => does_mv_p rfl) rfl ?_
  refine wm_does (fun v K => does_fieldAddr fl_Nd_l rfl (o' := 2) rfl) rfl ?_
  refine wm_does (fun v K => does_load on_int rfl (((S.ext K).blk 0).cell (Nd.get_l _))) rfl ?_
  refine wm_newcall (fun g v K G => (have ⟨M, SS⟩ := (S.ext K).lend ((.z 0 rfl (.z 1 rfl (.z 2 rfl (.z 3 rfl .nil))))); ⟨_, _, does_callg ca_types_checker_check (cons2 rfl (cons2 rfl (cons2 rfl (cons2 rfl (cons2 rfl rfl))))), newc (types_checker_check_gst hrec_types_checker_checked (a0 := a0) (a1 := a1) SS er19) fun _ _ ⟨v20, hv, h⟩ => ⟨h.frame, v20, hv, h.newP.elim fun F hF => ⟨F, hF.1, fun i hi => by have := hF.2 i hi; have := K.size; omega⟩⟩⟩)) rfl ?_
  refine wm_nil fun g w21 K hV => ?_
  obtain ⟨v20, hv227, F7, hb7, hf7⟩ := hV 7 rfl (by decide)
  replace S : St A N w w21 [oE v20 r19, oB b16 T_Nd (Nd.C r11.1), oE v14 r11.2, oB b4 T_Term (Term.C (⟨a1.kind, a1.name, a1.other, a1.form, s_1⟩ : Term)), oB b2 T_Checker (Checker.C (⟨a_0⟩ : Checker))] [oT a_0 a0.t, oDTerm s_1 a1.sub, fScope a_2 a2, oEt] := S.add (b := oE v20 r19) K hb7 hf7
  clear K hV
  refine wd (does_as_i rfl) ?_
  refine wd (does_assign hv227) ?_
  refine wl_nil ?_
  refine wc_ret ?_
  refine ⟨_, (rets2 (retOne_tmp rfl) (retOne_tmp rfl)), ?_⟩
  replace S : St A N w w21 [oE v20 r19] [] := S.arr [0] []
  obtain rfl := Option.some.inj H
  exact ⟨v20, rfl, S⟩
 replace H := if_f hc10 H
 refine wc_seq (wc_region ?_)
 refine wd (does_eq rfl rfl) ?_
 refine wd (does_as_b rfl) ?_
 refine wl_nil ?_
 refine wc_if rfl (fun hc23 => ?_) (fun hc23 => ?_)
 ·replace H := if_t hc23 H
  refine wc_seq (wc_region ?_)
  refine wd (does_load_agg ag_Checker rfl ((S.blk 1).all _ (Checker.len _)) (Checker.len _)) ?_
  refine wd (does_load_agg ag_Term rfl ((S.blk 0).all _ (Term.len _)) (Term.len _)) ?_
  refine wd (does_mv_p rfl) ?_
  obtain ⟨r24, er24, H⟩ := bind_ex H
  obtain ⟨B26, MB26, SB26, back⟩ := S.calln 0 ((.z 0 rfl (.z 1 rfl (.z 2 rfl (.z 3 rfl .nil)))))
  refine wl_call (does_call ca_types_checker_head) (by decide) (types_checker_head_gst hrec_types_checker_told (a0 := a0) (a1 := a1) SB26 er24) ?_
  rintro _ w25 ⟨v27, rfl, S2⟩
  replace S : St A N w w25 [oE v27 r24.2, oB b4 T_Term (Term.C (⟨a1.kind, a1.name, a1.other, a1.form, s_1⟩ : Term)), oB b2 T_Checker (Checker.C (⟨a_0⟩ : Checker))] [oT a_0 a0.t, oDTerm s_1 a1.sub, fScope a_2 a2, oEt] := back _ _ _ _ S2 rfl
  clear back S2 SB26
  refine wd (does_mv_t rfl) ?_
  refine wd (does_extract rfl rfl) ?_
  refine wd (does_extract rfl rfl) ?_
  refine wl_alloc ze_Nd (by decide) fun b29 w28 hw28 => ?_
  replace S : St A N w w28 [oB b29 T_Nd (Nd.C Nd.z), oE v27 r24.2, oB b4 T_Term (Term.C (⟨a1.kind, a1.name, a1.other, a1.form, s_1⟩ : Term)), oB b2 T_Checker (Checker.C (⟨a_0⟩ : Checker))] [oT a_0 a0.t, oDTerm s_1 a1.sub, fScope a_2 a2, oEt] := S.new hw28
  refine wl_store_agg ag_Nd rfl rfl (S.blk 0) (Nd.len _) (by rw [Nd.len]; decide) (Nd.one _) (store_all (Nd.len _)) fun w30 B hw30 zw30 => ?_
  replace S : St A N w w30 [oB b29 T_Nd (Nd.C r24.1), oE v27 r24.2, oB b4 T_Term (Term.C (⟨a1.kind, a1.name, a1.other, a1.form, s_1⟩ : Term)), oB b2 T_Checker (Checker.C (⟨a_0⟩ : Checker))] [oT a_0 a0.t, oDTerm s_1 a1.sub, fScope a_2 a2, oEt] := S.store 0 B hw30
  clear B
  refine wd (does_assign rfl) ?_
  refine wl_nil ?_
  refine wc_seq (wc_region ?_)
  refine wd (does_fieldAddr fl_Nd_l rfl (o' := 2) rfl) ?_
  refine wd (does_load on_int rfl ((S.blk 0).cell (Nd.get_l _))) ?_
  refine wd (does_move rfl) ?_
  refine wd (does_as_i rfl) ?_
  refine wd (does_assign rfl) ?_
  refine wl_nil ?_
  refine wc_ret ?_
  refine ⟨_, (rets2 (retOne_tmp rfl) (retOne_tmp rfl)), ?_⟩
  replace S : St A N w w30 [oE v27 r24.2] [] := S.arr [1] []
  obtain rfl := Option.some.inj H
  exact ⟨v27, rfl, S⟩
 replace H := if_f hc23 H
 refine wc_seq (wc_region ?_)
 refine wd (does_eq rfl rfl) ?_
 refine wd (does_as_b rfl) ?_
 refine wl_nil ?_
 refine wc_if rfl (fun hc31 => ?_) (fun hc31 => ?_)
 ·replace H := if_t hc31 H
  refine wc_seq (wc_region ?_)
  refine wd (does_load_agg ag_Checker rfl ((S.blk 1).all _ (Checker.len _)) (Checker.len _)) ?_
  refine wd (does_load_agg ag_Term rfl ((S.blk 0).all _ (Term.len _)) (Term.len _)) ?_
  refine wd (does_mv_p rfl) ?_
  obtain ⟨r32, er32, H⟩ := bind_ex H
  obtain ⟨B34, MB34, SB34, back⟩ := S.calln 0 ((.z 0 rfl (.z 1 rfl (.z 2 rfl (.z 3 rfl .nil)))))
  refine wl_call (does_call ca_types_checker_head) (by decide) (types_checker_head_gst hrec_types_checker_told (a0 := a0) (a1 := a1) SB34 er32) ?_
  rintro _ w33 ⟨v35, rfl, S2⟩
  replace S : St A N w w33 [oE v35 r32.2, oB b4 T_Term (Term.C (⟨a1.kind, a1.name, a1.other, a1.form, s_1⟩ : Term)), oB b2 T_Checker (Checker.C (⟨a_0⟩ : Checker))] [oT a_0 a0.t, oDTerm s_1 a1.sub, fScope a_2 a2, oEt] := back _ _ _ _ S2 rfl
  clear back S2 SB34
  refine wd (does_mv_t rfl) ?_
  refine wd (does_extract rfl rfl) ?_
  refine wd (does_extract rfl rfl) ?_
  refine wl_alloc ze_Nd (by decide) fun b37 w36 hw36 => ?_
  replace S : St A N w w36 [oB b37 T_Nd (Nd.C Nd.z), oE v35 r32.2, oB b4 T_Term (Term.C (⟨a1.kind, a1.name, a1.other, a1.form, s_1⟩ : Term)), oB b2 T_Checker (Checker.C (⟨a_0⟩ : Checker))] [oT a_0 a0.t, oDTerm s_1 a1.sub, fScope a_2 a2, oEt] := S.new hw36
  refine wl_store_agg ag_Nd rfl rfl (S.blk 0) (Nd.len _) (by rw [Nd.len]; decide) (Nd.one _) (store_all (Nd.len _)) fun w38 B hw38 zw38 => ?_
  replace S : St A N w w38 [oB b37 T_Nd (Nd.C r32.1), oE v35 r32.2, oB b4 T_Term (Term.C (⟨a1.kind, a1.name, a1.other, a1.form, s_1⟩ : Term)), oB b2 T_Checker (Checker.C (⟨a_0⟩ : Checker))] [oT a_0 a0.t, oDTerm s_1 a1.sub, fScope a_2 a2, oEt] := S.store 0 B hw38
  clear B
  refine wd (does_assign rfl) ?_
  refine wl_nil ?_
  refine wc_seq (wc_region ?_)
  refine wd (does_fieldAddr fl_Nd_r rfl (o' := 3) rfl) ?_
  refine wd (does_load on_int rfl ((S.blk 0).cell (Nd.get_r _))) ?_
  refine wd (does_move rfl) ?_
  refine wd (does_as_i rfl) ?_
  refine wd (does_assign rfl) ?_
  refine wl_nil ?_
  refine wc_ret ?_
  refine ⟨_, (rets2 (retOne_tmp rfl) (retOne_tmp rfl)), ?_⟩
  replace S : St A N w w38 [oE v35 r32.2] [] := S.arr [1] []
  obtain rfl := Option.some.inj H
  exact ⟨v35, rfl, S⟩
 replace H := if_f hc31 H
 refine wc_seq (wc_region ?_)
 refine wd (does_eq rfl rfl) ?_
 refine wd (does_as_b rfl) ?_
 refine wl_nil ?_
 refine wc_if rfl (fun hc39 => ?_) (fun hc39 => ?_)
 ·replace H := if_t hc39 H
  refine wc_seq (wc_seq (wc_region ?_))
  refine wd (does_fieldAddr fl_Checker_t rfl (o' := 0) rfl) ?_
  refine wd (does_load on_dictum_formula_has rfl ((S.blk 1).cell (Checker.get_t _))) ?_
  refine wd (does_fieldAddr fl_Term_form rfl (o' := 3) rfl) ?_
  refine wd (does_load on_int rfl ((S.blk 0).cell (Term.get_form _))) ?_
  obtain ⟨r40, er40, H⟩ := bind_ex H
  obtain ⟨B42, MB42, SB42, back⟩ := S.calln 0 ((.z 0 rfl .nil))
  refine wl_call (does_call ca_formula_Table_Node) (by decide) (formula_Table_Node_st SB42 er40) ?_
  rintro _ w41 ⟨rfl, S2⟩
  replace S : St A N w w41 [oB b4 T_Term (Term.C (⟨a1.kind, a1.name, a1.other, a1.form, s_1⟩ : Term)), oB b2 T_Checker (Checker.C (⟨a_0⟩ : Checker))] [oT a_0 a0.t, oDTerm s_1 a1.sub, fScope a_2 a2, oEt] := back _ _ _ _ S2 rfl
  clear back S2 SB42
  refine wd (does_mv_t rfl) ?_
  refine wd (does_extract rfl rfl) ?_
  refine wd (does_extract rfl rfl) ?_
  refine wl_alloc ze_Nd (by decide) fun b44 w43 hw43 => ?_
  replace S : St A N w w43 [oB b44 T_Nd (Nd.C Nd.z), oB b4 T_Term (Term.C (⟨a1.kind, a1.name, a1.other, a1.form, s_1⟩ : Term)), oB b2 T_Checker (Checker.C (⟨a_0⟩ : Checker))] [oT a_0 a0.t, oDTerm s_1 a1.sub, fScope a_2 a2, oEt] := S.new hw43
  refine wl_store_agg ag_Nd rfl rfl (S.blk 0) (Nd.len _) (by rw [Nd.len]; decide) (Nd.one _) (store_all (Nd.len _)) fun w45 B hw45 zw45 => ?_
  replace S : St A N w w45 [oB b44 T_Nd (Nd.C r40.1), oB b4 T_Term (Term.C (⟨a1.kind, a1.name, a1.other, a1.form, s_1⟩ : Term)), oB b2 T_Checker (Checker.C (⟨a_0⟩ : Checker))] [oT a_0 a0.t, oDTerm s_1 a1.sub, fScope a_2 a2, oEt] := S.store 0 B hw45
  clear B
  refine wd (does_as_b rfl) ?_
  refine wl_nil ?_
  refine wc_seq (wc_region ?_)
  refine wd (does_mv_b rfl) ?_
  refine wd (does_not rfl) ?_
  refine wl_nil ?_
  refine wc_if rfl (fun hc46 => ?_) (fun hc46 => ?_)
  ·replace H := if_t hc46 H
   refine wc_seq (wc_region ?_)
   refine wd (Does.to (v' := .agg (Refusal.C (⟨31, SlV.nil⟩ : Refusal)).toArray) (does_buildv (vs := [(0, .int .i64 31)]) bu_Refusal (consP rfl rfl) (Bld.one rfl rfl (by rw [Refusal.len]; decide) (Refusal.set_code _ _) Bld.nil)) rfl) ?_
   refine wl_box_agg rfl (by decide) fun b48 w47 hw47 => ?_
   replace S : St A N w w47 [oB b48 T_Refusal (Refusal.C (⟨31, SlV.nil⟩ : Refusal)), oB b44 T_Nd (Nd.C r40.1), oB b4 T_Term (Term.C (⟨a1.kind, a1.name, a1.other, a1.form, s_1⟩ : Term)), oB b2 T_Checker (Checker.C (⟨a_0⟩ : Checker))] [oT a_0 a0.t, oDTerm s_1 a1.sub, fScope a_2 a2, oEt] := S.new hw47
   refine wd (does_makeInterface rfl) ?_
   replace S := S.nil T_int 1 IC
   replace S := S.front 1
   replace S : St A N w w47 [oE (.iface T_P_Refusal (.pointer (some ⟨b48, 0, none⟩))) (some (31, ([] : List Int))), oB b44 T_Nd (Nd.C r40.1), oB b4 T_Term (Term.C (⟨a1.kind, a1.name, a1.other, a1.form, s_1⟩ : Term)), oB b2 T_Checker (Checker.C (⟨a_0⟩ : Checker))] [oT a_0 a0.t, oDTerm s_1 a1.sub, fScope a_2 a2, oEt] := S.mkE
   refine wd (does_as_i rfl) ?_
   refine wd (does_assign rfl) ?_
   refine wl_nil ?_
   refine wc_ret ?_
   refine ⟨_, (rets2 (retOne_tmp rfl) (retOne_tmp rfl)), ?_⟩
   replace S : St A N w w47 [oE (.iface T_P_Refusal (.pointer (some ⟨b48, 0, none⟩))) (some (31, ([] : List Int)))] [] := S.arr [0] []
   obtain rfl := Option.some.inj H
   exact ⟨(.iface T_P_Refusal (.pointer (some ⟨b48, 0, none⟩))), rfl, S⟩
  replace H := if_f hc46 H
  refine wc_skip ?_
  refine wc_seq ?_
  obtain ⟨r49, er49, H⟩ := bind_ex H
  refine wc_semi 8 [7]
   (fun i v u => match i with
   | 7 => ∃ v50 : Value, v = v50 ∧ ∃ F, (oE v50 r49).holds u F ∧ ∀ i, F i → w45.heap.size ≤ i
   | _ => True) hmix (by kernel_rfl) (by kernel_rfl) ?_ ?_
  ·intro i v u u' hi hx hv
   match i, hv with
   | 7, ⟨b, e1, F, hb, hl⟩ => exact ⟨b, e1, F, OA.loc _ hb hx (fun _ _ x => x), hl⟩
   | 0, _ => exact trivial
   | 1, _ => exact trivial
   | 2, _ => exact trivial
   | 3, _ => exact trivial
   | 4, _ => exact trivial
   | 5, _ => exact trivial
   | 6, _ => exact trivial
   | _ + 8, _ => exact trivial
  refine wm_does (fun v K => does_fieldAddr fl_Term_form rfl (o' := 3) rfl) rfl ?_
  refine wm_does (fun v K => does_load on_int rfl (((S.ext K).blk 1).cell (Term.get_form _))) rfl ?_
  refine wm_does (fun v K => does_load_agg ag_Checker rfl (((S.ext K).blk 2).all _ (Checker.len _)) (Checker.len _)) rfl ?_
  refine wm_does (fun v K => does_load_agg ag_Term rfl (((S.ext K).blk 1).all _ (Term.len _)) (Term.len _)) rfl ?_
  refine wm_does (fun v K => does_mv_p rfl) rfl ?_
  refine wm_does (fun v K => does_fieldAddr fl_Term_form rfl (o' := 3) rfl) rfl ?_
  refine wm_does (fun v K => does_load on_int rfl (((S.ext K).blk 1).cell (Term.get_form _))) rfl ?_
  refine wm_newcall (fun g v K G => (have ⟨M, SS⟩ := (S.ext K).lend ((.z 0 rfl (.z 1 rfl (.z 2 rfl (.z 3 rfl .nil))))); ⟨_, _, does_callg ca_types_checker_check (cons2 rfl (cons2 rfl (cons2 rfl (cons2 rfl (cons2 rfl rfl))))), newc (types_checker_check_gst hrec_types_checker_checked (a0 := a0) (a1 := a1) SS er49) fun _ _ ⟨v50, hv, h⟩ => ⟨h.frame, v50, hv, h.newP.elim fun F hF => ⟨F, hF.1, fun i hi => by have := hF.2 i hi; have := K.size; omega⟩⟩⟩)) rfl ?_
  refine wm_nil fun g w51 K hV => ?_
  obtain ⟨v50, hv527, F7, hb7, hf7⟩ := hV 7 rfl (by decide)
  replace S : St A N w w51 [oE v50 r49, oB b44 T_Nd (Nd.C r40.1), oB b4 T_Term (Term.C (⟨a1.kind, a1.name, a1.other, a1.form, s_1⟩ : Term)), oB b2 T_Checker (Checker.C (⟨a_0⟩ : Checker))] [oT a_0 a0.t, oDTerm s_1 a1.sub, fScope a_2 a2, oEt] := S.add (b := oE v50 r49) K hb7 hf7
  clear K hV
  refine wd (does_as_i rfl) ?_
  refine wd (does_assign hv527) ?_
  refine wl_nil ?_
  refine wc_ret ?_
  refine ⟨_, (rets2 (retOne_tmp rfl) (retOne_tmp rfl)), ?_⟩
  replace S : St A N w w51 [oE v50 r49] [] := S.arr [0] []
  obtain rfl := Option.some.inj H
  exact ⟨v50, rfl, S⟩
 replace H := if_f hc39 H
 refine wc_seq (wc_region ?_)
 refine wd (does_eq rfl rfl) ?_
 refine wd (does_as_b rfl) ?_
 refine wl_nil ?_
 refine wc_if rfl (fun hc53 => ?_) (fun hc53 => ?_)
 ·replace H := if_t hc53 H
  refine wc_seq (wc_region ?_)
  refine wd (does_load_agg ag_Checker rfl ((S.blk 1).all _ (Checker.len _)) (Checker.len _)) ?_
  refine wd (does_load_agg ag_Term rfl ((S.blk 0).all _ (Term.len _)) (Term.len _)) ?_
  refine wd (does_mv_p rfl) ?_
  obtain ⟨r54, er54, H⟩ := bind_ex H
  obtain ⟨B56, MB56, SB56, back⟩ := S.calln 0 ((.z 0 rfl (.z 1 rfl (.z 2 rfl (.z 3 rfl .nil)))))
  refine wl_call (does_call ca_types_checker_part) (by decide) (types_checker_part_gst hrec_types_checker_told (a0 := a0) (a1 := a1) SB56 er54) ?_
  rintro _ w55 ⟨v57, rfl, S2⟩
  replace S : St A N w w55 [oE v57 r54.2, oB b4 T_Term (Term.C (⟨a1.kind, a1.name, a1.other, a1.form, s_1⟩ : Term)), oB b2 T_Checker (Checker.C (⟨a_0⟩ : Checker))] [oT a_0 a0.t, oDTerm s_1 a1.sub, fScope a_2 a2, oEt] := back _ _ _ _ S2 rfl
  clear back S2 SB56
  refine wd (does_mv_t rfl) ?_
  refine wd (does_extract rfl rfl) ?_
  refine wd (does_extract rfl rfl) ?_
  refine wd (does_as_i rfl) ?_
  refine wd (does_assign rfl) ?_
  refine wl_nil ?_
  refine wc_seq (wc_seq (wc_region ?_))
  refine wd (does_move rfl) ?_
  refine wd (does_neE if_error rfl rfl (S.onO 0)) ?_
  refine wl_nil ?_
  refine wc_if rfl (fun hc58 => ?_) (fun hc58 => ?_)
  ·replace H := if_t hc58 H
   refine wc_seq (wc_region ?_)
   refine wd (does_move rfl) ?_
   refine wd (does_as_i rfl) ?_
   refine wd (does_assign rfl) ?_
   refine wl_nil ?_
   refine wc_ret ?_
   refine ⟨_, (rets2 (retOne_tmp rfl) (retOne_tmp rfl)), ?_⟩
   replace S : St A N w w55 [oE v57 r54.2] [] := S.arr [0] []
   obtain rfl := Option.some.inj H
   exact ⟨v57, rfl, S⟩
  replace H := if_f hc58 H
  refine wc_skip ?_
  refine wc_seq ?_
  refine wc_ws hmix fun w62 K => ?_
  replace S := S.ext K
  clear K
  refine ws_semi 0 7 [6] (by kernel_rfl) (by decide) (by kernel_rfl)
   (V := fun i v u => match i with
   | 6 => ∃ b : Nat, v = Value.pointer (some ⟨b, 0, none⟩) ∧ Blk u b T_Scope (Scope.C ⟨a1.name, r54.1, a_2⟩) ∧ w62.heap.size ≤ b
   | _ => True) ?_ ?_
  ·intro i v u u' hi hx hv
   match i, hv with
   | 6, ⟨b, e1, hb, hl⟩ => exact ⟨b, e1, hb.ext hx, hl⟩
   | 0, _ => exact trivial
   | 1, _ => exact trivial
   | 2, _ => exact trivial
   | 3, _ => exact trivial
   | 4, _ => exact trivial
   | 5, _ => exact trivial
   | _ + 7, _ => exact trivial
  refine wm_does (fun v K => does_load_agg ag_Checker rfl (((S.ext K).blk 2).all _ (Checker.len _)) (Checker.len _)) rfl ?_
  refine wm_does (fun v K => does_load_agg ag_Term rfl (((S.ext K).blk 1).all _ (Term.len _)) (Term.len _)) rfl ?_
  refine wm_does (fun v K => does_mv_p rfl) rfl ?_
  refine wm_does (fun v K => does_fieldAddr fl_Term_name rfl (o' := 1) rfl) rfl ?_
  refine wm_does (fun v K => does_load on_string rfl (((S.ext K).blk 1).cell (Term.get_name _))) rfl ?_
  refine wm_does (fun v K => does_mv_i rfl) rfl ?_
  refine wm_newcall (fun g v K G => ⟨_, _, does_callg ca_types_scope_with (cons2 rfl (cons2 rfl (cons2 rfl rfl))), newc (types_scope_with_ok _ _ _ _) fun _ _ ⟨b, hv, hx, hb, hl⟩ => ⟨hx, b, hv, hb, by have := K.size; omega⟩⟩) rfl ?_
  refine wm_nil fun g w64 K hV => ?_
  obtain ⟨b63, hv656, hb6, hf6⟩ := hV 6 rfl (by decide)
  replace S : St A N w w64 [oB b63 T_Scope (Scope.C ⟨a1.name, r54.1, a_2⟩), oE v57 r54.2, oB b4 T_Term (Term.C (⟨a1.kind, a1.name, a1.other, a1.form, s_1⟩ : Term)), oB b2 T_Checker (Checker.C (⟨a_0⟩ : Checker))] [oT a_0 a0.t, oDTerm s_1 a1.sub, fScope a_2 a2, oEt] := S.newAt K hb6 hf6
  replace S : St A N w w64 [oE v57 r54.2, oB b4 T_Term (Term.C (⟨a1.kind, a1.name, a1.other, a1.form, s_1⟩ : Term)), oB b2 T_Checker (Checker.C (⟨a_0⟩ : Checker))] [fScope (some ⟨b63, 0, none⟩) ((a1.name, r54.1) :: a2), oT a_0 a0.t, oDTerm s_1 a1.sub, fScope a_2 a2, oEt] := S.pushScope 0 2
  clear K hV
  refine ws_chain 7 8 (by kernel_rfl) (by decide) ?_
  obtain ⟨r66, er66, H⟩ := bind_ex H
  obtain ⟨B68, MB68, SB68, back⟩ := S.calln 0 ((.z 1 rfl (.z 2 rfl (.z 0 rfl (.z 4 rfl .nil)))))
  refine wl_call (does_callg ca_types_checker_part (cons2 rfl (cons2 rfl (cons2 rfl (cons2 hv656 rfl))))) (by decide) (types_checker_part_gst hrec_types_checker_told (a0 := a0) (a1 := a1) SB68 er66) ?_
  rintro _ w67 ⟨v69, rfl, S2⟩
  replace S : St A N w w67 [oE v69 r66.2, oE v57 r54.2, oB b4 T_Term (Term.C (⟨a1.kind, a1.name, a1.other, a1.form, s_1⟩ : Term)), oB b2 T_Checker (Checker.C (⟨a_0⟩ : Checker))] [fScope (some ⟨b63, 0, none⟩) ((a1.name, r54.1) :: a2), oT a_0 a0.t, oDTerm s_1 a1.sub, fScope a_2 a2, oEt] := back _ _ _ _ S2 rfl
  clear back S2 SB68
  refine wl_nil ⟨rfl, ?_⟩
  refine ws_semi 8 10 [] (by kernel_rfl) (by decide) (by kernel_rfl)
   (V := fun i v u => match i with
   | _ => True) ?_ ?_
  ·intro i v u u' hi hx hv
   match i, hv with
   | _, _ => exact trivial
  refine wm_does (fun v K => does_extract rfl rfl) rfl ?_
  refine wm_does (fun v K => does_extract rfl rfl) rfl ?_
  refine wm_nil fun g w70 K hV => ?_
  replace S := S.ext K
  clear K hV
  refine ws_tail 10 (by kernel_rfl) (by decide) ?_
  refine wd (does_as_i rfl) ?_
  refine wd (does_assign rfl) ?_
  refine wl_nil ?_
  refine wc_ret ?_
  refine ⟨_, (rets2 (retOne_tmp rfl) (retOne_tmp rfl)), ?_⟩
  replace S : St A N w w70 [oE v69 r66.2] [] := S.arr [0] []
  obtain rfl := Option.some.inj H
  exact ⟨v69, rfl, S⟩
 replace H := if_f hc53 H
 refine wc_seq (wc_region ?_)
 refine wd (does_eq rfl rfl) ?_
 refine wd (does_as_b rfl) ?_
 refine wl_nil ?_
 refine wc_if rfl (fun hc72 => ?_) (fun hc72 => ?_)
 ·replace H := if_t hc72 H
  refine wc_seq (wc_region ?_)
  refine wd (does_load_agg ag_Checker rfl ((S.blk 1).all _ (Checker.len _)) (Checker.len _)) ?_
  refine wd (does_load_agg ag_Term rfl ((S.blk 0).all _ (Term.len _)) (Term.len _)) ?_
  refine wd (does_mv_p rfl) ?_
  obtain ⟨r73, er73, H⟩ := bind_ex H
  obtain ⟨B75, MB75, SB75, back⟩ := S.calln 0 ((.z 0 rfl (.z 1 rfl (.z 2 rfl (.z 3 rfl .nil)))))
  refine wl_call (does_call ca_types_checker_head) (by decide) (types_checker_head_gst hrec_types_checker_told (a0 := a0) (a1 := a1) SB75 er73) ?_
  rintro _ w74 ⟨v76, rfl, S2⟩
  replace S : St A N w w74 [oE v76 r73.2, oB b4 T_Term (Term.C (⟨a1.kind, a1.name, a1.other, a1.form, s_1⟩ : Term)), oB b2 T_Checker (Checker.C (⟨a_0⟩ : Checker))] [oT a_0 a0.t, oDTerm s_1 a1.sub, fScope a_2 a2, oEt] := back _ _ _ _ S2 rfl
  clear back S2 SB75
  refine wd (does_mv_t rfl) ?_
  refine wd (does_extract rfl rfl) ?_
  refine wd (does_extract rfl rfl) ?_
  refine wl_alloc ze_Nd (by decide) fun b78 w77 hw77 => ?_
  replace S : St A N w w77 [oB b78 T_Nd (Nd.C Nd.z), oE v76 r73.2, oB b4 T_Term (Term.C (⟨a1.kind, a1.name, a1.other, a1.form, s_1⟩ : Term)), oB b2 T_Checker (Checker.C (⟨a_0⟩ : Checker))] [oT a_0 a0.t, oDTerm s_1 a1.sub, fScope a_2 a2, oEt] := S.new hw77
  refine wl_store_agg ag_Nd rfl rfl (S.blk 0) (Nd.len _) (by rw [Nd.len]; decide) (Nd.one _) (store_all (Nd.len _)) fun w79 B hw79 zw79 => ?_
  replace S : St A N w w79 [oB b78 T_Nd (Nd.C r73.1), oE v76 r73.2, oB b4 T_Term (Term.C (⟨a1.kind, a1.name, a1.other, a1.form, s_1⟩ : Term)), oB b2 T_Checker (Checker.C (⟨a_0⟩ : Checker))] [oT a_0 a0.t, oDTerm s_1 a1.sub, fScope a_2 a2, oEt] := S.store 0 B hw79
  clear B
  refine wd (does_assign rfl) ?_
  refine wl_nil ?_
  refine wc_seq (wc_seq (wc_region ?_))
  refine wd (does_move rfl) ?_
  refine wd (does_neE if_error rfl rfl (S.onO 1)) ?_
  refine wl_nil ?_
  refine wc_if rfl (fun hc80 => ?_) (fun hc80 => ?_)
  ·replace H := if_t hc80 H
   refine wc_seq (wc_region ?_)
   refine wd (does_move rfl) ?_
   refine wd (does_as_i rfl) ?_
   refine wd (does_assign rfl) ?_
   refine wl_nil ?_
   refine wc_ret ?_
   refine ⟨_, (rets2 (retOne_tmp rfl) (retOne_tmp rfl)), ?_⟩
   replace S : St A N w w79 [oE v76 r73.2] [] := S.arr [1] []
   obtain rfl := Option.some.inj H
   exact ⟨v76, rfl, S⟩
  replace H := if_f hc80 H
  refine wc_skip ?_
  refine wc_seq ?_
  refine wc_ws hmix fun w84 K => ?_
  replace S := S.ext K
  clear K
  refine ws_semi 0 8 [7] (by kernel_rfl) (by decide) (by kernel_rfl)
   (V := fun i v u => match i with
   | 7 => ∃ b : Nat, v = Value.pointer (some ⟨b, 0, none⟩) ∧ Blk u b T_Scope (Scope.C ⟨a1.name, r73.1.l, a_2⟩) ∧ w84.heap.size ≤ b
   | _ => True) ?_ ?_
  ·intro i v u u' hi hx hv
   match i, hv with
   | 7, ⟨b, e1, hb, hl⟩ => exact ⟨b, e1, hb.ext hx, hl⟩
   | 0, _ => exact trivial
   | 1, _ => exact trivial
   | 2, _ => exact trivial
   | 3, _ => exact trivial
   | 4, _ => exact trivial
   | 5, _ => exact trivial
   | 6, _ => exact trivial
   | _ + 8, _ => exact trivial
  refine wm_does (fun v K => does_load_agg ag_Checker rfl (((S.ext K).blk 3).all _ (Checker.len _)) (Checker.len _)) rfl ?_
  refine wm_does (fun v K => does_load_agg ag_Term rfl (((S.ext K).blk 2).all _ (Term.len _)) (Term.len _)) rfl ?_
  refine wm_does (fun v K => does_mv_p rfl) rfl ?_
  refine wm_does (fun v K => does_fieldAddr fl_Term_name rfl (o' := 1) rfl) rfl ?_
  refine wm_does (fun v K => does_load on_string rfl (((S.ext K).blk 2).cell (Term.get_name _))) rfl ?_
  refine wm_does (fun v K => does_fieldAddr fl_Nd_l rfl (o' := 2) rfl) rfl ?_
  refine wm_does (fun v K => does_load on_int rfl (((S.ext K).blk 0).cell (Nd.get_l _))) rfl ?_
  refine wm_newcall (fun g v K G => ⟨_, _, does_callg ca_types_scope_with (cons2 rfl (cons2 rfl (cons2 rfl rfl))), newc (types_scope_with_ok _ _ _ _) fun _ _ ⟨b, hv, hx, hb, hl⟩ => ⟨hx, b, hv, hb, by have := K.size; omega⟩⟩) rfl ?_
  refine wm_nil fun g w86 K hV => ?_
  obtain ⟨b85, hv877, hb7, hf7⟩ := hV 7 rfl (by decide)
  replace S : St A N w w86 [oB b85 T_Scope (Scope.C ⟨a1.name, r73.1.l, a_2⟩), oB b78 T_Nd (Nd.C r73.1), oE v76 r73.2, oB b4 T_Term (Term.C (⟨a1.kind, a1.name, a1.other, a1.form, s_1⟩ : Term)), oB b2 T_Checker (Checker.C (⟨a_0⟩ : Checker))] [oT a_0 a0.t, oDTerm s_1 a1.sub, fScope a_2 a2, oEt] := S.newAt K hb7 hf7
  replace S : St A N w w86 [oB b78 T_Nd (Nd.C r73.1), oE v76 r73.2, oB b4 T_Term (Term.C (⟨a1.kind, a1.name, a1.other, a1.form, s_1⟩ : Term)), oB b2 T_Checker (Checker.C (⟨a_0⟩ : Checker))] [fScope (some ⟨b85, 0, none⟩) ((a1.name, r73.1.l) :: a2), oT a_0 a0.t, oDTerm s_1 a1.sub, fScope a_2 a2, oEt] := S.pushScope 0 2
  clear K hV
  refine ws_chain 8 10 (by kernel_rfl) (by decide) ?_
  obtain ⟨r88, er88, H⟩ := bind_ex H
  obtain ⟨B90, MB90, SB90, back⟩ := S.calln 0 ((.z 1 rfl (.z 2 rfl (.z 0 rfl (.z 4 rfl .nil)))))
  refine wl_call (does_callg ca_types_checker_part (cons2 rfl (cons2 rfl (cons2 rfl (cons2 hv877 rfl))))) (by decide) (types_checker_part_gst hrec_types_checker_told (a0 := a0) (a1 := a1) SB90 er88) ?_
  rintro _ w89 ⟨v91, rfl, S2⟩
  replace S : St A N w w89 [oE v91 r88.2, oB b78 T_Nd (Nd.C r73.1), oE v76 r73.2, oB b4 T_Term (Term.C (⟨a1.kind, a1.name, a1.other, a1.form, s_1⟩ : Term)), oB b2 T_Checker (Checker.C (⟨a_0⟩ : Checker))] [fScope (some ⟨b85, 0, none⟩) ((a1.name, r73.1.l) :: a2), oT a_0 a0.t, oDTerm s_1 a1.sub, fScope a_2 a2, oEt] := back _ _ _ _ S2 rfl
  clear back S2 SB90
  refine wd (does_mv_t rfl) ?_
  refine wl_nil ⟨rfl, ?_⟩
  refine ws_semi 10 13 [] (by kernel_rfl) (by decide) (by kernel_rfl)
   (V := fun i v u => match i with
   | _ => True) ?_ ?_
  ·intro i v u u' hi hx hv
   match i, hv with
   | _, _ => exact trivial
  refine wm_does (fun v K => does_extract rfl rfl) rfl ?_
  refine wm_does (fun v K => does_extract rfl rfl) rfl ?_
  refine wm_does (fun v K => does_as_i rfl) rfl ?_
  refine wm_nil fun g w92 K hV => ?_
  replace S := S.ext K
  clear K hV
  refine ws_tail 13 (by kernel_rfl) (by decide) ?_
  refine wd (does_assign rfl) ?_
  refine wl_nil ?_
  refine wc_seq (wc_seq (wc_region ?_))
  refine wd (does_move rfl) ?_
  refine wd (does_neE if_error rfl rfl (S.onO 0)) ?_
  refine wl_nil ?_
  refine wc_if rfl (fun hc94 => ?_) (fun hc94 => ?_)
  ·replace H := if_t hc94 H
   refine wc_seq (wc_region ?_)
   refine wd (does_move rfl) ?_
   refine wd (does_as_i rfl) ?_
   refine wd (does_assign rfl) ?_
   refine wl_nil ?_
   refine wc_ret ?_
   refine ⟨_, (rets2 (retOne_tmp rfl) (retOne_tmp rfl)), ?_⟩
   replace S : St A N w w92 [oE v91 r88.2] [] := S.arr [0] []
   obtain rfl := Option.some.inj H
   exact ⟨v91, rfl, S⟩
  replace H := if_f hc94 H
  refine wc_skip ?_
  refine wc_seq ?_
  refine wc_ws hmix fun w98 K => ?_
  replace S := S.ext K
  clear K
  refine ws_semi 0 8 [7] (by kernel_rfl) (by decide) (by kernel_rfl)
   (V := fun i v u => match i with
   | 7 => ∃ b : Nat, v = Value.pointer (some ⟨b, 0, none⟩) ∧ Blk u b T_Scope (Scope.C ⟨a1.other, r73.1.r, a_2⟩) ∧ w98.heap.size ≤ b
   | _ => True) ?_ ?_
  ·intro i v u u' hi hx hv
   match i, hv with
   | 7, ⟨b, e1, hb, hl⟩ => exact ⟨b, e1, hb.ext hx, hl⟩
   | 0, _ => exact trivial
   | 1, _ => exact trivial
   | 2, _ => exact trivial
   | 3, _ => exact trivial
   | 4, _ => exact trivial
   | 5, _ => exact trivial
   | 6, _ => exact trivial
   | _ + 8, _ => exact trivial
  refine wm_does (fun v K => does_load_agg ag_Checker rfl (((S.ext K).blk 4).all _ (Checker.len _)) (Checker.len _)) rfl ?_
  refine wm_does (fun v K => does_load_agg ag_Term rfl (((S.ext K).blk 3).all _ (Term.len _)) (Term.len _)) rfl ?_
  refine wm_does (fun v K => does_mv_p rfl) rfl ?_
  refine wm_does (fun v K => does_fieldAddr fl_Term_other rfl (o' := 2) rfl) rfl ?_
  refine wm_does (fun v K => does_load on_string rfl (((S.ext K).blk 3).cell (Term.get_other _))) rfl ?_
  refine wm_does (fun v K => does_fieldAddr fl_Nd_r rfl (o' := 3) rfl) rfl ?_
  refine wm_does (fun v K => does_load on_int rfl (((S.ext K).blk 1).cell (Nd.get_r _))) rfl ?_
  refine wm_newcall (fun g v K G => ⟨_, _, does_callg ca_types_scope_with (cons2 rfl (cons2 rfl (cons2 rfl rfl))), newc (types_scope_with_ok _ _ _ _) fun _ _ ⟨b, hv, hx, hb, hl⟩ => ⟨hx, b, hv, hb, by have := K.size; omega⟩⟩) rfl ?_
  refine wm_nil fun g w100 K hV => ?_
  obtain ⟨b99, hv1017, hb7, hf7⟩ := hV 7 rfl (by decide)
  replace S : St A N w w100 [oB b99 T_Scope (Scope.C ⟨a1.other, r73.1.r, a_2⟩), oE v91 r88.2, oB b78 T_Nd (Nd.C r73.1), oE v76 r73.2, oB b4 T_Term (Term.C (⟨a1.kind, a1.name, a1.other, a1.form, s_1⟩ : Term)), oB b2 T_Checker (Checker.C (⟨a_0⟩ : Checker))] [fScope (some ⟨b85, 0, none⟩) ((a1.name, r73.1.l) :: a2), oT a_0 a0.t, oDTerm s_1 a1.sub, fScope a_2 a2, oEt] := S.newAt K hb7 hf7
  replace S : St A N w w100 [oE v91 r88.2, oB b78 T_Nd (Nd.C r73.1), oE v76 r73.2, oB b4 T_Term (Term.C (⟨a1.kind, a1.name, a1.other, a1.form, s_1⟩ : Term)), oB b2 T_Checker (Checker.C (⟨a_0⟩ : Checker))] [fScope (some ⟨b99, 0, none⟩) ((a1.other, r73.1.r) :: a2), fScope (some ⟨b85, 0, none⟩) ((a1.name, r73.1.l) :: a2), oT a_0 a0.t, oDTerm s_1 a1.sub, fScope a_2 a2, oEt] := S.pushScope 0 3
  clear K hV
  refine ws_chain 8 10 (by kernel_rfl) (by decide) ?_
  obtain ⟨r102, er102, H⟩ := bind_ex H
  obtain ⟨B104, MB104, SB104, back⟩ := S.calln 0 ((.z 2 rfl (.z 3 rfl (.z 0 rfl (.z 5 rfl .nil)))))
  refine wl_call (does_callg ca_types_checker_part (cons2 rfl (cons2 rfl (cons2 rfl (cons2 hv1017 rfl))))) (by decide) (types_checker_part_gst hrec_types_checker_told (a0 := a0) (a1 := a1) SB104 er102) ?_
  rintro _ w103 ⟨v105, rfl, S2⟩
  replace S : St A N w w103 [oE v105 r102.2, oE v91 r88.2, oB b78 T_Nd (Nd.C r73.1), oE v76 r73.2, oB b4 T_Term (Term.C (⟨a1.kind, a1.name, a1.other, a1.form, s_1⟩ : Term)), oB b2 T_Checker (Checker.C (⟨a_0⟩ : Checker))] [fScope (some ⟨b99, 0, none⟩) ((a1.other, r73.1.r) :: a2), fScope (some ⟨b85, 0, none⟩) ((a1.name, r73.1.l) :: a2), oT a_0 a0.t, oDTerm s_1 a1.sub, fScope a_2 a2, oEt] := back _ _ _ _ S2 rfl
  clear back S2 SB104
  refine wd (does_mv_t rfl) ?_
  refine wl_nil ⟨rfl, ?_⟩
  refine ws_semi 10 13 [] (by kernel_rfl) (by decide) (by kernel_rfl)
   (V := fun i v u => match i with
   | _ => True) ?_ ?_
  ·intro i v u u' hi hx hv
   match i, hv with
   | _, _ => exact trivial
  refine wm_does (fun v K => does_extract rfl rfl) rfl ?_
  refine wm_does (fun v K => does_extract rfl rfl) rfl ?_
  refine wm_does (fun v K => does_as_i rfl) rfl ?_
  refine wm_nil fun g w106 K hV => ?_
  replace S := S.ext K
  clear K hV
  refine ws_tail 13 (by kernel_rfl) (by decide) ?_
  refine wd (does_assign rfl) ?_
  refine wl_nil ?_
  refine wc_seq (wc_seq (wc_region ?_))
  refine wd (does_move rfl) ?_
  refine wd (does_eqE if_error rfl rfl (S.onO 0)) ?_
  refine wd (does_mv_b rfl) ?_
  refine wl_guard (j := 2) (pol := true) rfl rfl rfl (by decide) (fun hg => does_mv_i rfl) (by decide) ?_
  refine wl_guard (j := 2) (pol := true) rfl rfl rfl (by decide) (fun hg => does_mv_i rfl) (by decide) ?_
  refine wl_guard (j := 2) (pol := true) rfl rfl rfl (by decide) (fun hg => does_ne (gv_yes hg) (gv_yes hg)) (by decide) ?_
  refine wd (does_and rfl (fun hp => (gv_yes (and_1 hp)))) ?_
  refine wl_nil ?_
  refine wc_if rfl (fun hc108 => ?_) (fun hc108 => ?_)
  ·replace H := if_t hc108 H
   refine wc_region ?_
   refine wd (Does.to (v' := .agg (Refusal.C (⟨130, SlV.nil⟩ : Refusal)).toArray) (does_buildv (vs := [(0, .int .i64 130)]) bu_Refusal (consP rfl rfl) (Bld.one rfl rfl (by rw [Refusal.len]; decide) (Refusal.set_code _ _) Bld.nil)) rfl) ?_
   refine wl_box_agg rfl (by decide) fun b110 w109 hw109 => ?_
   replace S : St A N w w109 [oB b110 T_Refusal (Refusal.C (⟨130, SlV.nil⟩ : Refusal)), oE v105 r102.2, oE v91 r88.2, oB b78 T_Nd (Nd.C r73.1), oE v76 r73.2, oB b4 T_Term (Term.C (⟨a1.kind, a1.name, a1.other, a1.form, s_1⟩ : Term)), oB b2 T_Checker (Checker.C (⟨a_0⟩ : Checker))] [fScope (some ⟨b99, 0, none⟩) ((a1.other, r73.1.r) :: a2), fScope (some ⟨b85, 0, none⟩) ((a1.name, r73.1.l) :: a2), oT a_0 a0.t, oDTerm s_1 a1.sub, fScope a_2 a2, oEt] := S.new hw109
   refine wd (does_makeInterface rfl) ?_
   replace S := S.nil T_int 1 IC
   replace S := S.front 1
   replace S : St A N w w109 [oE (.iface T_P_Refusal (.pointer (some ⟨b110, 0, none⟩))) (some (130, ([] : List Int))), oE v105 r102.2, oE v91 r88.2, oB b78 T_Nd (Nd.C r73.1), oE v76 r73.2, oB b4 T_Term (Term.C (⟨a1.kind, a1.name, a1.other, a1.form, s_1⟩ : Term)), oB b2 T_Checker (Checker.C (⟨a_0⟩ : Checker))] [fScope (some ⟨b99, 0, none⟩) ((a1.other, r73.1.r) :: a2), fScope (some ⟨b85, 0, none⟩) ((a1.name, r73.1.l) :: a2), oT a_0 a0.t, oDTerm s_1 a1.sub, fScope a_2 a2, oEt] := S.mkE
   refine wd (does_assign rfl) ?_
   refine wl_nil ?_
   refine wc_seq (wc_region ?_)
   refine wd (does_mv_i rfl) ?_
   refine wd (does_move rfl) ?_
   refine wd (does_as_i rfl) ?_
   refine wd (does_assign rfl) ?_
   refine wl_nil ?_
   refine wc_ret ?_
   refine ⟨_, (rets2 (retOne_tmp rfl) (retOne_tmp rfl)), ?_⟩
   replace S : St A N w w109 [oE (.iface T_P_Refusal (.pointer (some ⟨b110, 0, none⟩))) (some (130, ([] : List Int)))] [] := S.arr [0] []
   obtain rfl := Option.some.inj H
   exact ⟨(.iface T_P_Refusal (.pointer (some ⟨b110, 0, none⟩))), rfl, S⟩
  ·replace H := if_f hc108 H
   refine wc_skip ?_
   refine wc_seq (wc_region ?_)
   refine wd (does_mv_i rfl) ?_
   refine wd (does_move rfl) ?_
   refine wd (does_as_i rfl) ?_
   refine wd (does_assign rfl) ?_
   refine wl_nil ?_
   refine wc_ret ?_
   refine ⟨_, (rets2 (retOne_tmp rfl) (retOne_tmp rfl)), ?_⟩
   replace S : St A N w w106 [oE v105 r102.2] [] := S.arr [0] []
   obtain rfl := Option.some.inj H
   exact ⟨v105, rfl, S⟩
 replace H := if_f hc72 H
 refine wc_skip ?_
 refine wc_seq (wc_region ?_)
 refine wd (Does.to (v' := .agg (Refusal.C (⟨132, SlV.nil⟩ : Refusal)).toArray) (does_buildv (vs := [(0, .int .i64 132)]) bu_Refusal (consP rfl rfl) (Bld.one rfl rfl (by rw [Refusal.len]; decide) (Refusal.set_code _ _) Bld.nil)) rfl) ?_
 refine wl_box_agg rfl (by decide) fun b112 w111 hw111 => ?_
 replace S : St A N w w111 [oB b112 T_Refusal (Refusal.C (⟨132, SlV.nil⟩ : Refusal)), oB b4 T_Term (Term.C (⟨a1.kind, a1.name, a1.other, a1.form, s_1⟩ : Term)), oB b2 T_Checker (Checker.C (⟨a_0⟩ : Checker))] [oT a_0 a0.t, oDTerm s_1 a1.sub, fScope a_2 a2, oEt] := S.new hw111
 refine wd (does_makeInterface rfl) ?_
 replace S := S.nil T_int 1 IC
 replace S := S.front 1
 replace S : St A N w w111 [oE (.iface T_P_Refusal (.pointer (some ⟨b112, 0, none⟩))) (some (132, ([] : List Int))), oB b4 T_Term (Term.C (⟨a1.kind, a1.name, a1.other, a1.form, s_1⟩ : Term)), oB b2 T_Checker (Checker.C (⟨a_0⟩ : Checker))] [oT a_0 a0.t, oDTerm s_1 a1.sub, fScope a_2 a2, oEt] := S.mkE
 refine wd (does_as_i rfl) ?_
 refine wd (does_assign rfl) ?_
 refine wl_nil ?_
 refine wc_ret ?_
 refine ⟨_, (rets2 (retOne_tmp rfl) (retOne_tmp rfl)), ?_⟩
 replace S : St A N w w111 [oE (.iface T_P_Refusal (.pointer (some ⟨b112, 0, none⟩))) (some (132, ([] : List Int)))] [] := S.arr [0] []
 obtain rfl := Option.some.inj H
 exact ⟨(.iface T_P_Refusal (.pointer (some ⟨b112, 0, none⟩))), rfl, S⟩
theorem types_checker_checked_gst {rec_types_checker_told : PChecker → PTerm → (List (ByteArray × Int)) → Option (Int × (Option (Int × List Int)))} (hrec_types_checker_told : ∀ {A : Nat → Prop} {N : Oth} {w : World} {a0 : PChecker} {a_0 : Option Addr} {a1 : PTerm} {s_1 : SlV} {a2 : List (ByteArray × Int)} {a_2 : Option Addr} (S : St A N w w [] [oT a_0 a0.t, oDTerm s_1 a1.sub, fScope a_2 a2, oEt]) {r : Int × (Option (Int × List Int))} (H : rec_types_checker_told a0 a1 a2 = some r), Calls PP F_types_checker_told #[.agg (Checker.C (⟨a_0⟩ : Checker)).toArray, .agg (Term.C (⟨a1.kind, a1.name, a1.other, a1.form, s_1⟩ : Term)).toArray, .pointer a_2] w fun e w' => ∃ v, e = .returned v ∧ (∃ vo0 : Value, v = .tuple #[.int .i64 r.1, vo0] ∧ St A N w w' [oE vo0 r.2] [])) {rec_types_checker_checked : PChecker → PTerm → (List (ByteArray × Int)) → Int → Option (Option (Int × List Int))} (hrec_types_checker_checked : ∀ {A : Nat → Prop} {N : Oth} {w : World} {a0 : PChecker} {a_0 : Option Addr} {a1 : PTerm} {s_1 : SlV} {a2 : List (ByteArray × Int)} {a_2 : Option Addr} {a3 : Int} (S : St A N w w [] [oT a_0 a0.t, oDTerm s_1 a1.sub, fScope a_2 a2, oEt]) {r : (Option (Int × List Int))} (H : rec_types_checker_checked a0 a1 a2 a3 = some r), Calls PP F_types_checker_checked #[.agg (Checker.C (⟨a_0⟩ : Checker)).toArray, .agg (Term.C (⟨a1.kind, a1.name, a1.other, a1.form, s_1⟩ : Term)).toArray, .pointer a_2, .int .i64 a3] w fun e w' => ∃ v, e = .returned v ∧ (∃ vo0 : Value, v = vo0 ∧ St A N w w' [oE vo0 r] [])) {A : Nat → Prop} {N : Oth} {w : World} {a0 : PChecker} {a_0 : Option Addr} {a1 : PTerm} {s_1 : SlV} {a2 : List (ByteArray × Int)} {a_2 : Option Addr} {a3 : Int} (S : St A N w w [] [oT a_0 a0.t, oDTerm s_1 a1.sub, fScope a_2 a2, oEt]) {r : (Option (Int × List Int))} (H : types_checker_checked.g rec_types_checker_told rec_types_checker_checked a0 a1 a2 a3 = some r) :
  Calls PP F_types_checker_checked #[.agg (Checker.C (⟨a_0⟩ : Checker)).toArray, .agg (Term.C (⟨a1.kind, a1.name, a1.other, a1.form, s_1⟩ : Term)).toArray, .pointer a_2, .int .i64 a3] w fun e w' => ∃ v, e = .returned v ∧ (∃ vo0 : Value, v = vo0 ∧ St A N w w' [oE vo0 r] []) := by
 unfold types_checker_checked.g at H
 refine calls_of_wc (n := 186) fn_types_checker_checked rfl rfl (by simp) ?_
 refine wc_seq (wc_region ?_)
 refine wl_box_agg rfl (by decide) fun b2 w1 hw1 => ?_
 replace S : St A N w w1 [oB b2 T_Checker (Checker.C (⟨a_0⟩ : Checker))] [oT a_0 a0.t, oDTerm s_1 a1.sub, fScope a_2 a2, oEt] := S.new hw1
 refine wl_box_agg rfl (by decide) fun b4 w3 hw3 => ?_
 replace S : St A N w w3 [oB b4 T_Term (Term.C (⟨a1.kind, a1.name, a1.other, a1.form, s_1⟩ : Term)), oB b2 T_Checker (Checker.C (⟨a_0⟩ : Checker))] [oT a_0 a0.t, oDTerm s_1 a1.sub, fScope a_2 a2, oEt] := S.new hw3
 refine wd (does_assign rfl) ?_
 refine wl_nil ?_
 refine wc_seq (wc_seq (wc_region ?_))
 refine wd (does_fieldAddr fl_Term_kind rfl (o' := 0) rfl) ?_
 refine wd (does_load on_api_TermKind rfl ((S.blk 0).cell (Term.get_kind _))) ?_
 refine wl_nil ?_
 refine wc_block ?_
 refine wc_seq (wc_region ?_)
 refine wd (does_eq rfl rfl) ?_
 refine wd (does_as_b rfl) ?_
 refine wl_nil ?_
 refine wc_if rfl (fun hc5 => ?_) (fun hc5 => ?_)
 ·replace H := if_t hc5 H
  refine wc_seq (wc_region ?_)
  refine wd (does_load_agg ag_Checker rfl ((S.blk 1).all _ (Checker.len _)) (Checker.len _)) ?_
  refine wd (does_mv_i rfl) ?_
  obtain ⟨r6, er6, H⟩ := bind_ex H
  obtain ⟨B8, MB8, SB8, back⟩ := S.calln 0 ((.z 0 rfl .nil))
  refine wl_call (does_call ca_types_checker_node) (by decide) (types_checker_node_st (a0 := a0) SB8 er6) ?_
  rintro _ w7 ⟨v9, rfl, S2⟩
  replace S : St A N w w7 [oE v9 r6.2, oB b4 T_Term (Term.C (⟨a1.kind, a1.name, a1.other, a1.form, s_1⟩ : Term)), oB b2 T_Checker (Checker.C (⟨a_0⟩ : Checker))] [oT a_0 a0.t, oDTerm s_1 a1.sub, fScope a_2 a2, oEt] := back _ _ _ _ S2 rfl
  clear back S2 SB8
  refine wd (does_mv_t rfl) ?_
  refine wd (does_extract rfl rfl) ?_
  refine wd (does_extract rfl rfl) ?_
  refine wl_alloc ze_Nd (by decide) fun b11 w10 hw10 => ?_
  replace S : St A N w w10 [oB b11 T_Nd (Nd.C Nd.z), oE v9 r6.2, oB b4 T_Term (Term.C (⟨a1.kind, a1.name, a1.other, a1.form, s_1⟩ : Term)), oB b2 T_Checker (Checker.C (⟨a_0⟩ : Checker))] [oT a_0 a0.t, oDTerm s_1 a1.sub, fScope a_2 a2, oEt] := S.new hw10
  refine wl_store_agg ag_Nd rfl rfl (S.blk 0) (Nd.len _) (by rw [Nd.len]; decide) (Nd.one _) (store_all (Nd.len _)) fun w12 B hw12 zw12 => ?_
  replace S : St A N w w12 [oB b11 T_Nd (Nd.C r6.1), oE v9 r6.2, oB b4 T_Term (Term.C (⟨a1.kind, a1.name, a1.other, a1.form, s_1⟩ : Term)), oB b2 T_Checker (Checker.C (⟨a_0⟩ : Checker))] [oT a_0 a0.t, oDTerm s_1 a1.sub, fScope a_2 a2, oEt] := S.store 0 B hw12
  clear B
  refine wd (does_assign rfl) ?_
  refine wl_nil ?_
  refine wc_seq (wc_seq (wc_region ?_))
  refine wd (does_move rfl) ?_
  refine wd (does_neE if_error rfl rfl (S.onO 1)) ?_
  refine wl_nil ?_
  refine wc_if rfl (fun hc13 => ?_) (fun hc13 => ?_)
  ·replace H := if_t hc13 H
   refine wc_seq (wc_region ?_)
   refine wd (does_move rfl) ?_
   refine wd (does_assign rfl) ?_
   refine wl_nil ?_
   refine wc_ret ?_
   refine ⟨_, (rets1 (retOne_tmp rfl)), ?_⟩
   replace S : St A N w w12 [oE v9 r6.2] [] := S.arr [1] []
   obtain rfl := Option.some.inj H
   exact ⟨v9, rfl, S⟩
  replace H := if_f hc13 H
  refine wc_skip ?_
  refine wc_seq ?_
  refine wc_semi 10 [7]
   (fun i v u => match i with
   | 7 => ∃ b : Nat, v = Value.pointer (some ⟨b, 0, none⟩) ∧ Blk u b T_Scope (Scope.C ⟨a1.name, r6.1.l, a_2⟩) ∧ w12.heap.size ≤ b
   | _ => True) hmix (by kernel_rfl) (by kernel_rfl) ?_ ?_
  ·intro i v u u' hi hx hv
   match i, hv with
   | 7, ⟨b, e1, hb, hl⟩ => exact ⟨b, e1, hb.ext hx, hl⟩
   | 0, _ => exact trivial
   | 1, _ => exact trivial
   | 2, _ => exact trivial
   | 3, _ => exact trivial
   | 4, _ => exact trivial
   | 5, _ => exact trivial
   | 6, _ => exact trivial
   | _ + 8, _ => exact trivial
  refine wm_does (fun v K => does_load_agg ag_Checker rfl (((S.ext K).blk 3).all _ (Checker.len _)) (Checker.len _)) rfl ?_
  refine wm_does (fun v K => does_load_agg ag_Term rfl (((S.ext K).blk 2).all _ (Term.len _)) (Term.len _)) rfl ?_
  refine wm_does (fun v K => does_mv_p rfl) rfl ?_
  refine wm_does (fun v K => does_fieldAddr fl_Term_name rfl (o' := 1) rfl) rfl ?_
  refine wm_does (fun v K => does_load on_string rfl (((S.ext K).blk 2).cell (Term.get_name _))) rfl ?_
  refine wm_does (fun v K => does_fieldAddr fl_Nd_l rfl (o' := 2) rfl) rfl ?_
  refine wm_does (fun v K => does_load on_int rfl (((S.ext K).blk 0).cell (Nd.get_l _))) rfl ?_
  refine wm_newcall (fun g v K G => ⟨_, _, does_callg ca_types_scope_with (cons2 rfl (cons2 rfl (cons2 rfl rfl))), newc (types_scope_with_ok _ _ _ _) fun _ _ ⟨b, hv, hx, hb, hl⟩ => ⟨hx, b, hv, hb, by have := K.size; omega⟩⟩) rfl ?_
  refine wm_does (fun v K => does_fieldAddr fl_Nd_r rfl (o' := 3) rfl) rfl ?_
  refine wm_does (fun v K => does_load on_int rfl (((S.ext K).blk 0).cell (Nd.get_r _))) rfl ?_
  refine wm_nil fun g w15 K hV => ?_
  obtain ⟨b14, hv167, hb7, hf7⟩ := hV 7 rfl (by decide)
  replace S : St A N w w15 [oB b14 T_Scope (Scope.C ⟨a1.name, r6.1.l, a_2⟩), oB b11 T_Nd (Nd.C r6.1), oE v9 r6.2, oB b4 T_Term (Term.C (⟨a1.kind, a1.name, a1.other, a1.form, s_1⟩ : Term)), oB b2 T_Checker (Checker.C (⟨a_0⟩ : Checker))] [oT a_0 a0.t, oDTerm s_1 a1.sub, fScope a_2 a2, oEt] := S.newAt K hb7 hf7
  replace S : St A N w w15 [oB b11 T_Nd (Nd.C r6.1), oE v9 r6.2, oB b4 T_Term (Term.C (⟨a1.kind, a1.name, a1.other, a1.form, s_1⟩ : Term)), oB b2 T_Checker (Checker.C (⟨a_0⟩ : Checker))] [fScope (some ⟨b14, 0, none⟩) ((a1.name, r6.1.l) :: a2), oT a_0 a0.t, oDTerm s_1 a1.sub, fScope a_2 a2, oEt] := S.pushScope 0 2
  clear K hV
  obtain ⟨r17, er17, H⟩ := bind_ex H
  obtain ⟨B19, MB19, SB19, back⟩ := S.calln 0 ((.z 1 rfl (.z 2 rfl (.z 0 rfl (.z 4 rfl .nil)))))
  refine wl_call (does_callg ca_types_checker_check (cons2 rfl (cons2 rfl (cons2 rfl (cons2 hv167 (cons2 rfl rfl)))))) (by decide) (types_checker_check_gst hrec_types_checker_checked (a0 := a0) (a1 := a1) SB19 er17) ?_
  rintro v20 w18 ⟨_, rfl, S2⟩
  replace S : St A N w w18 [oE v20 r17, oB b11 T_Nd (Nd.C r6.1), oE v9 r6.2, oB b4 T_Term (Term.C (⟨a1.kind, a1.name, a1.other, a1.form, s_1⟩ : Term)), oB b2 T_Checker (Checker.C (⟨a_0⟩ : Checker))] [fScope (some ⟨b14, 0, none⟩) ((a1.name, r6.1.l) :: a2), oT a_0 a0.t, oDTerm s_1 a1.sub, fScope a_2 a2, oEt] := back _ _ _ _ S2 rfl
  clear back S2 SB19
  refine wd (does_assign rfl) ?_
  refine wl_nil ?_
  refine wc_ret ?_
  refine ⟨_, (rets1 (retOne_tmp rfl)), ?_⟩
  replace S : St A N w w18 [oE v20 r17] [] := S.arr [0] []
  obtain rfl := Option.some.inj H
  exact ⟨v20, rfl, S⟩
 replace H := if_f hc5 H
 refine wc_seq (wc_region ?_)
 refine wd (does_eq rfl rfl) ?_
 refine wd (does_as_b rfl) ?_
 refine wl_nil ?_
 refine wc_if rfl (fun hc21 => ?_) (fun hc21 => ?_)
 ·replace H := if_t hc21 H
  refine wc_seq (wc_region ?_)
  refine wd (does_load_agg ag_Checker rfl ((S.blk 1).all _ (Checker.len _)) (Checker.len _)) ?_
  refine wd (does_mv_i rfl) ?_
  obtain ⟨r22, er22, H⟩ := bind_ex H
  obtain ⟨B24, MB24, SB24, back⟩ := S.calln 0 ((.z 0 rfl .nil))
  refine wl_call (does_call ca_types_checker_node) (by decide) (types_checker_node_st (a0 := a0) SB24 er22) ?_
  rintro _ w23 ⟨v25, rfl, S2⟩
  replace S : St A N w w23 [oE v25 r22.2, oB b4 T_Term (Term.C (⟨a1.kind, a1.name, a1.other, a1.form, s_1⟩ : Term)), oB b2 T_Checker (Checker.C (⟨a_0⟩ : Checker))] [oT a_0 a0.t, oDTerm s_1 a1.sub, fScope a_2 a2, oEt] := back _ _ _ _ S2 rfl
  clear back S2 SB24
  refine wd (does_mv_t rfl) ?_
  refine wd (does_extract rfl rfl) ?_
  refine wd (does_extract rfl rfl) ?_
  refine wl_alloc ze_Nd (by decide) fun b27 w26 hw26 => ?_
  replace S : St A N w w26 [oB b27 T_Nd (Nd.C Nd.z), oE v25 r22.2, oB b4 T_Term (Term.C (⟨a1.kind, a1.name, a1.other, a1.form, s_1⟩ : Term)), oB b2 T_Checker (Checker.C (⟨a_0⟩ : Checker))] [oT a_0 a0.t, oDTerm s_1 a1.sub, fScope a_2 a2, oEt] := S.new hw26
  refine wl_store_agg ag_Nd rfl rfl (S.blk 0) (Nd.len _) (by rw [Nd.len]; decide) (Nd.one _) (store_all (Nd.len _)) fun w28 B hw28 zw28 => ?_
  replace S : St A N w w28 [oB b27 T_Nd (Nd.C r22.1), oE v25 r22.2, oB b4 T_Term (Term.C (⟨a1.kind, a1.name, a1.other, a1.form, s_1⟩ : Term)), oB b2 T_Checker (Checker.C (⟨a_0⟩ : Checker))] [oT a_0 a0.t, oDTerm s_1 a1.sub, fScope a_2 a2, oEt] := S.store 0 B hw28
  clear B
  refine wd (does_assign rfl) ?_
  refine wl_nil ?_
  refine wc_seq (wc_seq (wc_region ?_))
  refine wd (does_move rfl) ?_
  refine wd (does_neE if_error rfl rfl (S.onO 1)) ?_
  refine wl_nil ?_
  refine wc_if rfl (fun hc29 => ?_) (fun hc29 => ?_)
  ·replace H := if_t hc29 H
   refine wc_seq (wc_region ?_)
   refine wd (does_move rfl) ?_
   refine wd (does_assign rfl) ?_
   refine wl_nil ?_
   refine wc_ret ?_
   refine ⟨_, (rets1 (retOne_tmp rfl)), ?_⟩
   replace S : St A N w w28 [oE v25 r22.2] [] := S.arr [1] []
   obtain rfl := Option.some.inj H
   exact ⟨v25, rfl, S⟩
  replace H := if_f hc29 H
  refine wc_skip ?_
  refine wc_seq (wc_seq (wc_region ?_))
  refine wd (does_load_agg ag_Checker rfl ((S.blk 3).all _ (Checker.len _)) (Checker.len _)) ?_
  refine wd (does_load_agg ag_Term rfl ((S.blk 2).all _ (Term.len _)) (Term.len _)) ?_
  refine wd (does_mv_p rfl) ?_
  refine wd (does_fieldAddr fl_Nd_l rfl (o' := 2) rfl) ?_
  refine wd (does_load on_int rfl ((S.blk 0).cell (Nd.get_l _))) ?_
  obtain ⟨r30, er30, H⟩ := bind_ex H
  obtain ⟨B32, MB32, SB32, back⟩ := S.calln 0 ((.z 0 rfl (.z 1 rfl (.z 2 rfl (.z 3 rfl .nil)))))
  refine wl_call (does_call ca_types_checker_check) (by decide) (types_checker_check_gst hrec_types_checker_checked (a0 := a0) (a1 := a1) SB32 er30) ?_
  rintro v33 w31 ⟨_, rfl, S2⟩
  replace S : St A N w w31 [oE v33 r30, oB b27 T_Nd (Nd.C r22.1), oE v25 r22.2, oB b4 T_Term (Term.C (⟨a1.kind, a1.name, a1.other, a1.form, s_1⟩ : Term)), oB b2 T_Checker (Checker.C (⟨a_0⟩ : Checker))] [oT a_0 a0.t, oDTerm s_1 a1.sub, fScope a_2 a2, oEt] := back _ _ _ _ S2 rfl
  clear back S2 SB32
  refine wd (does_assign rfl) ?_
  refine wl_nil ?_
  refine wc_seq (wc_region ?_)
  refine wd (does_move rfl) ?_
  refine wd (does_neE if_error rfl rfl (S.onO 0)) ?_
  refine wl_nil ?_
  refine wc_if rfl (fun hc34 => ?_) (fun hc34 => ?_)
  ·replace H := if_t hc34 H
   refine wc_seq (wc_region ?_)
   refine wd (does_move rfl) ?_
   refine wd (does_assign rfl) ?_
   refine wl_nil ?_
   refine wc_ret ?_
   refine ⟨_, (rets1 (retOne_tmp rfl)), ?_⟩
   replace S : St A N w w31 [oE v33 r30] [] := S.arr [0] []
   obtain rfl := Option.some.inj H
   exact ⟨v33, rfl, S⟩
  replace H := if_f hc34 H
  refine wc_skip ?_
  refine wc_seq (wc_region ?_)
  refine wd (does_load_agg ag_Checker rfl ((S.blk 4).all _ (Checker.len _)) (Checker.len _)) ?_
  refine wd (does_load_agg ag_Term rfl ((S.blk 3).all _ (Term.len _)) (Term.len _)) ?_
  refine wd (does_mv_p rfl) ?_
  refine wd (does_fieldAddr fl_Nd_r rfl (o' := 3) rfl) ?_
  refine wd (does_load on_int rfl ((S.blk 1).cell (Nd.get_r _))) ?_
  obtain ⟨r35, er35, H⟩ := bind_ex H
  obtain ⟨B37, MB37, SB37, back⟩ := S.calln 0 ((.z 0 rfl (.z 1 rfl (.z 2 rfl (.z 3 rfl .nil)))))
  refine wl_call (does_call ca_types_checker_check) (by decide) (types_checker_check_gst hrec_types_checker_checked (a0 := a0) (a1 := a1) SB37 er35) ?_
  rintro v38 w36 ⟨_, rfl, S2⟩
  replace S : St A N w w36 [oE v38 r35, oE v33 r30, oB b27 T_Nd (Nd.C r22.1), oE v25 r22.2, oB b4 T_Term (Term.C (⟨a1.kind, a1.name, a1.other, a1.form, s_1⟩ : Term)), oB b2 T_Checker (Checker.C (⟨a_0⟩ : Checker))] [oT a_0 a0.t, oDTerm s_1 a1.sub, fScope a_2 a2, oEt] := back _ _ _ _ S2 rfl
  clear back S2 SB37
  refine wd (does_assign rfl) ?_
  refine wl_nil ?_
  refine wc_ret ?_
  refine ⟨_, (rets1 (retOne_tmp rfl)), ?_⟩
  replace S : St A N w w36 [oE v38 r35] [] := S.arr [0] []
  obtain rfl := Option.some.inj H
  exact ⟨v38, rfl, S⟩
 replace H := if_f hc21 H
 refine wc_seq (wc_seq (wc_region ?_))
 refine wd (does_eq rfl rfl) ?_
 refine wd (does_as_b rfl) ?_
 refine wl_nil ?_
 obtain ⟨o39, e39, Ho39⟩ := bind_ex H
 replace H := e39; clear e39
 refine wc_cutq [75, 77] (fun fr W => fr 75 = .bool o39 ∧ St A N w W [oB b4 T_Term (Term.C (⟨a1.kind, a1.name, a1.other, a1.form, s_1⟩ : Term)), oB b2 T_Checker (Checker.C (⟨a_0⟩ : Checker))] [oT a_0 a0.t, oDTerm s_1 a1.sub, fScope a_2 a2, oEt]) ?_ ?_
 ·refine wc_if rfl (fun hc40 => ?_) (fun hc40 => ?_)
  ·replace H := if_t hc40 H
   refine wc_skip ?_
   obtain rfl := Option.some.inj H
   exact ⟨rfl, (Dif.refl _ _), rfl, S⟩
  ·replace H := if_f hc40 H
   refine wc_region ?_
   refine wd (does_eq rfl rfl) ?_
   refine wd (does_as_b rfl) ?_
   refine wl_nil ?_
   obtain rfl := Option.some.inj H
   exact ⟨rfl, (((Dif.refl _ _).upd rfl _).upd rfl _), rfl, S⟩
 rintro g41 u42 ⟨p39_75, S⟩
 have H := Ho39
 refine wc_if p39_75 (fun hc43 => ?_) (fun hc43 => ?_)
 ·replace H := if_t hc43 H
  refine wc_seq (wc_region ?_)
  refine wd (does_load_agg ag_Checker rfl ((S.blk 1).all _ (Checker.len _)) (Checker.len _)) ?_
  refine wd (does_mv_i rfl) ?_
  obtain ⟨r44, er44, H⟩ := bind_ex H
  obtain ⟨B46, MB46, SB46, back⟩ := S.calln 0 ((.z 0 rfl .nil))
  refine wl_call (does_call ca_types_checker_node) (by decide) (types_checker_node_st (a0 := a0) SB46 er44) ?_
  rintro _ w45 ⟨v47, rfl, S2⟩
  replace S : St A N w w45 [oE v47 r44.2, oB b4 T_Term (Term.C (⟨a1.kind, a1.name, a1.other, a1.form, s_1⟩ : Term)), oB b2 T_Checker (Checker.C (⟨a_0⟩ : Checker))] [oT a_0 a0.t, oDTerm s_1 a1.sub, fScope a_2 a2, oEt] := back _ _ _ _ S2 rfl
  clear back S2 SB46
  refine wd (does_mv_t rfl) ?_
  refine wd (does_extract rfl rfl) ?_
  refine wd (does_extract rfl rfl) ?_
  refine wl_alloc ze_Nd (by decide) fun b49 w48 hw48 => ?_
  replace S : St A N w w48 [oB b49 T_Nd (Nd.C Nd.z), oE v47 r44.2, oB b4 T_Term (Term.C (⟨a1.kind, a1.name, a1.other, a1.form, s_1⟩ : Term)), oB b2 T_Checker (Checker.C (⟨a_0⟩ : Checker))] [oT a_0 a0.t, oDTerm s_1 a1.sub, fScope a_2 a2, oEt] := S.new hw48
  refine wl_store_agg ag_Nd rfl rfl (S.blk 0) (Nd.len _) (by rw [Nd.len]; decide) (Nd.one _) (store_all (Nd.len _)) fun w50 B hw50 zw50 => ?_
  replace S : St A N w w50 [oB b49 T_Nd (Nd.C r44.1), oE v47 r44.2, oB b4 T_Term (Term.C (⟨a1.kind, a1.name, a1.other, a1.form, s_1⟩ : Term)), oB b2 T_Checker (Checker.C (⟨a_0⟩ : Checker))] [oT a_0 a0.t, oDTerm s_1 a1.sub, fScope a_2 a2, oEt] := S.store 0 B hw50
  clear B
  refine wd (does_assign rfl) ?_
  refine wl_nil ?_
  refine wc_seq (wc_seq (wc_region ?_))
  refine wd (does_move rfl) ?_
  refine wd (does_neE if_error rfl rfl (S.onO 1)) ?_
  refine wl_nil ?_
  refine wc_if rfl (fun hc51 => ?_) (fun hc51 => ?_)
  ·replace H := if_t hc51 H
   refine wc_seq (wc_region ?_)
   refine wd (does_move rfl) ?_
   refine wd (does_assign rfl) ?_
   refine wl_nil ?_
   refine wc_ret ?_
   refine ⟨_, (rets1 (retOne_tmp rfl)), ?_⟩
   replace S : St A N w w50 [oE v47 r44.2] [] := S.arr [1] []
   obtain rfl := Option.some.inj H
   exact ⟨v47, rfl, S⟩
  replace H := if_f hc51 H
  refine wc_skip ?_
  refine wc_seq (wc_seq (wc_region ?_))
  refine wd (does_fieldAddr fl_Term_kind rfl (o' := 0) rfl) ?_
  refine wd (does_load on_api_TermKind rfl ((S.blk 2).cell (Term.get_kind _))) ?_
  refine wd (does_eq rfl rfl) ?_
  refine wl_nil ?_
  refine wc_if rfl (fun hc52 => ?_) (fun hc52 => ?_)
  ·replace H := if_t hc52 H
   refine wc_seq (wc_region ?_)
   refine wd (does_load_agg ag_Checker rfl ((S.blk 3).all _ (Checker.len _)) (Checker.len _)) ?_
   refine wd (does_load_agg ag_Term rfl ((S.blk 2).all _ (Term.len _)) (Term.len _)) ?_
   refine wd (does_mv_p rfl) ?_
   refine wd (does_fieldAddr fl_Nd_l rfl (o' := 2) rfl) ?_
   refine wd (does_load on_int rfl ((S.blk 0).cell (Nd.get_l _))) ?_
   obtain ⟨r53, er53, H⟩ := bind_ex H
   obtain ⟨B55, MB55, SB55, back⟩ := S.calln 0 ((.z 0 rfl (.z 1 rfl (.z 2 rfl (.z 3 rfl .nil)))))
   refine wl_call (does_call ca_types_checker_check) (by decide) (types_checker_check_gst hrec_types_checker_checked (a0 := a0) (a1 := a1) SB55 er53) ?_
   rintro v56 w54 ⟨_, rfl, S2⟩
   replace S : St A N w w54 [oE v56 r53, oB b49 T_Nd (Nd.C r44.1), oE v47 r44.2, oB b4 T_Term (Term.C (⟨a1.kind, a1.name, a1.other, a1.form, s_1⟩ : Term)), oB b2 T_Checker (Checker.C (⟨a_0⟩ : Checker))] [oT a_0 a0.t, oDTerm s_1 a1.sub, fScope a_2 a2, oEt] := back _ _ _ _ S2 rfl
   clear back S2 SB55
   refine wd (does_assign rfl) ?_
   refine wl_nil ?_
   refine wc_ret ?_
   refine ⟨_, (rets1 (retOne_tmp rfl)), ?_⟩
   replace S : St A N w w54 [oE v56 r53] [] := S.arr [0] []
   obtain rfl := Option.some.inj H
   exact ⟨v56, rfl, S⟩
  replace H := if_f hc52 H
  refine wc_skip ?_
  refine wc_seq (wc_region ?_)
  refine wd (does_load_agg ag_Checker rfl ((S.blk 3).all _ (Checker.len _)) (Checker.len _)) ?_
  refine wd (does_load_agg ag_Term rfl ((S.blk 2).all _ (Term.len _)) (Term.len _)) ?_
  refine wd (does_mv_p rfl) ?_
  refine wd (does_fieldAddr fl_Nd_r rfl (o' := 3) rfl) ?_
  refine wd (does_load on_int rfl ((S.blk 0).cell (Nd.get_r _))) ?_
  obtain ⟨r57, er57, H⟩ := bind_ex H
  obtain ⟨B59, MB59, SB59, back⟩ := S.calln 0 ((.z 0 rfl (.z 1 rfl (.z 2 rfl (.z 3 rfl .nil)))))
  refine wl_call (does_call ca_types_checker_check) (by decide) (types_checker_check_gst hrec_types_checker_checked (a0 := a0) (a1 := a1) SB59 er57) ?_
  rintro v60 w58 ⟨_, rfl, S2⟩
  replace S : St A N w w58 [oE v60 r57, oB b49 T_Nd (Nd.C r44.1), oE v47 r44.2, oB b4 T_Term (Term.C (⟨a1.kind, a1.name, a1.other, a1.form, s_1⟩ : Term)), oB b2 T_Checker (Checker.C (⟨a_0⟩ : Checker))] [oT a_0 a0.t, oDTerm s_1 a1.sub, fScope a_2 a2, oEt] := back _ _ _ _ S2 rfl
  clear back S2 SB59
  refine wd (does_assign rfl) ?_
  refine wl_nil ?_
  refine wc_ret ?_
  refine ⟨_, (rets1 (retOne_tmp rfl)), ?_⟩
  replace S : St A N w w58 [oE v60 r57] [] := S.arr [0] []
  obtain rfl := Option.some.inj H
  exact ⟨v60, rfl, S⟩
 replace H := if_f hc43 H
 refine wc_seq (wc_region ?_)
 refine wd (does_eq rfl rfl) ?_
 refine wd (does_as_b rfl) ?_
 refine wl_nil ?_
 refine wc_if rfl (fun hc61 => ?_) (fun hc61 => ?_)
 ·replace H := if_t hc61 H
  refine wc_seq (wc_region ?_)
  refine wd (does_load_agg ag_Checker rfl ((S.blk 1).all _ (Checker.len _)) (Checker.len _)) ?_
  refine wd (does_load_agg ag_Term rfl ((S.blk 0).all _ (Term.len _)) (Term.len _)) ?_
  refine wd (does_mv_p rfl) ?_
  obtain ⟨r62, er62, H⟩ := bind_ex H
  obtain ⟨B64, MB64, SB64, back⟩ := S.calln 0 ((.z 0 rfl (.z 1 rfl (.z 2 rfl (.z 3 rfl .nil)))))
  refine wl_call (does_call ca_types_checker_head) (by decide) (types_checker_head_gst hrec_types_checker_told (a0 := a0) (a1 := a1) SB64 er62) ?_
  rintro _ w63 ⟨v65, rfl, S2⟩
  replace S : St A N w w63 [oE v65 r62.2, oB b4 T_Term (Term.C (⟨a1.kind, a1.name, a1.other, a1.form, s_1⟩ : Term)), oB b2 T_Checker (Checker.C (⟨a_0⟩ : Checker))] [oT a_0 a0.t, oDTerm s_1 a1.sub, fScope a_2 a2, oEt] := back _ _ _ _ S2 rfl
  clear back S2 SB64
  refine wd (does_mv_t rfl) ?_
  refine wd (does_extract rfl rfl) ?_
  refine wd (does_extract rfl rfl) ?_
  refine wl_alloc ze_Nd (by decide) fun b67 w66 hw66 => ?_
  replace S : St A N w w66 [oB b67 T_Nd (Nd.C Nd.z), oE v65 r62.2, oB b4 T_Term (Term.C (⟨a1.kind, a1.name, a1.other, a1.form, s_1⟩ : Term)), oB b2 T_Checker (Checker.C (⟨a_0⟩ : Checker))] [oT a_0 a0.t, oDTerm s_1 a1.sub, fScope a_2 a2, oEt] := S.new hw66
  refine wl_store_agg ag_Nd rfl rfl (S.blk 0) (Nd.len _) (by rw [Nd.len]; decide) (Nd.one _) (store_all (Nd.len _)) fun w68 B hw68 zw68 => ?_
  replace S : St A N w w68 [oB b67 T_Nd (Nd.C r62.1), oE v65 r62.2, oB b4 T_Term (Term.C (⟨a1.kind, a1.name, a1.other, a1.form, s_1⟩ : Term)), oB b2 T_Checker (Checker.C (⟨a_0⟩ : Checker))] [oT a_0 a0.t, oDTerm s_1 a1.sub, fScope a_2 a2, oEt] := S.store 0 B hw68
  clear B
  refine wd (does_assign rfl) ?_
  refine wl_nil ?_
  refine wc_seq (wc_seq (wc_region ?_))
  refine wd (does_move rfl) ?_
  refine wd (does_neE if_error rfl rfl (S.onO 1)) ?_
  refine wl_nil ?_
  refine wc_if rfl (fun hc69 => ?_) (fun hc69 => ?_)
  ·replace H := if_t hc69 H
   refine wc_seq (wc_region ?_)
   refine wd (does_move rfl) ?_
   refine wd (does_assign rfl) ?_
   refine wl_nil ?_
   refine wc_ret ?_
   refine ⟨_, (rets1 (retOne_tmp rfl)), ?_⟩
   replace S : St A N w w68 [oE v65 r62.2] [] := S.arr [1] []
   obtain rfl := Option.some.inj H
   exact ⟨v65, rfl, S⟩
  replace H := if_f hc69 H
  refine wc_skip ?_
  refine wc_seq ?_
  refine wc_seq ?_
  refine wc_semi 9 [7]
   (fun i v u => match i with
   | 7 => ∃ b : Nat, v = Value.pointer (some ⟨b, 0, none⟩) ∧ Blk u b T_Scope (Scope.C ⟨a1.name, r62.1.l, a_2⟩) ∧ w68.heap.size ≤ b
   | _ => True) hmix (by kernel_rfl) (by kernel_rfl) ?_ ?_
  ·intro i v u u' hi hx hv
   match i, hv with
   | 7, ⟨b, e1, hb, hl⟩ => exact ⟨b, e1, hb.ext hx, hl⟩
   | 0, _ => exact trivial
   | 1, _ => exact trivial
   | 2, _ => exact trivial
   | 3, _ => exact trivial
   | 4, _ => exact trivial
   | 5, _ => exact trivial
   | 6, _ => exact trivial
   | _ + 8, _ => exact trivial
  refine wm_does (fun v K => does_load_agg ag_Checker rfl (((S.ext K).blk 3).all _ (Checker.len _)) (Checker.len _)) rfl ?_
  refine wm_does (fun v K => does_load_agg ag_Term rfl (((S.ext K).blk 2).all _ (Term.len _)) (Term.len _)) rfl ?_
  refine wm_does (fun v K => does_mv_p rfl) rfl ?_
  refine wm_does (fun v K => does_fieldAddr fl_Term_name rfl (o' := 1) rfl) rfl ?_
  refine wm_does (fun v K => does_load on_string rfl (((S.ext K).blk 2).cell (Term.get_name _))) rfl ?_
  refine wm_does (fun v K => does_fieldAddr fl_Nd_l rfl (o' := 2) rfl) rfl ?_
  refine wm_does (fun v K => does_load on_int rfl (((S.ext K).blk 0).cell (Nd.get_l _))) rfl ?_
  refine wm_newcall (fun g v K G => ⟨_, _, does_callg ca_types_scope_with (cons2 rfl (cons2 rfl (cons2 rfl rfl))), newc (types_scope_with_ok _ _ _ _) fun _ _ ⟨b, hv, hx, hb, hl⟩ => ⟨hx, b, hv, hb, by have := K.size; omega⟩⟩) rfl ?_
  refine wm_does (fun v K => does_mv_i rfl) rfl ?_
  refine wm_nil fun g w71 K hV => ?_
  obtain ⟨b70, hv727, hb7, hf7⟩ := hV 7 rfl (by decide)
  replace S : St A N w w71 [oB b70 T_Scope (Scope.C ⟨a1.name, r62.1.l, a_2⟩), oB b67 T_Nd (Nd.C r62.1), oE v65 r62.2, oB b4 T_Term (Term.C (⟨a1.kind, a1.name, a1.other, a1.form, s_1⟩ : Term)), oB b2 T_Checker (Checker.C (⟨a_0⟩ : Checker))] [oT a_0 a0.t, oDTerm s_1 a1.sub, fScope a_2 a2, oEt] := S.newAt K hb7 hf7
  replace S : St A N w w71 [oB b67 T_Nd (Nd.C r62.1), oE v65 r62.2, oB b4 T_Term (Term.C (⟨a1.kind, a1.name, a1.other, a1.form, s_1⟩ : Term)), oB b2 T_Checker (Checker.C (⟨a_0⟩ : Checker))] [fScope (some ⟨b70, 0, none⟩) ((a1.name, r62.1.l) :: a2), oT a_0 a0.t, oDTerm s_1 a1.sub, fScope a_2 a2, oEt] := S.pushScope 0 2
  clear K hV
  obtain ⟨r73, er73, H⟩ := bind_ex H
  obtain ⟨B75, MB75, SB75, back⟩ := S.calln 0 ((.z 1 rfl (.z 2 rfl (.z 0 rfl (.z 4 rfl .nil)))))
  refine wl_call (does_callg ca_types_checker_check (cons2 rfl (cons2 rfl (cons2 rfl (cons2 hv727 (cons2 rfl rfl)))))) (by decide) (types_checker_check_gst hrec_types_checker_checked (a0 := a0) (a1 := a1) SB75 er73) ?_
  rintro v76 w74 ⟨_, rfl, S2⟩
  replace S : St A N w w74 [oE v76 r73, oB b67 T_Nd (Nd.C r62.1), oE v65 r62.2, oB b4 T_Term (Term.C (⟨a1.kind, a1.name, a1.other, a1.form, s_1⟩ : Term)), oB b2 T_Checker (Checker.C (⟨a_0⟩ : Checker))] [fScope (some ⟨b70, 0, none⟩) ((a1.name, r62.1.l) :: a2), oT a_0 a0.t, oDTerm s_1 a1.sub, fScope a_2 a2, oEt] := back _ _ _ _ S2 rfl
  clear back S2 SB75
  refine wd (does_assign rfl) ?_
  refine wl_nil ?_
  refine wc_seq (wc_region ?_)
  refine wd (does_move rfl) ?_
  refine wd (does_neE if_error rfl rfl (S.onO 0)) ?_
  refine wl_nil ?_
  refine wc_if rfl (fun hc77 => ?_) (fun hc77 => ?_)
  ·replace H := if_t hc77 H
   refine wc_seq (wc_region ?_)
   refine wd (does_move rfl) ?_
   refine wd (does_assign rfl) ?_
   refine wl_nil ?_
   refine wc_ret ?_
   refine ⟨_, (rets1 (retOne_tmp rfl)), ?_⟩
   replace S : St A N w w74 [oE v76 r73] [] := S.arr [0] []
   obtain rfl := Option.some.inj H
   exact ⟨v76, rfl, S⟩
  replace H := if_f hc77 H
  refine wc_skip ?_
  refine wc_seq ?_
  refine wc_semi 9 [7]
   (fun i v u => match i with
   | 7 => ∃ b : Nat, v = Value.pointer (some ⟨b, 0, none⟩) ∧ Blk u b T_Scope (Scope.C ⟨a1.other, r62.1.r, a_2⟩) ∧ w74.heap.size ≤ b
   | _ => True) hmix (by kernel_rfl) (by kernel_rfl) ?_ ?_
  ·intro i v u u' hi hx hv
   match i, hv with
   | 7, ⟨b, e1, hb, hl⟩ => exact ⟨b, e1, hb.ext hx, hl⟩
   | 0, _ => exact trivial
   | 1, _ => exact trivial
   | 2, _ => exact trivial
   | 3, _ => exact trivial
   | 4, _ => exact trivial
   | 5, _ => exact trivial
   | 6, _ => exact trivial
   | _ + 8, _ => exact trivial
  refine wm_does (fun v K => does_load_agg ag_Checker rfl (((S.ext K).blk 4).all _ (Checker.len _)) (Checker.len _)) rfl ?_
  refine wm_does (fun v K => does_load_agg ag_Term rfl (((S.ext K).blk 3).all _ (Term.len _)) (Term.len _)) rfl ?_
  refine wm_does (fun v K => does_mv_p rfl) rfl ?_
  refine wm_does (fun v K => does_fieldAddr fl_Term_other rfl (o' := 2) rfl) rfl ?_
  refine wm_does (fun v K => does_load on_string rfl (((S.ext K).blk 3).cell (Term.get_other _))) rfl ?_
  refine wm_does (fun v K => does_fieldAddr fl_Nd_r rfl (o' := 3) rfl) rfl ?_
  refine wm_does (fun v K => does_load on_int rfl (((S.ext K).blk 1).cell (Nd.get_r _))) rfl ?_
  refine wm_newcall (fun g v K G => ⟨_, _, does_callg ca_types_scope_with (cons2 rfl (cons2 rfl (cons2 rfl rfl))), newc (types_scope_with_ok _ _ _ _) fun _ _ ⟨b, hv, hx, hb, hl⟩ => ⟨hx, b, hv, hb, by have := K.size; omega⟩⟩) rfl ?_
  refine wm_does (fun v K => does_mv_i rfl) rfl ?_
  refine wm_nil fun g w79 K hV => ?_
  obtain ⟨b78, hv807, hb7, hf7⟩ := hV 7 rfl (by decide)
  replace S : St A N w w79 [oB b78 T_Scope (Scope.C ⟨a1.other, r62.1.r, a_2⟩), oE v76 r73, oB b67 T_Nd (Nd.C r62.1), oE v65 r62.2, oB b4 T_Term (Term.C (⟨a1.kind, a1.name, a1.other, a1.form, s_1⟩ : Term)), oB b2 T_Checker (Checker.C (⟨a_0⟩ : Checker))] [fScope (some ⟨b70, 0, none⟩) ((a1.name, r62.1.l) :: a2), oT a_0 a0.t, oDTerm s_1 a1.sub, fScope a_2 a2, oEt] := S.newAt K hb7 hf7
  replace S : St A N w w79 [oE v76 r73, oB b67 T_Nd (Nd.C r62.1), oE v65 r62.2, oB b4 T_Term (Term.C (⟨a1.kind, a1.name, a1.other, a1.form, s_1⟩ : Term)), oB b2 T_Checker (Checker.C (⟨a_0⟩ : Checker))] [fScope (some ⟨b78, 0, none⟩) ((a1.other, r62.1.r) :: a2), fScope (some ⟨b70, 0, none⟩) ((a1.name, r62.1.l) :: a2), oT a_0 a0.t, oDTerm s_1 a1.sub, fScope a_2 a2, oEt] := S.pushScope 0 3
  clear K hV
  obtain ⟨r81, er81, H⟩ := bind_ex H
  obtain ⟨B83, MB83, SB83, back⟩ := S.calln 0 ((.z 2 rfl (.z 3 rfl (.z 0 rfl (.z 5 rfl .nil)))))
  refine wl_call (does_callg ca_types_checker_check (cons2 rfl (cons2 rfl (cons2 rfl (cons2 hv807 (cons2 rfl rfl)))))) (by decide) (types_checker_check_gst hrec_types_checker_checked (a0 := a0) (a1 := a1) SB83 er81) ?_
  rintro v84 w82 ⟨_, rfl, S2⟩
  replace S : St A N w w82 [oE v84 r81, oE v76 r73, oB b67 T_Nd (Nd.C r62.1), oE v65 r62.2, oB b4 T_Term (Term.C (⟨a1.kind, a1.name, a1.other, a1.form, s_1⟩ : Term)), oB b2 T_Checker (Checker.C (⟨a_0⟩ : Checker))] [fScope (some ⟨b78, 0, none⟩) ((a1.other, r62.1.r) :: a2), fScope (some ⟨b70, 0, none⟩) ((a1.name, r62.1.l) :: a2), oT a_0 a0.t, oDTerm s_1 a1.sub, fScope a_2 a2, oEt] := back _ _ _ _ S2 rfl
  clear back S2 SB83
  refine wd (does_assign rfl) ?_
  refine wl_nil ?_
  refine wc_ret ?_
  refine ⟨_, (rets1 (retOne_tmp rfl)), ?_⟩
  replace S : St A N w w82 [oE v84 r81] [] := S.arr [0] []
  obtain rfl := Option.some.inj H
  exact ⟨v84, rfl, S⟩
 replace H := if_f hc61 H
 refine wc_seq (wc_region ?_)
 refine wd (does_eq rfl rfl) ?_
 refine wd (does_as_b rfl) ?_
 refine wl_nil ?_
 refine wc_if rfl (fun hc85 => ?_) (fun hc85 => ?_)
 ·replace H := if_t hc85 H
  refine wc_seq (wc_region ?_)
  refine wd (does_load_agg ag_Checker rfl ((S.blk 1).all _ (Checker.len _)) (Checker.len _)) ?_
  refine wd (does_load_agg ag_Term rfl ((S.blk 0).all _ (Term.len _)) (Term.len _)) ?_
  refine wd (does_mv_p rfl) ?_
  obtain ⟨r86, er86, H⟩ := bind_ex H
  obtain ⟨B88, MB88, SB88, back⟩ := S.calln 0 ((.z 0 rfl (.z 1 rfl (.z 2 rfl (.z 3 rfl .nil)))))
  refine wl_call (does_call ca_types_checker_head) (by decide) (types_checker_head_gst hrec_types_checker_told (a0 := a0) (a1 := a1) SB88 er86) ?_
  rintro _ w87 ⟨v89, rfl, S2⟩
  replace S : St A N w w87 [oE v89 r86.2, oB b4 T_Term (Term.C (⟨a1.kind, a1.name, a1.other, a1.form, s_1⟩ : Term)), oB b2 T_Checker (Checker.C (⟨a_0⟩ : Checker))] [oT a_0 a0.t, oDTerm s_1 a1.sub, fScope a_2 a2, oEt] := back _ _ _ _ S2 rfl
  clear back S2 SB88
  refine wd (does_mv_t rfl) ?_
  refine wd (does_extract rfl rfl) ?_
  refine wd (does_extract rfl rfl) ?_
  refine wl_alloc ze_Nd (by decide) fun b91 w90 hw90 => ?_
  replace S : St A N w w90 [oB b91 T_Nd (Nd.C Nd.z), oE v89 r86.2, oB b4 T_Term (Term.C (⟨a1.kind, a1.name, a1.other, a1.form, s_1⟩ : Term)), oB b2 T_Checker (Checker.C (⟨a_0⟩ : Checker))] [oT a_0 a0.t, oDTerm s_1 a1.sub, fScope a_2 a2, oEt] := S.new hw90
  refine wl_store_agg ag_Nd rfl rfl (S.blk 0) (Nd.len _) (by rw [Nd.len]; decide) (Nd.one _) (store_all (Nd.len _)) fun w92 B hw92 zw92 => ?_
  replace S : St A N w w92 [oB b91 T_Nd (Nd.C r86.1), oE v89 r86.2, oB b4 T_Term (Term.C (⟨a1.kind, a1.name, a1.other, a1.form, s_1⟩ : Term)), oB b2 T_Checker (Checker.C (⟨a_0⟩ : Checker))] [oT a_0 a0.t, oDTerm s_1 a1.sub, fScope a_2 a2, oEt] := S.store 0 B hw92
  clear B
  refine wd (does_assign rfl) ?_
  refine wl_nil ?_
  refine wc_seq (wc_region ?_)
  refine wd (does_move rfl) ?_
  refine wd (does_assign rfl) ?_
  refine wl_nil ?_
  refine wc_ret ?_
  refine ⟨_, (rets1 (retOne_tmp rfl)), ?_⟩
  replace S : St A N w w92 [oE v89 r86.2] [] := S.arr [1] []
  obtain rfl := Option.some.inj H
  exact ⟨v89, rfl, S⟩
 replace H := if_f hc85 H
 refine wc_seq (wc_region ?_)
 refine wd (does_eq rfl rfl) ?_
 refine wd (does_as_b rfl) ?_
 refine wl_nil ?_
 refine wc_if rfl (fun hc93 => ?_) (fun hc93 => ?_)
 ·replace H := if_t hc93 H
  refine wc_seq (wc_region ?_)
  refine wd (does_load_agg ag_Checker rfl ((S.blk 1).all _ (Checker.len _)) (Checker.len _)) ?_
  refine wd (does_load_agg ag_Term rfl ((S.blk 0).all _ (Term.len _)) (Term.len _)) ?_
  refine wd (does_mv_p rfl) ?_
  obtain ⟨r94, er94, H⟩ := bind_ex H
  obtain ⟨B96, MB96, SB96, back⟩ := S.calln 0 ((.z 0 rfl (.z 1 rfl (.z 2 rfl (.z 3 rfl .nil)))))
  refine wl_call (does_call ca_types_checker_part) (by decide) (types_checker_part_gst hrec_types_checker_told (a0 := a0) (a1 := a1) SB96 er94) ?_
  rintro _ w95 ⟨v97, rfl, S2⟩
  replace S : St A N w w95 [oE v97 r94.2, oB b4 T_Term (Term.C (⟨a1.kind, a1.name, a1.other, a1.form, s_1⟩ : Term)), oB b2 T_Checker (Checker.C (⟨a_0⟩ : Checker))] [oT a_0 a0.t, oDTerm s_1 a1.sub, fScope a_2 a2, oEt] := back _ _ _ _ S2 rfl
  clear back S2 SB96
  refine wd (does_mv_t rfl) ?_
  refine wd (does_extract rfl rfl) ?_
  refine wd (does_extract rfl rfl) ?_
  refine wd (does_as_i rfl) ?_
  refine wd (does_assign rfl) ?_
  refine wl_nil ?_
  refine wc_seq (wc_seq (wc_region ?_))
  refine wd (does_move rfl) ?_
  refine wd (does_neE if_error rfl rfl (S.onO 0)) ?_
  refine wl_nil ?_
  refine wc_if rfl (fun hc98 => ?_) (fun hc98 => ?_)
  ·replace H := if_t hc98 H
   refine wc_seq (wc_region ?_)
   refine wd (does_move rfl) ?_
   refine wd (does_assign rfl) ?_
   refine wl_nil ?_
   refine wc_ret ?_
   refine ⟨_, (rets1 (retOne_tmp rfl)), ?_⟩
   replace S : St A N w w95 [oE v97 r94.2] [] := S.arr [0] []
   obtain rfl := Option.some.inj H
   exact ⟨v97, rfl, S⟩
  replace H := if_f hc98 H
  refine wc_skip ?_
  refine wc_seq ?_
  refine wc_semi 8 [6]
   (fun i v u => match i with
   | 6 => ∃ b : Nat, v = Value.pointer (some ⟨b, 0, none⟩) ∧ Blk u b T_Scope (Scope.C ⟨a1.name, r94.1, a_2⟩) ∧ w95.heap.size ≤ b
   | _ => True) hmix (by kernel_rfl) (by kernel_rfl) ?_ ?_
  ·intro i v u u' hi hx hv
   match i, hv with
   | 6, ⟨b, e1, hb, hl⟩ => exact ⟨b, e1, hb.ext hx, hl⟩
   | 0, _ => exact trivial
   | 1, _ => exact trivial
   | 2, _ => exact trivial
   | 3, _ => exact trivial
   | 4, _ => exact trivial
   | 5, _ => exact trivial
   | _ + 7, _ => exact trivial
  refine wm_does (fun v K => does_load_agg ag_Checker rfl (((S.ext K).blk 2).all _ (Checker.len _)) (Checker.len _)) rfl ?_
  refine wm_does (fun v K => does_load_agg ag_Term rfl (((S.ext K).blk 1).all _ (Term.len _)) (Term.len _)) rfl ?_
  refine wm_does (fun v K => does_mv_p rfl) rfl ?_
  refine wm_does (fun v K => does_fieldAddr fl_Term_name rfl (o' := 1) rfl) rfl ?_
  refine wm_does (fun v K => does_load on_string rfl (((S.ext K).blk 1).cell (Term.get_name _))) rfl ?_
  refine wm_does (fun v K => does_mv_i rfl) rfl ?_
  refine wm_newcall (fun g v K G => ⟨_, _, does_callg ca_types_scope_with (cons2 rfl (cons2 rfl (cons2 rfl rfl))), newc (types_scope_with_ok _ _ _ _) fun _ _ ⟨b, hv, hx, hb, hl⟩ => ⟨hx, b, hv, hb, by have := K.size; omega⟩⟩) rfl ?_
  refine wm_does (fun v K => does_mv_i rfl) rfl ?_
  refine wm_nil fun g w100 K hV => ?_
  obtain ⟨b99, hv1016, hb6, hf6⟩ := hV 6 rfl (by decide)
  replace S : St A N w w100 [oB b99 T_Scope (Scope.C ⟨a1.name, r94.1, a_2⟩), oE v97 r94.2, oB b4 T_Term (Term.C (⟨a1.kind, a1.name, a1.other, a1.form, s_1⟩ : Term)), oB b2 T_Checker (Checker.C (⟨a_0⟩ : Checker))] [oT a_0 a0.t, oDTerm s_1 a1.sub, fScope a_2 a2, oEt] := S.newAt K hb6 hf6
  replace S : St A N w w100 [oE v97 r94.2, oB b4 T_Term (Term.C (⟨a1.kind, a1.name, a1.other, a1.form, s_1⟩ : Term)), oB b2 T_Checker (Checker.C (⟨a_0⟩ : Checker))] [fScope (some ⟨b99, 0, none⟩) ((a1.name, r94.1) :: a2), oT a_0 a0.t, oDTerm s_1 a1.sub, fScope a_2 a2, oEt] := S.pushScope 0 2
  clear K hV
  obtain ⟨r102, er102, H⟩ := bind_ex H
  obtain ⟨B104, MB104, SB104, back⟩ := S.calln 0 ((.z 1 rfl (.z 2 rfl (.z 0 rfl (.z 4 rfl .nil)))))
  refine wl_call (does_callg ca_types_checker_check (cons2 rfl (cons2 rfl (cons2 rfl (cons2 hv1016 (cons2 rfl rfl)))))) (by decide) (types_checker_check_gst hrec_types_checker_checked (a0 := a0) (a1 := a1) SB104 er102) ?_
  rintro v105 w103 ⟨_, rfl, S2⟩
  replace S : St A N w w103 [oE v105 r102, oE v97 r94.2, oB b4 T_Term (Term.C (⟨a1.kind, a1.name, a1.other, a1.form, s_1⟩ : Term)), oB b2 T_Checker (Checker.C (⟨a_0⟩ : Checker))] [fScope (some ⟨b99, 0, none⟩) ((a1.name, r94.1) :: a2), oT a_0 a0.t, oDTerm s_1 a1.sub, fScope a_2 a2, oEt] := back _ _ _ _ S2 rfl
  clear back S2 SB104
  refine wd (does_assign rfl) ?_
  refine wl_nil ?_
  refine wc_ret ?_
  refine ⟨_, (rets1 (retOne_tmp rfl)), ?_⟩
  replace S : St A N w w103 [oE v105 r102] [] := S.arr [0] []
  obtain rfl := Option.some.inj H
  exact ⟨v105, rfl, S⟩
 replace H := if_f hc93 H
 refine wc_skip ?_
 refine wc_seq (wc_region ?_)
 refine wd (does_load_agg ag_Checker rfl ((S.blk 1).all _ (Checker.len _)) (Checker.len _)) ?_
 refine wd (does_load_agg ag_Term rfl ((S.blk 0).all _ (Term.len _)) (Term.len _)) ?_
 refine wd (does_mv_p rfl) ?_
 obtain ⟨r106, er106, H⟩ := bind_ex H
 obtain ⟨B108, MB108, SB108, back⟩ := S.calln 0 ((.z 0 rfl (.z 1 rfl (.z 2 rfl (.z 3 rfl .nil)))))
 refine wl_call (does_call ca_types_checker_told) (by decide) (hrec_types_checker_told (a0 := a0) (a1 := a1) SB108 er106) ?_
 rintro _ w107 ⟨v109, rfl, S2⟩
 replace S : St A N w w107 [oE v109 r106.2, oB b4 T_Term (Term.C (⟨a1.kind, a1.name, a1.other, a1.form, s_1⟩ : Term)), oB b2 T_Checker (Checker.C (⟨a_0⟩ : Checker))] [oT a_0 a0.t, oDTerm s_1 a1.sub, fScope a_2 a2, oEt] := back _ _ _ _ S2 rfl
 clear back S2 SB108
 refine wd (does_mv_t rfl) ?_
 refine wd (does_extract rfl rfl) ?_
 refine wd (does_extract rfl rfl) ?_
 refine wd (does_as_i rfl) ?_
 refine wd (does_assign rfl) ?_
 refine wl_nil ?_
 refine wc_seq (wc_seq (wc_region ?_))
 refine wd (does_move rfl) ?_
 refine wd (does_eqE if_error rfl rfl (S.onO 0)) ?_
 refine wd (does_mv_b rfl) ?_
 refine wl_guard (j := 2) (pol := true) rfl rfl rfl (by decide) (fun hg => does_mv_i rfl) (by decide) ?_
 refine wl_guard (j := 2) (pol := true) rfl rfl rfl (by decide) (fun hg => does_mv_i rfl) (by decide) ?_
 refine wl_guard (j := 2) (pol := true) rfl rfl rfl (by decide) (fun hg => does_ne (gv_yes hg) (gv_yes hg)) (by decide) ?_
 refine wd (does_and rfl (fun hp => (gv_yes (and_1 hp)))) ?_
 refine wl_nil ?_
 refine wc_if rfl (fun hc110 => ?_) (fun hc110 => ?_)
 ·replace H := if_t hc110 H
  refine wc_region ?_
  refine wd (Does.to (v' := .agg (Refusal.C (⟨130, SlV.nil⟩ : Refusal)).toArray) (does_buildv (vs := [(0, .int .i64 130)]) bu_Refusal (consP rfl rfl) (Bld.one rfl rfl (by rw [Refusal.len]; decide) (Refusal.set_code _ _) Bld.nil)) rfl) ?_
  refine wl_box_agg rfl (by decide) fun b112 w111 hw111 => ?_
  replace S : St A N w w111 [oB b112 T_Refusal (Refusal.C (⟨130, SlV.nil⟩ : Refusal)), oE v109 r106.2, oB b4 T_Term (Term.C (⟨a1.kind, a1.name, a1.other, a1.form, s_1⟩ : Term)), oB b2 T_Checker (Checker.C (⟨a_0⟩ : Checker))] [oT a_0 a0.t, oDTerm s_1 a1.sub, fScope a_2 a2, oEt] := S.new hw111
  refine wd (does_makeInterface rfl) ?_
  replace S := S.nil T_int 1 IC
  replace S := S.front 1
  replace S : St A N w w111 [oE (.iface T_P_Refusal (.pointer (some ⟨b112, 0, none⟩))) (some (130, ([] : List Int))), oE v109 r106.2, oB b4 T_Term (Term.C (⟨a1.kind, a1.name, a1.other, a1.form, s_1⟩ : Term)), oB b2 T_Checker (Checker.C (⟨a_0⟩ : Checker))] [oT a_0 a0.t, oDTerm s_1 a1.sub, fScope a_2 a2, oEt] := S.mkE
  refine wd (does_assign rfl) ?_
  refine wl_nil ?_
  refine wc_seq (wc_region ?_)
  refine wd (does_move rfl) ?_
  refine wd (does_assign rfl) ?_
  refine wl_nil ?_
  refine wc_ret ?_
  refine ⟨_, (rets1 (retOne_tmp rfl)), ?_⟩
  replace S : St A N w w111 [oE (.iface T_P_Refusal (.pointer (some ⟨b112, 0, none⟩))) (some (130, ([] : List Int)))] [] := S.arr [0] []
  obtain rfl := Option.some.inj H
  exact ⟨(.iface T_P_Refusal (.pointer (some ⟨b112, 0, none⟩))), rfl, S⟩
 ·replace H := if_f hc110 H
  refine wc_skip ?_
  refine wc_seq (wc_region ?_)
  refine wd (does_move rfl) ?_
  refine wd (does_assign rfl) ?_
  refine wl_nil ?_
  refine wc_ret ?_
  refine ⟨_, (rets1 (retOne_tmp rfl)), ?_⟩
  replace S : St A N w w107 [oE v109 r106.2] [] := S.arr [0] []
  obtain rfl := Option.some.inj H
  exact ⟨v109, rfl, S⟩
theorem types_tc_both : ∀ (k : Nat), (∀ {A : Nat → Prop} {N : Oth} {w : World} {a0 : PChecker} {a_0 : Option Addr} {a1 : PTerm} {s_1 : SlV} {a2 : List (ByteArray × Int)} {a_2 : Option Addr} (S : St A N w w [] [oT a_0 a0.t, oDTerm s_1 a1.sub, fScope a_2 a2, oEt]) {r : Int × (Option (Int × List Int))} (H : types_checker_told.f k a0 a1 a2 = some r), Calls PP F_types_checker_told #[.agg (Checker.C (⟨a_0⟩ : Checker)).toArray, .agg (Term.C (⟨a1.kind, a1.name, a1.other, a1.form, s_1⟩ : Term)).toArray, .pointer a_2] w fun e w' => ∃ v, e = .returned v ∧ (∃ vo0 : Value, v = .tuple #[.int .i64 r.1, vo0] ∧ St A N w w' [oE vo0 r.2] [])) ∧ (∀ {A : Nat → Prop} {N : Oth} {w : World} {a0 : PChecker} {a_0 : Option Addr} {a1 : PTerm} {s_1 : SlV} {a2 : List (ByteArray × Int)} {a_2 : Option Addr} {a3 : Int} (S : St A N w w [] [oT a_0 a0.t, oDTerm s_1 a1.sub, fScope a_2 a2, oEt]) {r : (Option (Int × List Int))} (H : types_checker_checked.f k a0 a1 a2 a3 = some r), Calls PP F_types_checker_checked #[.agg (Checker.C (⟨a_0⟩ : Checker)).toArray, .agg (Term.C (⟨a1.kind, a1.name, a1.other, a1.form, s_1⟩ : Term)).toArray, .pointer a_2, .int .i64 a3] w fun e w' => ∃ v, e = .returned v ∧ (∃ vo0 : Value, v = vo0 ∧ St A N w w' [oE vo0 r] [])) := by
 intro k
 induction k with
 | zero =>
  refine ⟨?_, ?_⟩
  ·intro A N w a0 a_0 a1 s_1 a2 a_2 S r H; cases H
  ·intro A N w a0 a_0 a1 s_1 a2 a_2 a3 S r H; cases H
 | succ k ih =>
  refine ⟨?_, ?_⟩
  ·intro A N w a0 a_0 a1 s_1 a2 a_2 S r H; exact types_checker_told_gst ih.1 ih.2 S H
  ·intro A N w a0 a_0 a1 s_1 a2 a_2 a3 S r H; exact types_checker_checked_gst ih.1 ih.2 S H
theorem types_checker_told_st {A : Nat → Prop} {N : Oth} {w : World} {a0 : PChecker} {a_0 : Option Addr} {a1 : PTerm} {s_1 : SlV} {a2 : List (ByteArray × Int)} {a_2 : Option Addr} (S : St A N w w [] [oT a_0 a0.t, oDTerm s_1 a1.sub, fScope a_2 a2, oEt]) {k : Nat} {r : Int × (Option (Int × List Int))} (H : types_checker_told.f k a0 a1 a2 = some r) :
  Calls PP F_types_checker_told #[.agg (Checker.C (⟨a_0⟩ : Checker)).toArray, .agg (Term.C (⟨a1.kind, a1.name, a1.other, a1.form, s_1⟩ : Term)).toArray, .pointer a_2] w fun e w' => ∃ v, e = .returned v ∧ (∃ vo0 : Value, v = .tuple #[.int .i64 r.1, vo0] ∧ St A N w w' [oE vo0 r.2] []) := by exact (types_tc_both k).1 S H
theorem types_checker_checked_st {A : Nat → Prop} {N : Oth} {w : World} {a0 : PChecker} {a_0 : Option Addr} {a1 : PTerm} {s_1 : SlV} {a2 : List (ByteArray × Int)} {a_2 : Option Addr} {a3 : Int} (S : St A N w w [] [oT a_0 a0.t, oDTerm s_1 a1.sub, fScope a_2 a2, oEt]) {k : Nat} {r : (Option (Int × List Int))} (H : types_checker_checked.f k a0 a1 a2 a3 = some r) :
  Calls PP F_types_checker_checked #[.agg (Checker.C (⟨a_0⟩ : Checker)).toArray, .agg (Term.C (⟨a1.kind, a1.name, a1.other, a1.form, s_1⟩ : Term)).toArray, .pointer a_2, .int .i64 a3] w fun e w' => ∃ v, e = .returned v ∧ (∃ vo0 : Value, v = vo0 ∧ St A N w w' [oE vo0 r] []) := by exact (types_tc_both k).2 S H
theorem types_ahead_st {A : Nat → Prop} {N : Oth} {w : World} {a0 : Tb} {a_0 : Option Addr} {a1 : List Hyp} {s_1 : SlV} {a2 : PTerm} {s_2 : SlV} {a3 : List Int} {s_3 : SlV} (S : St A N w w [oS T_int 1 IC s_3 a3] [oT a_0 a0, fS 2 Hyp.C s_1 a1, oDTerm s_2 a2.sub]) {k : Nat} {r : (List (ByteArray × Int)) × Int} (H : types_ahead.f k a0 a1 a2 a3 = some r) :
  Calls PP F_types_ahead #[.pointer a_0, s_1.v, .agg (Term.C (⟨a2.kind, a2.name, a2.other, a2.form, s_2⟩ : Term)).toArray, s_3.v] w fun e w' => ∃ v, e = .returned v ∧ (∃ ao0 : Option Addr, v = .tuple #[.pointer ao0, .int .i64 r.2] ∧ St A N w w' [] [fScope ao0 r.1]) := by
 unfold types_ahead.f at H
 refine calls_of_wc (n := 63) fn_types_ahead rfl rfl (by simp) ?_
 refine wc_seq (wc_region ?_)
 refine wl_box_agg rfl (by decide) fun b2 w1 hw1 => ?_
 replace S : St A N w w1 [oB b2 T_Term (Term.C (⟨a2.kind, a2.name, a2.other, a2.form, s_2⟩ : Term)), oS T_int 1 IC s_3 a3] [oT a_0 a0, fS 2 Hyp.C s_1 a1, oDTerm s_2 a2.sub] := S.new hw1
 refine wd (does_as_p rfl) ?_
 replace S : St A N w w1 [oB b2 T_Term (Term.C (⟨a2.kind, a2.name, a2.other, a2.form, s_2⟩ : Term)), oS T_int 1 IC s_3 a3] [fScope none ([] : List (ByteArray × Int)), oT a_0 a0, fS 2 Hyp.C s_1 a1, oDTerm s_2 a2.sub] := S.nil_fScopeZ
 refine wd (does_as_i rfl) ?_
 refine wl_nil ?_
 refine wc_seq (wc_seq (wc_region ?_))
 refine wd (does_mv_p rfl) ?_
 obtain ⟨r3, er3, H⟩ := bind_ex H
 obtain ⟨B5, MB5, SB5, back⟩ := S.calln 0 ((.z 1 rfl .nil))
 refine wl_call (does_call ca_formula_Table_Not) (by decide) (formula_Table_Not_neg_st SB5 rfl er3) ?_
 rintro _ w4 ⟨rfl, S2⟩
 replace S : St A N w w4 [oB b2 T_Term (Term.C (⟨a2.kind, a2.name, a2.other, a2.form, s_2⟩ : Term)), oS T_int 1 IC s_3 a3] [fScope none ([] : List (ByteArray × Int)), oT a_0 a0, fS 2 Hyp.C s_1 a1, oDTerm s_2 a2.sub] := back _ _ _ _ S2 rfl
 clear back S2 SB5
 refine wd (does_mv_t rfl) ?_
 refine wd (does_extract rfl rfl) ?_
 refine wd (does_extract rfl rfl) ?_
 refine wd (does_as_i rfl) ?_
 refine wd (does_as_i rfl) ?_
 refine wl_nil ?_
 refine wc_seq (wc_region ?_)
 refine wd (does_mv_i rfl) ?_
 refine wd (does_eq rfl rfl) ?_
 refine wl_nil ?_
 refine wc_if rfl (fun hc6 => ?_) (fun hc6 => ?_)
 ·replace H := if_t hc6 H
  refine wc_seq (wc_region ?_)
  refine wd (does_mv_i rfl) ?_
  refine wd (does_as_p rfl) ?_
  replace S : St A N w w4 [oB b2 T_Term (Term.C (⟨a2.kind, a2.name, a2.other, a2.form, s_2⟩ : Term)), oS T_int 1 IC s_3 a3] [fScope none ([] : List (ByteArray × Int)), fScope none ([] : List (ByteArray × Int)), oT a_0 a0, fS 2 Hyp.C s_1 a1, oDTerm s_2 a2.sub] := S.nil_fScopeZ
  refine wd (does_as_i rfl) ?_
  refine wl_nil ?_
  refine wc_ret ?_
  refine ⟨_, (rets2 (retOne_tmp rfl) (retOne_tmp rfl)), ?_⟩
  replace S : St A N w w4 [] [fScope none ([] : List (ByteArray × Int))] := S.arr [] [0]
  obtain rfl := Option.some.inj H
  exact ⟨none, rfl, S⟩
 replace H := if_f hc6 H
 refine wc_skip ?_
 refine wc_seq (wc_region ?_)
 refine wd (does_as_p rfl) ?_
 replace S : St A N w w4 [oB b2 T_Term (Term.C (⟨a2.kind, a2.name, a2.other, a2.form, s_2⟩ : Term)), oS T_int 1 IC s_3 a3] [fScope none ([] : List (ByteArray × Int)), fScope none ([] : List (ByteArray × Int)), oT a_0 a0, fS 2 Hyp.C s_1 a1, oDTerm s_2 a2.sub] := S.nil_fScopeZ
 refine wl_nil ?_
 refine wc_seq (wc_seq (wc_region ?_))
 refine wd (does_mv_l rfl) ?_
 refine wd (does_lenR sl_L_api_Hyp rfl (S.rd 3)) ?_
 refine wd (does_mv_i rfl) ?_
 refine wl_nil ?_
 obtain ⟨o7, e7, Ho7⟩ := bind_ex H
 clear H
 refine wc_cutq [3, 12, 14, 29, 30, 31, 32, 33, 34, 35, 36, 37, 38, 39, 40, 41, 42, 43, 44] (fun fr W => ∃ s8 : SlV, ∃ a9 : Option Addr, fr 3 = s8.v ∧ fr 12 = .pointer a9 ∧ St A N w W [oB b2 T_Term (Term.C (⟨a2.kind, a2.name, a2.other, a2.form, s_2⟩ : Term)), oS T_int 1 IC s8 o7.1] [fScope a9 o7.2, fScope none ([] : List (ByteArray × Int)), oT a_0 a0, fS 2 Hyp.C s_1 a1, oDTerm s_2 a2.sub]) ?_ ?_
 ·refine wc_block ?_
  refine wc_loopm (α := Nat × Int × (List Int × (List (ByteArray × Int)))) [3, 12, 14, 29, 30, 31, 32, 33, 34, 35, 36, 37, 38, 39, 40, 41, 42, 43, 44] (fun x fr W => (x.1 : Int) = (a1.length : Int) - x.2.1 ∧ 0 ≤ x.2.1 ∧ forS (fun i s => types_ahead.b0 a1 i s.1 s.2) x.1 x.2.1 x.2.2 = some o7 ∧ ∃ s10 : SlV, ∃ a11 : Option Addr, fr 29 = .int .i64 x.2.1 ∧ fr 3 = s10.v ∧ fr 12 = .pointer a11 ∧ St A N w W [oB b2 T_Term (Term.C (⟨a2.kind, a2.name, a2.other, a2.form, s_2⟩ : Term)), oS T_int 1 IC s10 (x.2.2.1)] [fScope a11 (x.2.2.2), fScope none ([] : List (ByteArray × Int)), oT a_0 a0, fS 2 Hyp.C s_1 a1, oDTerm s_2 a2.sub]) (fun x => x.1) (((a1.length : Int) - 0).toNat, 0, (a3, ([] : List (ByteArray × Int)))) ⟨(by dsimp only; have hle := Int.natCast_nonneg (a1.length); omega), (Int.le_refl _), (by dsimp only; exact e7), s_3, none, rfl, rfl, rfl, S⟩ ?_
  rintro ⟨m7, i7, ⟨x7_0, x7_1⟩⟩ g7 u7 ⟨hm7, hl7, e7, s12, a13, q7_i, q7_3, q7_12, S⟩
  try dsimp only at hm7
  try dsimp only at hl7
  try dsimp only at e7
  try dsimp only at S
  try dsimp only at q7_i
  try dsimp only at q7_3
  try dsimp only at q7_12
  refine wc_seq (wc_region ?_)
  refine wd (does_lt q7_i rfl) ?_
  refine wl_nil ?_
  refine wc_seq ?_
  refine wc_if rfl (fun hc14 => ?_) (fun hc14 => ?_)
  rotate_left
  ·refine wc_exit ?_
   have hge : (a1.length : Int) ≤ i7 := Int.not_lt.1 (of_decide_eq_false hc14)
   obtain rfl : m7 = 0 := by omega
   replace e7 := forS_0 e7
   obtain rfl := e7
   exact ⟨rfl, ((Dif.self _ _ _).upd rfl _), s12, a13, q7_3, q7_12, S⟩
  refine wc_skip ?_
  have hlt7 : i7 < (a1.length : Int) := of_decide_eq_true hc14
  obtain ⟨m7, rfl⟩ : ∃ m, m7 = m + 1 := ⟨m7 - 1, by omega⟩
  obtain ⟨q7, H, e7⟩ := forS_s e7
  unfold types_ahead.b0 at H
  try dsimp only at H
  have hb7 := (S.len 3)
  refine wc_seq ?_
  refine wc_block ?_
  refine wc_seq (wc_region ?_)
  refine wd (does_indexR sl_L_api_Hyp rfl q7_i (S.rd 3) (And.intro (show 0 ≤ i7 by omega) (show i7 < (a1.length : Int) from hlt7)).1 (And.intro (show 0 ≤ i7 by omega) (show i7 < (a1.length : Int) from hlt7)).2) ?_
  refine wd (does_load_agg ag_Hyp rfl ((S.rd 3).at (at_some Hyp.z (And.intro (show 0 ≤ i7 by omega) (show i7 < (a1.length : Int) from hlt7)))) (Hyp.len _)) ?_
  refine wl_alloc ze_Hyp (by decide) fun b17 w16 hw16 => ?_
  replace S : St A N w w16 [oB b17 T_Hyp (Hyp.C Hyp.z), oB b2 T_Term (Term.C (⟨a2.kind, a2.name, a2.other, a2.form, s_2⟩ : Term)), oS T_int 1 IC s12 x7_0] [fScope a13 x7_1, fScope none ([] : List (ByteArray × Int)), oT a_0 a0, fS 2 Hyp.C s_1 a1, oDTerm s_2 a2.sub] := S.new hw16
  refine wl_store_agg ag_Hyp rfl rfl (S.blk 0) (Hyp.len _) (by rw [Hyp.len]; decide) (Hyp.one _) (store_all (Hyp.len _)) fun w18 B hw18 zw18 => ?_
  replace S : St A N w w18 [oB b17 T_Hyp (Hyp.C (at_ Hyp.z a1 i7)), oB b2 T_Term (Term.C (⟨a2.kind, a2.name, a2.other, a2.form, s_2⟩ : Term)), oS T_int 1 IC s12 x7_0] [fScope a13 x7_1, fScope none ([] : List (ByteArray × Int)), oT a_0 a0, fS 2 Hyp.C s_1 a1, oDTerm s_2 a2.sub] := S.store 0 B hw18
  clear B
  refine wl_nil ?_
  refine wc_seq (wc_region ?_)
  refine wd (does_mv_l q7_3) ?_
  refine wd (does_fieldAddr fl_Hyp_form rfl (o' := 1) rfl) ?_
  refine wd (does_load on_int rfl ((S.blk 0).cell (Hyp.get_form _))) ?_
  refine wl_lits (C := IC) (l := [(at_ Hyp.z a1 i7).form]) (vs := [.int .i64 ((at_ Hyp.z a1 i7).form)]) sl_L_int el_int.zero rfl rfl (fun _ _ => rfl) (by decide) rfl (by decide) fun b20 w19 s21 hBw19 hw19 => ?_
  replace S : St A N w w19 [oS T_int 1 IC s21 ([(at_ Hyp.z a1 i7).form]), oB b17 T_Hyp (Hyp.C (at_ Hyp.z a1 i7)), oB b2 T_Term (Term.C (⟨a2.kind, a2.name, a2.other, a2.form, s_2⟩ : Term)), oS T_int 1 IC s12 x7_0] [fScope a13 x7_1, fScope none ([] : List (ByteArray × Int)), oT a_0 a0, fS 2 Hyp.C s_1 a1, oDTerm s_2 a2.sub] := S.lit hBw19 hw19 (by simp)
  obtain ⟨ha24, H⟩ := chk_ex H
  have ha24 := of_decide_eq_true ha24
  refine wl_appends (C := IC) sl_L_int el_int rfl rfl (S.sl 3) (S.rdO 0) (by simp) (fun a _ v hv => by rw [List.mem_singleton.1 hv]; rfl) ha24 (by omega) (by decide) fun s23 w22 O hw22 gw22 => ?_
  replace S : St A N w w22 [oS T_int 1 IC s23 (x7_0 ++ [(at_ Hyp.z a1 i7).form]), oS T_int 1 IC s21 ([(at_ Hyp.z a1 i7).form]), oB b17 T_Hyp (Hyp.C (at_ Hyp.z a1 i7)), oB b2 T_Term (Term.C (⟨a2.kind, a2.name, a2.other, a2.form, s_2⟩ : Term))] [fScope a13 x7_1, fScope none ([] : List (ByteArray × Int)), oT a_0 a0, fS 2 Hyp.C s_1 a1, oDTerm s_2 a2.sub] := S.push 3 O (by first | (simp; done) | (simp; omega)) hw22 gw22
  clear O
  refine wd (does_as_l rfl) ?_
  refine wl_nil ?_
  refine wc_region ?_
  refine wd (does_mv_p q7_12) ?_
  refine wd (does_fieldAddr fl_Hyp_name rfl (o' := 0) rfl) ?_
  refine wd (does_load on_string rfl ((S.blk 2).cell (Hyp.get_name _))) ?_
  refine wd (does_fieldAddr fl_Hyp_form rfl (o' := 1) rfl) ?_
  refine wd (does_load on_int rfl ((S.blk 2).cell (Hyp.get_form _))) ?_
  obtain ⟨r25, er25, H⟩ := bind_ex H
  obtain ⟨B27, MB27, SB27, back⟩ := S.sub [0] [] [oS T_int 1 IC s23 (x7_0 ++ [(at_ Hyp.z a1 i7).form]), oS T_int 1 IC s21 ([(at_ Hyp.z a1 i7).form]), oB b17 T_Hyp (Hyp.C (at_ Hyp.z a1 i7)), oB b2 T_Term (Term.C (⟨a2.kind, a2.name, a2.other, a2.form, s_2⟩ : Term))]
  refine wl_call (does_call ca_types_scope_with) (by decide) (types_scope_with_st SB27 er25) ?_
  rintro _ w26 ⟨a28, rfl, S2⟩
  replace S : St A N w w26 [oS T_int 1 IC s23 (x7_0 ++ [(at_ Hyp.z a1 i7).form]), oS T_int 1 IC s21 ([(at_ Hyp.z a1 i7).form]), oB b17 T_Hyp (Hyp.C (at_ Hyp.z a1 i7)), oB b2 T_Term (Term.C (⟨a2.kind, a2.name, a2.other, a2.form, s_2⟩ : Term))] [fScope a28 r25, fScope a13 x7_1, fScope none ([] : List (ByteArray × Int)), oT a_0 a0, fS 2 Hyp.C s_1 a1, oDTerm s_2 a2.sub] := back _ _ _ _ _ S2 rfl rfl
  clear back S2 SB27
  refine wd (does_as_p rfl) ?_
  refine wl_nil ?_
  refine wc_region ?_
  refine wd (does_addc q7_i rfl (c := i7 + 1) rfl (by omega) (by omega)) ?_
  refine wd (does_mv_i rfl) ?_
  refine wl_nil ?_
  replace S : St A N w w26 [oB b2 T_Term (Term.C (⟨a2.kind, a2.name, a2.other, a2.form, s_2⟩ : Term)), oS T_int 1 IC s23 (x7_0 ++ [(at_ Hyp.z a1 i7).form])] [fScope a28 r25, fScope none ([] : List (ByteArray × Int)), oT a_0 a0, fS 2 Hyp.C s_1 a1, oDTerm s_2 a2.sub] := S.arr [3, 0] [0, 2, 3, 4, 5]
  obtain rfl := Option.some.inj H
  exact ⟨rfl, ((((((((((((((((((((Dif.self _ _ _).upd rfl _).upd rfl _).upd rfl _).upd rfl _).upd rfl _).upd rfl _).upd rfl _).upd rfl _).upd rfl _).upd rfl _).upd rfl _).upd rfl _).upd rfl _).upd rfl _).upd rfl _).upd rfl _).upd rfl _).upd rfl _).upd rfl _), (m7, i7 + 1, (x7_0 ++ [(at_ Hyp.z a1 i7).form], r25)), ⟨(by dsimp only; omega), (by dsimp only; omega), e7, s23, a28, rfl, rfl, rfl, S⟩, by dsimp only; omega⟩
 rintro g29 u30 ⟨s8, a9, p7_3, p7_12, S⟩
 have H := Ho7
 refine wc_seq (wc_seq (wc_region ?_))
 refine wd (does_mv_l p7_3) ?_
 refine wd (does_lenR sl_L_int rfl (S.rdO 1)) ?_
 refine wd (does_mv_i rfl) ?_
 refine wl_nil ?_
 obtain ⟨o31, e31, Ho31⟩ := bind_ex H
 clear H
 refine wc_cutq [8, 9, 16, 17, 18, 47, 48, 49, 50, 51, 52, 53, 54, 55, 56, 57, 58, 59] (fun fr W => ∃ s31 : Unit, o31 = .inl s31 ∧ St A N w W [oB b2 T_Term (Term.C (⟨a2.kind, a2.name, a2.other, a2.form, s_2⟩ : Term)), oS T_int 1 IC s8 o7.1] [fScope a9 o7.2, fScope none ([] : List (ByteArray × Int)), oT a_0 a0, fS 2 Hyp.C s_1 a1, oDTerm s_2 a2.sub]) ?_ ?_
 ·refine wc_block ?_
  refine wc_loopm (α := Nat × Int × Unit) [8, 9, 16, 17, 18, 47, 48, 49, 50, 51, 52, 53, 54, 55, 56, 57, 58, 59] (fun x fr W => (x.1 : Int) = (o7.1.length : Int) - x.2.1 ∧ 0 ≤ x.2.1 ∧ forN (fun i s => types_ahead.b1 a0 o7 i) x.1 x.2.1 x.2.2 = some o31 ∧ fr 47 = .int .i64 x.2.1 ∧ St A N w W [oB b2 T_Term (Term.C (⟨a2.kind, a2.name, a2.other, a2.form, s_2⟩ : Term)), oS T_int 1 IC s8 o7.1] [fScope a9 o7.2, fScope none ([] : List (ByteArray × Int)), oT a_0 a0, fS 2 Hyp.C s_1 a1, oDTerm s_2 a2.sub]) (fun x => x.1) (((o7.1.length : Int) - 0).toNat, 0, ()) ⟨(by dsimp only; have hle := Int.natCast_nonneg (o7.1.length); omega), (Int.le_refl _), (by dsimp only; exact e31), rfl, S⟩ ?_
  rintro ⟨m31, i31, _⟩ g31 u31 ⟨hm31, hl31, e31, q31_i, S⟩
  try dsimp only at hm31
  try dsimp only at hl31
  try dsimp only at e31
  try dsimp only at S
  try dsimp only at q31_i
  refine wc_seq (wc_region ?_)
  refine wd (does_lt q31_i rfl) ?_
  refine wl_nil ?_
  refine wc_seq ?_
  refine wc_if rfl (fun hc32 => ?_) (fun hc32 => ?_)
  rotate_left
  ·refine wc_exit ?_
   have hge : (o7.1.length : Int) ≤ i31 := Int.not_lt.1 (of_decide_eq_false hc32)
   obtain rfl : m31 = 0 := by omega
   replace e31 := forN_0 e31
   exact ⟨rfl, ((Dif.self _ _ _).upd rfl _), (), e31, S⟩
  refine wc_skip ?_
  have hlt31 : i31 < (o7.1.length : Int) := of_decide_eq_true hc32
  obtain ⟨m31, rfl⟩ : ∃ m, m31 = m + 1 := ⟨m31 - 1, by omega⟩
  obtain ⟨q31, H, e31⟩ := forN_s e31
  unfold types_ahead.b1 at H
  try dsimp only at H
  have hb31 := (S.lenO 1)
  refine wc_seq ?_
  refine wc_block ?_
  refine wc_seq (wc_region ?_)
  refine wd (does_indexR sl_L_int rfl q31_i (S.rdO 1) (And.intro (show 0 ≤ i31 by omega) (show i31 < (o7.1.length : Int) from hlt31)).1 (And.intro (show 0 ≤ i31 by omega) (show i31 < (o7.1.length : Int) from hlt31)).2) ?_
  refine wd (does_load on_int rfl ((S.rdO 1).one (at_some (0 : Int) (And.intro (show 0 ≤ i31 by omega) (show i31 < (o7.1.length : Int) from hlt31))) rfl)) ?_
  refine wd (does_as_i rfl) ?_
  refine wl_nil ?_
  refine wc_seq (wc_region ?_)
  refine wd (does_mv_p rfl) ?_
  refine wd (does_mv_i rfl) ?_
  obtain ⟨r34, er34, H⟩ := bind_ex H
  obtain ⟨B36, MB36, SB36, back⟩ := S.calln 0 ((.z 2 rfl .nil))
  refine wl_call (does_call ca_formula_Table_Node) (by decide) (formula_Table_Node_st SB36 er34) ?_
  rintro _ w35 ⟨rfl, S2⟩
  replace S : St A N w w35 [oB b2 T_Term (Term.C (⟨a2.kind, a2.name, a2.other, a2.form, s_2⟩ : Term)), oS T_int 1 IC s8 o7.1] [fScope a9 o7.2, fScope none ([] : List (ByteArray × Int)), oT a_0 a0, fS 2 Hyp.C s_1 a1, oDTerm s_2 a2.sub] := back _ _ _ _ S2 rfl
  clear back S2 SB36
  refine wd (does_mv_t rfl) ?_
  refine wd (does_extract rfl rfl) ?_
  refine wd (does_extract rfl rfl) ?_
  refine wl_alloc ze_Nd (by decide) fun b38 w37 hw37 => ?_
  replace S : St A N w w37 [oB b38 T_Nd (Nd.C Nd.z), oB b2 T_Term (Term.C (⟨a2.kind, a2.name, a2.other, a2.form, s_2⟩ : Term)), oS T_int 1 IC s8 o7.1] [fScope a9 o7.2, fScope none ([] : List (ByteArray × Int)), oT a_0 a0, fS 2 Hyp.C s_1 a1, oDTerm s_2 a2.sub] := S.new hw37
  refine wl_store_agg ag_Nd rfl rfl (S.blk 0) (Nd.len _) (by rw [Nd.len]; decide) (Nd.one _) (store_all (Nd.len _)) fun w39 B hw39 zw39 => ?_
  replace S : St A N w w39 [oB b38 T_Nd (Nd.C r34.1), oB b2 T_Term (Term.C (⟨a2.kind, a2.name, a2.other, a2.form, s_2⟩ : Term)), oS T_int 1 IC s8 o7.1] [fScope a9 o7.2, fScope none ([] : List (ByteArray × Int)), oT a_0 a0, fS 2 Hyp.C s_1 a1, oDTerm s_2 a2.sub] := S.store 0 B hw39
  clear B
  refine wd (does_as_b rfl) ?_
  refine wl_nil ?_
  refine wc_seq (wc_region ?_)
  refine wd (does_mv_b rfl) ?_
  refine wd (does_not rfl) ?_
  refine wl_nil ?_
  refine wc_if rfl (fun hc40 => ?_) (fun hc40 => ?_)
  ·replace H := if_t hc40 H
   refine wc_seq (wc_region ?_)
   refine wd (does_as_p rfl) ?_
   replace S : St A N w w39 [oB b38 T_Nd (Nd.C r34.1), oB b2 T_Term (Term.C (⟨a2.kind, a2.name, a2.other, a2.form, s_2⟩ : Term)), oS T_int 1 IC s8 o7.1] [fScope none ([] : List (ByteArray × Int)), fScope a9 o7.2, fScope none ([] : List (ByteArray × Int)), oT a_0 a0, fS 2 Hyp.C s_1 a1, oDTerm s_2 a2.sub] := S.nil_fScopeZ
   refine wd (does_as_i rfl) ?_
   refine wl_nil ?_
   refine wc_ret ?_
   refine ⟨_, (rets2 (retOne_tmp rfl) (retOne_tmp rfl)), ?_⟩
   replace S : St A N w w39 [] [fScope none ([] : List (ByteArray × Int))] := S.arr [] [0]
   obtain rfl := Option.some.inj H
   obtain rfl := e31
   obtain rfl := aft_r Ho31
   exact ⟨none, rfl, S⟩
  replace H := if_f hc40 H
  refine wc_skip ?_
  refine wc_region ?_
  refine wd (does_addc q31_i rfl (c := i31 + 1) rfl (by omega) (by omega)) ?_
  refine wd (does_mv_i rfl) ?_
  refine wl_nil ?_
  replace S : St A N w w39 [oB b2 T_Term (Term.C (⟨a2.kind, a2.name, a2.other, a2.form, s_2⟩ : Term)), oS T_int 1 IC s8 o7.1] [fScope a9 o7.2, fScope none ([] : List (ByteArray × Int)), oT a_0 a0, fS 2 Hyp.C s_1 a1, oDTerm s_2 a2.sub] := S.arr [1, 2] [0, 1, 2, 3, 4]
  obtain rfl := Option.some.inj H
  exact ⟨rfl, (((((((((((((((((Dif.self _ _ _).upd rfl _).upd rfl _).upd rfl _).upd rfl _).upd rfl _).upd rfl _).upd rfl _).upd rfl _).upd rfl _).upd rfl _).upd rfl _).upd rfl _).upd rfl _).upd rfl _).upd rfl _).upd rfl _), (m31, i31 + 1, ()), ⟨(by dsimp only; omega), (by dsimp only; omega), e31, rfl, S⟩, by dsimp only; omega⟩
 rintro g41 u42 ⟨s31, rfl, S⟩
 have H := Ho31
 dsimp only [aft] at H
 refine wc_seq (wc_region ?_)
 refine wd (does_mv_p p7_12) ?_
 refine wd (does_load_agg ag_Term rfl ((S.blk 0).all _ (Term.len _)) (Term.len _)) ?_
 obtain ⟨r43, er43, H⟩ := bind_ex H
 obtain ⟨B45, MB45, SB45, back⟩ := S.calln 0 ((.z 4 rfl .nil))
 refine wl_call (does_call ca_term_Check) (by decide) (term_Check_st (a0 := a2) SB45 er43) ?_
 rintro _ w44 ⟨rfl, S2⟩
 replace S : St A N w w44 [oB b2 T_Term (Term.C (⟨a2.kind, a2.name, a2.other, a2.form, s_2⟩ : Term)), oS T_int 1 IC s8 o7.1] [fScope a9 o7.2, fScope none ([] : List (ByteArray × Int)), oT a_0 a0, fS 2 Hyp.C s_1 a1, oDTerm s_2 a2.sub] := back _ _ _ _ S2 rfl
 clear back S2 SB45
 refine wd (does_as_p rfl) ?_
 refine wd (does_as_i rfl) ?_
 refine wl_nil ?_
 refine wc_ret ?_
 refine ⟨_, (rets2 (retOne_tmp rfl) (retOne_tmp rfl)), ?_⟩
 replace S : St A N w w44 [] [fScope a9 o7.2] := S.arr [] [0]
 obtain rfl := Option.some.inj H
 exact ⟨a9, rfl, S⟩
theorem types_Where_st {A : Nat → Prop} {N : Oth} {w : World} {a0 : Tb} {a_0 : Option Addr} {a1 : List Hyp} {s_1 : SlV} {a2 : PTerm} {s_2 : SlV} {a3 : Int} (S : St A N w w [] [oT a_0 a0, fS 2 Hyp.C s_1 a1, oDTerm s_2 a2.sub, oEt]) {k : Nat} {r : List Int × Int} (H : types_Where.f k a0 a1 a2 a3 = some r) :
  Calls PP F_types_Where #[.pointer a_0, s_1.v, .agg (Term.C (⟨a2.kind, a2.name, a2.other, a2.form, s_2⟩ : Term)).toArray, .int .i64 a3] w fun e w' => ∃ v, e = .returned v ∧ (∃ so0 : SlV, v = .tuple #[so0.v, .int .i64 r.2] ∧ St A N w w' [oS T_int 1 IC so0 r.1] []) := by
 unfold types_Where.f at H
 refine calls_of_wc (n := 33) fn_types_Where rfl rfl (by simp) ?_
 refine wc_seq (wc_region ?_)
 refine wl_box_agg rfl (by decide) fun b2 w1 hw1 => ?_
 replace S : St A N w w1 [oB b2 T_Term (Term.C (⟨a2.kind, a2.name, a2.other, a2.form, s_2⟩ : Term))] [oT a_0 a0, fS 2 Hyp.C s_1 a1, oDTerm s_2 a2.sub, oEt] := S.new hw1
 refine wd (does_as_nil) ?_
 refine wd (does_as_i rfl) ?_
 refine wl_nil ?_
 refine wc_seq (wc_region ?_)
 refine wd (does_mv_p rfl) ?_
 refine wd (does_mv_l rfl) ?_
 refine wd (does_load_agg ag_Term rfl ((S.blk 0).all _ (Term.len _)) (Term.len _)) ?_
 refine wd (does_mv_i rfl) ?_
 refine wl_lits (C := IC) (l := [a3]) (vs := [.int .i64 a3]) sl_L_int el_int.zero rfl rfl (fun _ _ => rfl) (by decide) rfl (by decide) fun b4 w3 s5 hBw3 hw3 => ?_
 replace S : St A N w w3 [oS T_int 1 IC s5 ([a3]), oB b2 T_Term (Term.C (⟨a2.kind, a2.name, a2.other, a2.form, s_2⟩ : Term))] [oT a_0 a0, fS 2 Hyp.C s_1 a1, oDTerm s_2 a2.sub, oEt] := S.lit hBw3 hw3 (by simp)
 obtain ⟨r6, er6, H⟩ := bind_ex H
 obtain ⟨B8, MB8, SB8, back⟩ := S.sub [0, 1, 2] [oS T_int 1 IC s5 ([a3])] [oB b2 T_Term (Term.C (⟨a2.kind, a2.name, a2.other, a2.form, s_2⟩ : Term))]
 refine wl_call (does_call ca_types_ahead) (by decide) (types_ahead_st (a2 := a2) SB8 er6) ?_
 rintro _ w7 ⟨a9, rfl, S2⟩
 replace S : St A N w w7 [oB b2 T_Term (Term.C (⟨a2.kind, a2.name, a2.other, a2.form, s_2⟩ : Term))] [fScope a9 r6.1, oT a_0 a0, fS 2 Hyp.C s_1 a1, oDTerm s_2 a2.sub, oEt] := back _ _ _ _ _ S2 rfl rfl
 clear back S2 SB8
 refine wd (does_mv_t rfl) ?_
 refine wd (does_extract rfl rfl) ?_
 refine wd (does_extract rfl rfl) ?_
 refine wd (does_as_p rfl) ?_
 refine wd (does_as_i rfl) ?_
 refine wl_nil ?_
 refine wc_seq (wc_seq (wc_region ?_))
 refine wd (does_mv_i rfl) ?_
 refine wd (does_ne rfl rfl) ?_
 refine wl_nil ?_
 refine wc_if rfl (fun hc10 => ?_) (fun hc10 => ?_)
 ·replace H := if_t hc10 H
  refine wc_seq (wc_region ?_)
  refine wd (does_mv_i rfl) ?_
  refine wd (does_as_nil) ?_
  refine wd (does_as_i rfl) ?_
  refine wl_nil ?_
  refine wc_ret ?_
  replace S : St A N w w7 [oS T_int 1 IC SlV.nil ([] : List Int), oB b2 T_Term (Term.C (⟨a2.kind, a2.name, a2.other, a2.form, s_2⟩ : Term))] [fScope a9 r6.1, oT a_0 a0, fS 2 Hyp.C s_1 a1, oDTerm s_2 a2.sub, oEt] := S.nil T_int 1 IC
  refine ⟨_, (rets2 (retOne_tmp rfl) (retOne_tmp rfl)), ?_⟩
  replace S : St A N w w7 [oS T_int 1 IC SlV.nil ([] : List Int)] [] := S.arr [0] []
  obtain rfl := Option.some.inj H
  exact ⟨SlV.nil, rfl, S⟩
 replace H := if_f hc10 H
 refine wc_skip ?_
 refine wc_seq (wc_region ?_)
 refine wd (does_mv_p rfl) ?_
 refine wd (Does.to (v' := .agg (Checker.C (⟨a_0⟩ : Checker)).toArray) (does_buildv (vs := [(0, .pointer a_0)]) bu_Checker (consP rfl rfl) (Bld.one rfl rfl (by rw [Checker.len]; decide) (Checker.set_t _ _) Bld.nil)) rfl) ?_
 refine wd (does_load_agg ag_Term rfl ((S.blk 0).all _ (Term.len _)) (Term.len _)) ?_
 refine wd (does_mv_p rfl) ?_
 refine wd (does_mv_i rfl) ?_
 obtain ⟨r11, er11, H⟩ := bind_ex H
 obtain ⟨B13, MB13, SB13, back⟩ := S.calln 0 ((.z 1 rfl (.z 3 rfl (.z 0 rfl (.z 4 rfl .nil)))))
 refine wl_call (does_call ca_types_checker_checked) (by decide) (types_checker_checked_st (a0 := (⟨a0⟩ : PChecker)) (a1 := a2) SB13 er11) ?_
 rintro v14 w12 ⟨_, rfl, S2⟩
 replace S : St A N w w12 [oE v14 r11, oB b2 T_Term (Term.C (⟨a2.kind, a2.name, a2.other, a2.form, s_2⟩ : Term))] [fScope a9 r6.1, oT a_0 a0, fS 2 Hyp.C s_1 a1, oDTerm s_2 a2.sub, oEt] := back _ _ _ _ S2 rfl
 clear back S2 SB13
 obtain ⟨r15, er15, H⟩ := bind_ex H
 obtain ⟨B17, MB17, SB17, back⟩ := S.calln 1 ((.z 4 rfl .nil))
 refine wl_call (does_call ca_types_code) (by decide) (types_code_st (a0 := r11) SB17 er15) ?_
 rintro _ w16 ⟨s18, rfl, S2⟩
 replace S : St A N w w16 [oS T_int 1 IC s18 r15.1, oB b2 T_Term (Term.C (⟨a2.kind, a2.name, a2.other, a2.form, s_2⟩ : Term))] [fScope a9 r6.1, oT a_0 a0, fS 2 Hyp.C s_1 a1, oDTerm s_2 a2.sub, oEt] := back _ _ _ _ S2 rfl
 clear back S2 SB17
 refine wd (does_extract rfl rfl) ?_
 refine wd (does_extract rfl rfl) ?_
 refine wd (does_as_l rfl) ?_
 refine wd (does_as_i rfl) ?_
 refine wl_nil ?_
 refine wc_ret ?_
 refine ⟨_, (rets2 (retOne_tmp rfl) (retOne_tmp rfl)), ?_⟩
 replace S : St A N w w16 [oS T_int 1 IC s18 r15.1] [] := S.arr [0] []
 obtain rfl := Option.some.inj H
 exact ⟨s18, rfl, S⟩
theorem types_Check_st {A : Nat → Prop} {N : Oth} {w : World} {a0 : Tb} {a_0 : Option Addr} {a1 : List Hyp} {s_1 : SlV} {a2 : PTerm} {s_2 : SlV} {a3 : Int} (S : St A N w w [] [oT a_0 a0, fS 2 Hyp.C s_1 a1, oDTerm s_2 a2.sub, oEt]) {k : Nat} {r : Int} (H : types_Check.f k a0 a1 a2 a3 = some r) :
  Calls PP F_types_Check #[.pointer a_0, s_1.v, .agg (Term.C (⟨a2.kind, a2.name, a2.other, a2.form, s_2⟩ : Term)).toArray, .int .i64 a3] w fun e w' => ∃ v, e = .returned v ∧ (v = .int .i64 r ∧ St A N w w' [] []) := by
 unfold types_Check.f at H
 refine calls_of_wc (n := 20) fn_types_Check rfl rfl (by simp) ?_
 refine wc_seq (wc_region ?_)
 refine wl_box_agg rfl (by decide) fun b2 w1 hw1 => ?_
 replace S : St A N w w1 [oB b2 T_Term (Term.C (⟨a2.kind, a2.name, a2.other, a2.form, s_2⟩ : Term))] [oT a_0 a0, fS 2 Hyp.C s_1 a1, oDTerm s_2 a2.sub, oEt] := S.new hw1
 refine wd (does_as_i rfl) ?_
 refine wl_nil ?_
 refine wc_seq (wc_region ?_)
 refine wd (does_mv_p rfl) ?_
 refine wd (does_mv_l rfl) ?_
 refine wd (does_load_agg ag_Term rfl ((S.blk 0).all _ (Term.len _)) (Term.len _)) ?_
 refine wd (does_mv_i rfl) ?_
 obtain ⟨r3, er3, H⟩ := bind_ex H
 obtain ⟨B5, MB5, SB5, back⟩ := S.calln 0 ((.z 0 rfl (.z 1 rfl (.z 2 rfl (.z 3 rfl .nil)))))
 refine wl_call (does_call ca_types_Where) (by decide) (types_Where_st (a2 := a2) SB5 er3) ?_
 rintro _ w4 ⟨s6, rfl, S2⟩
 replace S : St A N w w4 [oS T_int 1 IC s6 r3.1, oB b2 T_Term (Term.C (⟨a2.kind, a2.name, a2.other, a2.form, s_2⟩ : Term))] [oT a_0 a0, fS 2 Hyp.C s_1 a1, oDTerm s_2 a2.sub, oEt] := back _ _ _ _ S2 rfl
 clear back S2 SB5
 refine wd (does_mv_t rfl) ?_
 refine wd (does_extract rfl rfl) ?_
 refine wd (does_extract rfl rfl) ?_
 refine wd (does_as_l rfl) ?_
 refine wd (does_as_i rfl) ?_
 refine wl_nil ?_
 refine wc_seq (wc_region ?_)
 refine wd (does_mv_i rfl) ?_
 refine wd (does_as_i rfl) ?_
 refine wl_nil ?_
 refine wc_ret ?_
 refine ⟨_, (rets1 (retOne_tmp rfl)), ?_⟩
 replace S : St A N w w4 [] [] := S.arr [] []
 obtain rfl := Option.some.inj H
 exact ⟨rfl, S⟩
theorem types_Infer_st {A : Nat → Prop} {N : Oth} {w : World} {a0 : Tb} {a_0 : Option Addr} {a1 : List Hyp} {s_1 : SlV} {a2 : PTerm} {s_2 : SlV} (S : St A N w w [] [oT a_0 a0, fS 2 Hyp.C s_1 a1, oDTerm s_2 a2.sub, oEt]) {k : Nat} {r : Int × Int} (H : types_Infer.f k a0 a1 a2 = some r) :
  Calls PP F_types_Infer #[.pointer a_0, s_1.v, .agg (Term.C (⟨a2.kind, a2.name, a2.other, a2.form, s_2⟩ : Term)).toArray] w fun e w' => ∃ v, e = .returned v ∧ (v = .tuple #[.int .i64 r.1, .int .i64 r.2] ∧ St A N w w' [] []) := by
 unfold types_Infer.f at H
 refine calls_of_wc (n := 39) fn_types_Infer rfl rfl (by simp) ?_
 refine wc_seq (wc_region ?_)
 refine wl_box_agg rfl (by decide) fun b2 w1 hw1 => ?_
 replace S : St A N w w1 [oB b2 T_Term (Term.C (⟨a2.kind, a2.name, a2.other, a2.form, s_2⟩ : Term))] [oT a_0 a0, fS 2 Hyp.C s_1 a1, oDTerm s_2 a2.sub, oEt] := S.new hw1
 refine wd (does_as_i rfl) ?_
 refine wd (does_as_i rfl) ?_
 refine wl_nil ?_
 refine wc_seq (wc_region ?_)
 refine wd (does_mv_p rfl) ?_
 refine wd (does_mv_l rfl) ?_
 refine wd (does_load_agg ag_Term rfl ((S.blk 0).all _ (Term.len _)) (Term.len _)) ?_
 replace S : St A N w w1 [oS T_int 1 IC SlV.nil ([] : List Int), oB b2 T_Term (Term.C (⟨a2.kind, a2.name, a2.other, a2.form, s_2⟩ : Term))] [oT a_0 a0, fS 2 Hyp.C s_1 a1, oDTerm s_2 a2.sub, oEt] := S.nil T_int 1 IC
 obtain ⟨r3, er3, H⟩ := bind_ex H
 obtain ⟨B5, MB5, SB5, back⟩ := S.sub [0, 1, 2] [oS T_int 1 IC SlV.nil ([] : List Int)] [oB b2 T_Term (Term.C (⟨a2.kind, a2.name, a2.other, a2.form, s_2⟩ : Term))]
 refine wl_call (does_callg ca_types_ahead (cons2 rfl (cons2 rfl (cons2 rfl (cons2 SlV.nil_eq rfl))))) (by decide) (types_ahead_st (a2 := a2) SB5 er3) ?_
 rintro _ w4 ⟨a6, rfl, S2⟩
 replace S : St A N w w4 [oB b2 T_Term (Term.C (⟨a2.kind, a2.name, a2.other, a2.form, s_2⟩ : Term))] [fScope a6 r3.1, oT a_0 a0, fS 2 Hyp.C s_1 a1, oDTerm s_2 a2.sub, oEt] := back _ _ _ _ _ S2 rfl rfl
 clear back S2 SB5
 refine wd (does_mv_t rfl) ?_
 refine wd (does_extract rfl rfl) ?_
 refine wd (does_extract rfl rfl) ?_
 refine wd (does_as_p rfl) ?_
 refine wd (does_as_i rfl) ?_
 refine wl_nil ?_
 refine wc_seq (wc_seq (wc_region ?_))
 refine wd (does_mv_i rfl) ?_
 refine wd (does_ne rfl rfl) ?_
 refine wl_nil ?_
 refine wc_if rfl (fun hc7 => ?_) (fun hc7 => ?_)
 ·replace H := if_t hc7 H
  refine wc_seq (wc_region ?_)
  refine wd (does_mv_i rfl) ?_
  refine wd (does_as_i rfl) ?_
  refine wd (does_as_i rfl) ?_
  refine wl_nil ?_
  refine wc_ret ?_
  refine ⟨_, (rets2 (retOne_tmp rfl) (retOne_tmp rfl)), ?_⟩
  replace S : St A N w w4 [] [] := S.arr [] []
  obtain rfl := Option.some.inj H
  exact ⟨rfl, S⟩
 replace H := if_f hc7 H
 refine wc_skip ?_
 refine wc_seq (wc_region ?_)
 refine wd (does_mv_p rfl) ?_
 refine wd (Does.to (v' := .agg (Checker.C (⟨a_0⟩ : Checker)).toArray) (does_buildv (vs := [(0, .pointer a_0)]) bu_Checker (consP rfl rfl) (Bld.one rfl rfl (by rw [Checker.len]; decide) (Checker.set_t _ _) Bld.nil)) rfl) ?_
 refine wd (does_load_agg ag_Term rfl ((S.blk 0).all _ (Term.len _)) (Term.len _)) ?_
 refine wd (does_mv_p rfl) ?_
 obtain ⟨r8, er8, H⟩ := bind_ex H
 obtain ⟨B10, MB10, SB10, back⟩ := S.calln 0 ((.z 1 rfl (.z 3 rfl (.z 0 rfl (.z 4 rfl .nil)))))
 refine wl_call (does_call ca_types_checker_told) (by decide) (types_checker_told_st (a0 := (⟨a0⟩ : PChecker)) (a1 := a2) SB10 er8) ?_
 rintro _ w9 ⟨v11, rfl, S2⟩
 replace S : St A N w w9 [oE v11 r8.2, oB b2 T_Term (Term.C (⟨a2.kind, a2.name, a2.other, a2.form, s_2⟩ : Term))] [fScope a6 r3.1, oT a_0 a0, fS 2 Hyp.C s_1 a1, oDTerm s_2 a2.sub, oEt] := back _ _ _ _ S2 rfl
 clear back S2 SB10
 refine wd (does_mv_t rfl) ?_
 refine wd (does_extract rfl rfl) ?_
 refine wd (does_extract rfl rfl) ?_
 refine wd (does_as_i rfl) ?_
 refine wd (does_assign rfl) ?_
 refine wl_nil ?_
 refine wc_seq (wc_seq (wc_region ?_))
 refine wd (does_move rfl) ?_
 obtain ⟨r12, er12, H⟩ := bind_ex H
 obtain ⟨B14, MB14, SB14, back⟩ := S.calln 1 ((.z 4 rfl .nil))
 refine wl_call (does_call ca_types_code) (by decide) (types_code_st (a0 := r8.2) SB14 er12) ?_
 rintro _ w13 ⟨s15, rfl, S2⟩
 replace S : St A N w w13 [oS T_int 1 IC s15 r12.1, oB b2 T_Term (Term.C (⟨a2.kind, a2.name, a2.other, a2.form, s_2⟩ : Term))] [fScope a6 r3.1, oT a_0 a0, fS 2 Hyp.C s_1 a1, oDTerm s_2 a2.sub, oEt] := back _ _ _ _ S2 rfl
 clear back S2 SB14
 refine wd (does_mv_t rfl) ?_
 refine wd (does_extract rfl rfl) ?_
 refine wd (does_extract rfl rfl) ?_
 refine wd (does_as_i rfl) ?_
 refine wl_nil ?_
 refine wc_seq (wc_region ?_)
 refine wd (does_mv_i rfl) ?_
 refine wd (does_ne rfl rfl) ?_
 refine wl_nil ?_
 refine wc_if rfl (fun hc16 => ?_) (fun hc16 => ?_)
 ·replace H := if_t hc16 H
  refine wc_seq (wc_region ?_)
  refine wd (does_mv_i rfl) ?_
  refine wd (does_as_i rfl) ?_
  refine wd (does_as_i rfl) ?_
  refine wl_nil ?_
  refine wc_ret ?_
  refine ⟨_, (rets2 (retOne_tmp rfl) (retOne_tmp rfl)), ?_⟩
  replace S : St A N w w13 [] [] := S.arr [] []
  obtain rfl := Option.some.inj H
  exact ⟨rfl, S⟩
 replace H := if_f hc16 H
 refine wc_skip ?_
 refine wc_seq (wc_region ?_)
 refine wd (does_mv_i rfl) ?_
 refine wd (does_as_i rfl) ?_
 refine wd (does_as_i rfl) ?_
 refine wl_nil ?_
 refine wc_ret ?_
 refine ⟨_, (rets2 (retOne_tmp rfl) (retOne_tmp rfl)), ?_⟩
 replace S : St A N w w13 [] [] := S.arr [] []
 obtain rfl := Option.some.inj H
 exact ⟨rfl, S⟩
end Go.Proofs.YtjebgcoknpcadaaDoor
end
