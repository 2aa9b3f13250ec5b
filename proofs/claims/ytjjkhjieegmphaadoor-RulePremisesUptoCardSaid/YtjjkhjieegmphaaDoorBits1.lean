/- Contracts of the bits' functions (program and reference). -/
import Derived.Test.YtjjkhjieegmphaaDoorFacts
namespace Go.Proofs.YtjjkhjieegmphaaDoor
open Gw Go.RowKit
set_option linter.unusedVariables false
set_option linter.unusedSimpArgs false

/-- each word is one of 64 bits -/
def Bits.ok (b : Bits) : Prop := ∀ i, 0 ≤ b.w i ∧ b.w i < 18446744073709551616
/-- a number is in the set -/
def Bits.has (b : Bits) (n : Int) : Bool := decide (0 ≤ n) && decide (n < 1024) && (b.w (n / 64).toNat).toNat.testBit (n % 64).toNat
theorem bit_and_one (x : Int) (h0 : 0 ≤ x) (h1 : x < 18446744073709551616) : bitsOp .and .u64 x 1 = x % 2 := by
  have e : bitsOp .and .u64 x 1 = IntKind.u64.wrap ((BitVec.ofInt 64 x &&& BitVec.ofInt 64 1).toNat : Int) := rfl
  rw [e, BitVec.toNat_and, BitVec.toNat_ofInt, BitVec.toNat_ofInt]
  have e1 : ((1 : Int) % (2 ^ 64 : Nat)).toNat = 1 := by decide
  have e2 : (x % (2 ^ 64 : Nat)).toNat = x.toNat := by
    rw [Int.emod_eq_of_lt h0 (by simpa using h1)]
  rw [e1, e2, Nat.and_one_is_mod, IntWalk.u64_in _ ⟨by omega, by omega⟩]
  omega
theorem bit_test (x : Int) (k : Nat) (h0 : 0 ≤ x) (h1 : x < 18446744073709551616) (hk : k < 64) : decide (bitsOp .and .u64 (x.fdiv (2 ^ (min k IntKind.u64.bits))) 1 = 1) = x.toNat.testBit k := by
  have e : min k IntKind.u64.bits = k := Nat.min_eq_left (Nat.le_of_lt hk)
  rw [e]
  obtain ⟨y, rfl⟩ : ∃ y : Nat, x = y := ⟨x.toNat, by omega⟩
  have e2 : (y : Int).fdiv (2 ^ k) = ((y / 2 ^ k : Nat) : Int) := by
    have e3 : (2 : Int) ^ k = ((2 ^ k : Nat) : Int) := by simp
    rw [e3, Int.fdiv_eq_ediv_of_nonneg _ (Int.natCast_nonneg _)]
    rfl
  rw [e2, bit_and_one _ (Int.natCast_nonneg _) (by have := Nat.div_le_self y (2 ^ k); generalize y / 2 ^ k = z at *; omega)]
  simp only [Int.toNat_natCast, Nat.testBit_eq_decide_div_mod_eq]
  by_cases h : y / 2 ^ k % 2 = 1
  · rw [decide_eq_true h, decide_eq_true (by omega)]
  · rw [decide_eq_false h, decide_eq_false (by omega)]
theorem has_walk (b : Bits) (hb : b.ok) (n : Int) : (decide (0 ≤ n) && decide (n < 1024) && decide (bitsOp .and .u64 ((b.w (0 + (n / 64).toNat * 1)).fdiv (2 ^ (min (n % 64).toNat IntKind.u64.bits))) 1 = 1)) = b.has n := by
  unfold Bits.has
  rw [Nat.zero_add, Nat.mul_one, bit_test _ _ (hb _).1 (hb _).2 (by omega)]

theorem bits_inside_ok (w : World) (n : Int) : Calls PP F_bits_inside #[.int .i64 n] w fun e w' => ∃ v, e = .returned v ∧ (v = .bool (decide (0 ≤ n) && decide (n < 1024)) ∧ Ext w w') := by
  refine calls_of_wc (n := 9) fn_bits_inside rfl rfl (by simp) ?_
  have E := Ext.refl w
  refine wc_seq ?_
  refine wc_region ?_
  refine wl_does (does_as_b rfl) (by decide) ?_
  refine wl_nil ?_
  refine wc_seq ?_
  refine wc_region ?_
  refine wl_does (does_mv_i rfl) (by decide) ?_
  refine wl_does (does_ge rfl rfl) (by decide) ?_
  refine wl_does (does_mv_b rfl) (by decide) ?_
  refine wl_guard (j := 2) (pol := true) rfl rfl rfl (by decide) (fun hg => does_mv_i rfl) (by decide) ?_
  refine wl_guard (j := 2) (pol := true) rfl rfl rfl (by decide) (fun hg => does_lt (gv_yes hg) rfl) (by decide) ?_
  refine wl_does (does_and rfl (fun hp => (gv_yes (and_1 hp)))) (by decide) ?_
  refine wl_does (does_as_b rfl) (by decide) ?_
  refine wl_nil ?_
  refine wc_ret ?_
  exact ⟨_, (rets1 (retOne_tmp rfl)), rfl, E⟩

theorem bits_Has_ok (w : World) (b : Bits) (hb : b.ok) (n : Int) : Calls PP F_bits_Has #[.agg b.C.toArray, .int .i64 n] w fun e w' => ∃ v, e = .returned v ∧ (v = .bool (b.has n) ∧ Ext w w') := by
  refine calls_of_wc (n := 18) fn_bits_Has rfl rfl (by simp) ?_
  have E := Ext.refl w
  refine wc_seq ?_
  refine wc_region ?_
  refine wl_box_agg rfl (by decide) fun b2 w1 h1 => ?_
  have l_b2 : w.heap.size ≤ b2 := by have := h1.at_; have := E.size; omega
  have B2 := h1.blk
  replace E := E.thenExt h1.ext
  refine wl_does (does_as_b rfl) (by decide) ?_
  refine wl_nil ?_
  refine wc_seq ?_
  refine wc_region ?_
  refine wl_does (does_mv_i rfl) (by decide) ?_
  refine wl_call (does_call ca_bits_inside) (by decide) (bits_inside_ok _ _) ?_
  rintro _ w2 ⟨rfl, h2⟩
  replace B2 := B2.ext h2
  replace E := E.thenExt h2
  refine wl_does (does_mv_b rfl) (by decide) ?_
  refine wl_guard (j := 2) (pol := true) rfl rfl rfl (by decide) (fun hg => does_mv_i rfl) (by decide) ?_
  refine wl_guard (j := 2) (pol := true) rfl rfl rfl (by decide) (fun hg => does_quo_nat (gv_yes hg) rfl (by simp at hg; omega) (by simp at hg; omega) (by simp at hg; omega)) (by decide) ?_
  refine wl_guard (j := 2) (pol := true) rfl rfl rfl (by decide) (fun hg => does_indexArr ar_Bits rfl (gv_yes hg) (by simp at hg; omega) (by simp at hg; omega) rfl) (by decide) ?_
  refine wl_guard (j := 2) (pol := true) rfl rfl rfl (by decide) (fun hg => does_load on_uint64 (gv_yes hg) (B2.cell (Bits.getw _ _ (by simp at hg; omega)))) (by decide) ?_
  refine wl_guard (j := 2) (pol := true) rfl rfl rfl (by decide) (fun hg => does_mv_i rfl) (by decide) ?_
  refine wl_guard (j := 2) (pol := true) rfl rfl rfl (by decide) (fun hg => does_rem_nat (gv_yes hg) rfl (by simp at hg; omega) (by simp at hg; omega)) (by decide) ?_
  refine wl_guard (j := 2) (pol := true) rfl rfl rfl (by decide) (fun hg => does_shr (gv_yes hg) (gv_yes hg) (by simp at hg; omega)) (by decide) ?_
  refine wl_guard (j := 2) (pol := true) rfl rfl rfl (by decide) (fun hg => does_bits (by simp) (gv_yes hg) rfl) (by decide) ?_
  refine wl_guard (j := 2) (pol := true) rfl rfl rfl (by decide) (fun hg => does_eq (gv_yes hg) rfl) (by decide) ?_
  refine wl_does (does_and rfl (fun hp => (gv_yes (and_1 hp)))) (by decide) ?_
  refine wl_does (does_as_b rfl) (by decide) ?_
  refine wl_nil ?_
  refine wc_ret ?_
  exact ⟨_, (rets1 (retOne_tmp rfl)), congrArg Value.bool (has_walk b hb n), E⟩

theorem ref05_Has_ok (w : World) (b : Bits) (hb : b.ok) (n : Int) : Calls PP F_ref05_Has #[.agg b.C.toArray, .int .i64 n] w fun e w' => ∃ v, e = .returned v ∧ (v = .bool (b.has n) ∧ Ext w w') := by
  refine calls_of_wc (n := 23) fn_ref05_Has rfl rfl (by simp) ?_
  have E := Ext.refl w
  refine wc_seq ?_
  refine wc_region ?_
  refine wl_box_agg rfl (by decide) fun b2 w1 h1 => ?_
  have l_b2 : w.heap.size ≤ b2 := by have := h1.at_; have := E.size; omega
  have B2 := h1.blk
  replace E := E.thenExt h1.ext
  refine wl_does (does_as_b rfl) (by decide) ?_
  refine wl_nil ?_
  refine wc_seq ?_
  refine wc_region ?_
  refine wl_does (does_mv_i rfl) (by decide) ?_
  refine wl_does (does_ge rfl rfl) (by decide) ?_
  refine wl_does (does_mv_b rfl) (by decide) ?_
  refine wl_guard (j := 2) (pol := true) rfl rfl rfl (by decide) (fun hg => does_mv_i rfl) (by decide) ?_
  refine wl_guard (j := 2) (pol := true) rfl rfl rfl (by decide) (fun hg => does_lt (gv_yes hg) rfl) (by decide) ?_
  refine wl_does (does_and rfl (fun hp => (gv_yes (and_1 hp)))) (by decide) ?_
  refine wl_does (does_mv_b rfl) (by decide) ?_
  refine wl_guard (j := 6) (pol := true) rfl rfl rfl (by decide) (fun hg => does_mv_i rfl) (by decide) ?_
  refine wl_guard (j := 6) (pol := true) rfl rfl rfl (by decide) (fun hg => does_quo_nat (gv_yes hg) rfl (by simp at hg; omega) (by simp at hg; omega) (by simp at hg; omega)) (by decide) ?_
  refine wl_guard (j := 6) (pol := true) rfl rfl rfl (by decide) (fun hg => does_indexArr ar_Bits rfl (gv_yes hg) (by simp at hg; omega) (by simp at hg; omega) rfl) (by decide) ?_
  refine wl_guard (j := 6) (pol := true) rfl rfl rfl (by decide) (fun hg => does_load on_uint64 (gv_yes hg) (B2.cell (Bits.getw _ _ (by simp at hg; omega)))) (by decide) ?_
  refine wl_guard (j := 6) (pol := true) rfl rfl rfl (by decide) (fun hg => does_mv_i rfl) (by decide) ?_
  refine wl_guard (j := 6) (pol := true) rfl rfl rfl (by decide) (fun hg => does_rem_nat (gv_yes hg) rfl (by simp at hg; omega) (by simp at hg; omega)) (by decide) ?_
  refine wl_guard (j := 6) (pol := true) rfl rfl rfl (by decide) (fun hg => does_convc un_int un_uint (gv_yes hg) (c := n % 64) (IntWalk.u64_in _ ⟨by omega, by omega⟩)) (by decide) ?_
  refine wl_guard (j := 6) (pol := true) rfl rfl rfl (by decide) (fun hg => does_shr (gv_yes hg) (gv_yes hg) (by simp at hg; omega)) (by decide) ?_
  refine wl_guard (j := 6) (pol := true) rfl rfl rfl (by decide) (fun hg => does_bits (by simp) (gv_yes hg) rfl) (by decide) ?_
  refine wl_guard (j := 6) (pol := true) rfl rfl rfl (by decide) (fun hg => does_eq (gv_yes hg) rfl) (by decide) ?_
  refine wl_does (does_and rfl (fun hp => (gv_yes (and_1 hp)))) (by decide) ?_
  refine wl_does (does_as_b rfl) (by decide) ?_
  refine wl_nil ?_
  refine wc_ret ?_
  exact ⟨_, (rets1 (retOne_tmp rfl)), congrArg Value.bool (has_walk b hb n), E⟩

end Go.Proofs.YtjjkhjieegmphaaDoor
