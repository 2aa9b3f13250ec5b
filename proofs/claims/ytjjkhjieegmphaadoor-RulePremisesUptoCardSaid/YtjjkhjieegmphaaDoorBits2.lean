/- Contracts of the bits' functions, second part. -/
import Derived.Test.YtjjkhjieegmphaaDoorBits1
namespace Go.Proofs.YtjjkhjieegmphaaDoor
open Gw Go.RowKit
set_option linter.unusedVariables false
set_option linter.unusedSimpArgs false

theorem Bits.ext_w {a b : Bits} (h : ∀ i, i < 16 → a.w i = b.w i) : a = b := by
  apply Vector.ext
  intro i hi
  have := h i hi
  simpa [Bits.w, hi] using this
/-- a set by its words -/
def Bits.mk (f : Nat → Int) : Bits := Vector.ofFn fun i => f i.1
theorem Bits.w_mk (f : Nat → Int) (i : Nat) (h : i < 16) : (Bits.mk f).w i = f i := by simp [Bits.w, Bits.mk, h]
theorem Bits.w_put (a : Bits) (i j : Nat) (y : Int) (hj : j < 16) : (a.put i y).w j = if i = j then y else a.w j := by
  have h : i < 16 ∨ ¬ i < 16 := Decidable.em _
  simp only [Bits.w, Bits.put, Vector.toList_setIfInBounds, List.getD_eq_getElem?_getD, List.getElem?_set]
  split
  · subst_vars; simp [hj]
  · rfl
theorem Bits.w_big (a : Bits) (i : Nat) (h : 16 ≤ i) : a.w i = 0 := by simp [Bits.w, h]
def Bits.zip (g : Int → Int → Int) (a b : Bits) : Bits := Bits.mk fun i => g (a.w i) (b.w i)
def Bits.zipTo (g : Int → Int → Int) (a b : Bits) (x : Nat) : Bits := Bits.mk fun i => if i < x then g (a.w i) (b.w i) else a.w i
theorem Bits.zipTo_zero (g : Int → Int → Int) (a b : Bits) : Bits.zipTo g a b 0 = a := Bits.ext_w fun i hi => by rw [Bits.zipTo, Bits.w_mk _ _ hi]; simp
theorem Bits.zipTo_all (g : Int → Int → Int) (a b : Bits) : Bits.zipTo g a b 16 = Bits.zip g a b := Bits.ext_w fun i hi => by rw [Bits.zipTo, Bits.zip, Bits.w_mk _ _ hi, Bits.w_mk _ _ hi, if_pos hi]
theorem zip_step {g : Int → Int → Int} {a b : Bits} {x : Nat} (h : x < 16) : (Bits.zipTo g a b x).put (0 + (x : Int).toNat * 1) (g ((Bits.zipTo g a b x).w (0 + (x : Int).toNat * 1)) (b.w (0 + (x : Int).toNat * 1))) = Bits.zipTo g a b (x + 1) := by
  simp only [Int.toNat_natCast, Nat.mul_one, Nat.zero_add]
  refine Bits.ext_w fun i hi => ?_
  rw [Bits.w_put _ _ _ _ hi, Bits.zipTo, Bits.w_mk _ _ h, Bits.w_mk _ _ hi, Bits.zipTo, Bits.w_mk _ _ hi]
  by_cases e : x = i
  · subst e; simp
  · have : i < x + 1 ↔ i < x := by omega
    simp [e, this]

theorem bits_Union_1_ok (w : World) (x y : Int) : Calls PP F_bits_Union_1 #[.int .u64 x, .int .u64 y] w fun e w' => ∃ v, e = .returned v ∧ (v = .int .u64 (bitsOp .or .u64 x y) ∧ Ext w w') := by
  refine calls_of_wc (n := 8) fn_bits_Union_1 rfl rfl (by simp) ?_
  have E := Ext.refl w
  refine wc_seq ?_
  refine wc_region ?_
  refine wl_does (does_as_i rfl) (by decide) ?_
  refine wl_nil ?_
  refine wc_seq ?_
  refine wc_region ?_
  refine wl_does (does_mv_i rfl) (by decide) ?_
  refine wl_does (does_mv_i rfl) (by decide) ?_
  refine wl_does (does_bits (by simp) rfl rfl) (by decide) ?_
  refine wl_does (does_as_i rfl) (by decide) ?_
  refine wl_nil ?_
  refine wc_ret ?_
  exact ⟨_, (rets1 (retOne_tmp rfl)), rfl, E⟩

theorem bits_Minus_1_ok (w : World) (x y : Int) : Calls PP F_bits_Minus_1 #[.int .u64 x, .int .u64 y] w fun e w' => ∃ v, e = .returned v ∧ (v = .int .u64 (bitsOp .andNot .u64 x y) ∧ Ext w w') := by
  refine calls_of_wc (n := 8) fn_bits_Minus_1 rfl rfl (by simp) ?_
  have E := Ext.refl w
  refine wc_seq ?_
  refine wc_region ?_
  refine wl_does (does_as_i rfl) (by decide) ?_
  refine wl_nil ?_
  refine wc_seq ?_
  refine wc_region ?_
  refine wl_does (does_mv_i rfl) (by decide) ?_
  refine wl_does (does_mv_i rfl) (by decide) ?_
  refine wl_does (does_bits (by simp) rfl rfl) (by decide) ?_
  refine wl_does (does_as_i rfl) (by decide) ?_
  refine wl_nil ?_
  refine wc_ret ?_
  exact ⟨_, (rets1 (retOne_tmp rfl)), rfl, E⟩

theorem bits_each_ok (w : World) (a b : Bits) (g : Int → Int → Int) {k : FuncId} {fi ca : Array Value} (hk : Callable PP k) (hf : ∀ x y u, Calls PP k (fi.toList ++ [Value.int .u64 x, Value.int .u64 y] ++ ca.toList).toArray u fun e w' => ∃ v, e = .returned v ∧ (v = .int .u64 (g x y) ∧ Ext u w')) : Calls PP F_bits_each #[.agg a.C.toArray, .agg b.C.toArray, .func (.func k) fi ca] w fun e w' => ∃ v, e = .returned v ∧ (v = .agg (Bits.C (Bits.zip g a b)).toArray ∧ Ext w w') := by
  refine calls_of_wc (n := 23) fn_bits_each rfl rfl (by simp) ?_
  have E := Ext.refl w
  refine wc_seq ?_
  refine wc_region ?_
  refine wl_box_agg rfl (by decide) fun b3 w1 h1 => ?_
  have l_b3 : w.heap.size ≤ b3 := by have := h1.at_; have := E.size; omega
  have B3 := h1.blk
  replace E := E.thenExt h1.ext
  refine wl_box_agg rfl (by decide) fun b4 w2 h2 => ?_
  have l_b4 : w.heap.size ≤ b4 := by have := h2.at_; have := E.size; omega
  have o_b4_b3 : b3 < b4 := by have := B3.lt; have := h2.at_; omega
  have B4 := h2.blk
  replace B3 := B3.ext h2.ext
  replace E := E.thenExt h2.ext
  refine wl_alloc ze_Bits (by decide) fun b6 w3 h3 => ?_
  have l_b6 : w.heap.size ≤ b6 := by have := h3.at_; have := E.size; omega
  have o_b6_b3 : b3 < b6 := by have := B3.lt; have := h3.at_; omega
  have o_b6_b4 : b4 < b6 := by have := B4.lt; have := h3.at_; omega
  have B6 := h3.blk
  replace B3 := B3.ext h3.ext
  replace B4 := B4.ext h3.ext
  replace E := E.thenExt h3.ext
  refine wl_nil ?_
  refine wc_seq ?_
  refine wc_seq ?_
  refine wc_region ?_
  refine wl_does (does_mv_i rfl) (by decide) ?_
  refine wl_nil ?_
  refine wc_block ?_
  refine wc_loopm (α := Nat) [7, 8, 9, 10, 11, 12, 13, 14, 15, 16, 17, 18, 19, 20, 21] (fun x fr W => (fr 8 = .int .i64 (x : Nat)) ∧ (Chg (fun i => w.heap.size ≤ i ∧ i ≠ b4 ∧ i ≠ b6) w3 W) ∧ (Blk W b3 T_Bits (Bits.C (Bits.zipTo g a b x))) ∧ (x ≤ 16)) (fun x => 16 - x) 0 ⟨rfl, Chg.refl _ _, by rw [Bits.zipTo_zero]; exact B3, by omega⟩ ?_
  rintro x g0 u0 ⟨s0_8, K0, B3, hx⟩
  replace B4 := B4.chg K0 (fun (e : w.heap.size ≤ b4 ∧ b4 ≠ b4 ∧ b4 ≠ b6) => by omega)
  replace B6 := B6.chg K0 (fun (e : w.heap.size ≤ b6 ∧ b6 ≠ b4 ∧ b6 ≠ b6) => by omega)
  replace E := E.thenChg K0 (fun i hi e => absurd hi (by have := e.1; omega))
  refine wc_seq ?_
  refine wc_region ?_
  refine wl_does (does_lt s0_8 rfl) (by decide) ?_
  refine wl_nil ?_
  refine wc_seq ?_
  refine wc_if rfl (fun hc1 => ?_) (fun hc1 => ?_)
  all_goals try simp only [decide_eq_true_eq, decide_eq_false_iff_not, Bool.and_eq_true, Bool.or_eq_true, Bool.and_eq_false_iff, Bool.or_eq_false_iff, Bool.not_eq_true', Bool.not_eq_false', Int.not_lt, Int.not_le, ne_eq, Decidable.not_not] at hc1
  rotate_left
  · refine wc_exit ?_
    refine wc_seq ?_
    refine wc_region ?_
    refine wl_does (does_load_agg ag_Bits rfl (B3.all _ (Bits.len _)) (Bits.len _)) (by decide) ?_
    refine wl_store_agg ag_Bits rfl rfl B6 (Bits.len _) (by rw [Bits.len]; decide) (Bits.one _) (store_all (Bits.len _)) fun w4 B h4 z4 => ?_
    replace B6 := B; clear B
    replace B3 := B3.chg h4 (fun (e : b3 = b6) => by omega)
    replace B4 := B4.chg h4 (fun (e : b4 = b6) => by omega)
    replace E := E.thenChg h4 (fun i hi (e : i = b6) => absurd hi (by omega))
    refine wl_nil ?_
    refine wc_ret ?_
    have hx16 : x = 16 := by omega
    exact ⟨_, (rets1 (retOne_agg ag_Bits rfl (B6.all _ (Bits.len _)) (Bits.len _))), by subst hx16; rw [Bits.zipTo_all], E⟩
  refine wc_skip ?_
  refine wc_seq ?_
  refine wc_block ?_
  refine wc_seq ?_
  refine wc_region ?_
  refine wl_does (does_mv_i s0_8) (by decide) ?_
  refine wl_does (does_as_i rfl) (by decide) ?_
  refine wl_nil ?_
  refine wc_quiet 9 (Ext u0) hmix (by kernel_rfl) (by kernel_rfl) (Ext.drawn _) ?_
  refine wq_does (fun v K => does_mv_i rfl) ?_
  refine wq_does (fun v K => does_mv_f rfl) ?_
  refine wq_does (fun v K => does_mv_i rfl) ?_
  refine wq_does (fun v K => does_indexArr ar_Bits rfl rfl (by omega) (by omega) rfl) ?_
  refine wq_does (fun v K => does_load on_uint64 rfl ((B3.ext K).cell (Bits.getw _ _ (by omega)))) ?_
  refine wq_does (fun v K => does_mv_i rfl) ?_
  refine wq_does (fun v K => does_indexArr ar_Bits rfl rfl (by omega) (by omega) rfl) ?_
  refine wq_does (fun v K => does_load on_uint64 rfl ((B4.ext K).cell (Bits.getw _ _ (by omega)))) ?_
  refine wq_call (fun v => does_callv hk rfl) (fun v K => hf _ _ _) (fun v v' K h => K.thenExt h) ?_
  refine wq_nil fun w5 K => ?_
  replace B3 := B3.ext K
  replace B4 := B4.ext K
  replace B6 := B6.ext K
  replace E := E.thenExt K
  replace K0 := K0.thenExt K
  clear K
  refine wl_does (does_indexArr ar_Bits rfl rfl (by omega) (by omega) rfl) (by decide) ?_
  refine wl_store on_uint64 rfl rfl B3 (by rw [Bits.len]; omega) rfl (Bits.setw _ _ _) fun w6 B h6 z6 => ?_
  replace B3 := B; clear B
  replace B4 := B4.chg h6 (fun (e : b4 = b3) => by omega)
  replace B6 := B6.chg h6 (fun (e : b6 = b3) => by omega)
  replace E := E.thenChg h6 (fun i hi (e : i = b3) => absurd hi (by omega))
  replace K0 := K0.thenChg h6 (fun i hi (e : i = b3) => (show w.heap.size ≤ i ∧ i ≠ b4 ∧ i ≠ b6 from by subst e; omega))
  refine wl_nil ?_
  refine wc_region ?_
  refine wl_does (does_addc s0_8 rfl (c := _) rfl (by omega) (by omega)) (by decide) ?_
  refine wl_does (does_mv_i rfl) (by decide) ?_
  refine wl_nil ?_
  rw [zip_step (by omega)] at B3
  exact ⟨rfl, ((((((((((((((((Dif.self _ _ _).upd rfl _).upd rfl _).upd rfl _).upd rfl _).upd rfl _).upd rfl _).upd rfl _).upd rfl _).upd rfl _).upd rfl _).upd rfl _).upd rfl _).upd rfl _).upd rfl _).upd rfl _), x + 1, ⟨rfl, K0, B3, by omega⟩, by (try dsimp only); omega⟩

theorem bits_Union_ok (w : World) (a b : Bits) : Calls PP F_bits_Union #[.agg a.C.toArray, .agg b.C.toArray] w fun e w' => ∃ v, e = .returned v ∧ (v = .agg (Bits.C (Bits.zip (bitsOp .or .u64) a b)).toArray ∧ Ext w w') := by
  refine calls_of_wc (n := 8) fn_bits_Union rfl rfl (by simp) ?_
  have E := Ext.refl w
  refine wc_seq ?_
  refine wc_region ?_
  refine wl_box_agg rfl (by decide) fun b2 w1 h1 => ?_
  have l_b2 : w.heap.size ≤ b2 := by have := h1.at_; have := E.size; omega
  have B2 := h1.blk
  replace E := E.thenExt h1.ext
  refine wl_box_agg rfl (by decide) fun b3 w2 h2 => ?_
  have l_b3 : w.heap.size ≤ b3 := by have := h2.at_; have := E.size; omega
  have o_b3_b2 : b2 < b3 := by have := B2.lt; have := h2.at_; omega
  have B3 := h2.blk
  replace B2 := B2.ext h2.ext
  replace E := E.thenExt h2.ext
  refine wl_alloc ze_Bits (by decide) fun b4 w3 h3 => ?_
  have l_b4 : w.heap.size ≤ b4 := by have := h3.at_; have := E.size; omega
  have o_b4_b2 : b2 < b4 := by have := B2.lt; have := h3.at_; omega
  have o_b4_b3 : b3 < b4 := by have := B3.lt; have := h3.at_; omega
  have B4 := h3.blk
  replace B2 := B2.ext h3.ext
  replace B3 := B3.ext h3.ext
  replace E := E.thenExt h3.ext
  refine wl_nil ?_
  refine wc_seq ?_
  refine wc_region ?_
  refine wl_does (does_load_agg ag_Bits rfl (B2.all _ (Bits.len _)) (Bits.len _)) (by decide) ?_
  refine wl_does (does_load_agg ag_Bits rfl (B3.all _ (Bits.len _)) (Bits.len _)) (by decide) ?_
  refine wl_call (does_call ca_bits_each) (by decide) (bits_each_ok _ _ _ (bitsOp .or .u64) ca_bits_Union_1 (fun x y u => bits_Union_1_ok u x y)) ?_
  rintro _ w4 ⟨rfl, h4⟩
  replace B2 := B2.ext h4
  replace B3 := B3.ext h4
  replace B4 := B4.ext h4
  replace E := E.thenExt h4
  refine wl_store_agg ag_Bits rfl rfl B4 (Bits.len _) (by rw [Bits.len]; decide) (Bits.one _) (store_all (Bits.len _)) fun w5 B h5 z5 => ?_
  replace B4 := B; clear B
  replace B2 := B2.chg h5 (fun (e : b2 = b4) => by omega)
  replace B3 := B3.chg h5 (fun (e : b3 = b4) => by omega)
  replace E := E.thenChg h5 (fun i hi (e : i = b4) => absurd hi (by omega))
  refine wl_nil ?_
  refine wc_ret ?_
  exact ⟨_, (rets1 (retOne_agg ag_Bits rfl (B4.all _ (Bits.len _)) (Bits.len _))), rfl, E⟩

theorem bits_Minus_ok (w : World) (a b : Bits) : Calls PP F_bits_Minus #[.agg a.C.toArray, .agg b.C.toArray] w fun e w' => ∃ v, e = .returned v ∧ (v = .agg (Bits.C (Bits.zip (bitsOp .andNot .u64) a b)).toArray ∧ Ext w w') := by
  refine calls_of_wc (n := 8) fn_bits_Minus rfl rfl (by simp) ?_
  have E := Ext.refl w
  refine wc_seq ?_
  refine wc_region ?_
  refine wl_box_agg rfl (by decide) fun b2 w1 h1 => ?_
  have l_b2 : w.heap.size ≤ b2 := by have := h1.at_; have := E.size; omega
  have B2 := h1.blk
  replace E := E.thenExt h1.ext
  refine wl_box_agg rfl (by decide) fun b3 w2 h2 => ?_
  have l_b3 : w.heap.size ≤ b3 := by have := h2.at_; have := E.size; omega
  have o_b3_b2 : b2 < b3 := by have := B2.lt; have := h2.at_; omega
  have B3 := h2.blk
  replace B2 := B2.ext h2.ext
  replace E := E.thenExt h2.ext
  refine wl_alloc ze_Bits (by decide) fun b4 w3 h3 => ?_
  have l_b4 : w.heap.size ≤ b4 := by have := h3.at_; have := E.size; omega
  have o_b4_b2 : b2 < b4 := by have := B2.lt; have := h3.at_; omega
  have o_b4_b3 : b3 < b4 := by have := B3.lt; have := h3.at_; omega
  have B4 := h3.blk
  replace B2 := B2.ext h3.ext
  replace B3 := B3.ext h3.ext
  replace E := E.thenExt h3.ext
  refine wl_nil ?_
  refine wc_seq ?_
  refine wc_region ?_
  refine wl_does (does_load_agg ag_Bits rfl (B2.all _ (Bits.len _)) (Bits.len _)) (by decide) ?_
  refine wl_does (does_load_agg ag_Bits rfl (B3.all _ (Bits.len _)) (Bits.len _)) (by decide) ?_
  refine wl_call (does_call ca_bits_each) (by decide) (bits_each_ok _ _ _ (bitsOp .andNot .u64) ca_bits_Minus_1 (fun x y u => bits_Minus_1_ok u x y)) ?_
  rintro _ w4 ⟨rfl, h4⟩
  replace B2 := B2.ext h4
  replace B3 := B3.ext h4
  replace B4 := B4.ext h4
  replace E := E.thenExt h4
  refine wl_store_agg ag_Bits rfl rfl B4 (Bits.len _) (by rw [Bits.len]; decide) (Bits.one _) (store_all (Bits.len _)) fun w5 B h5 z5 => ?_
  replace B4 := B; clear B
  replace B2 := B2.chg h5 (fun (e : b2 = b4) => by omega)
  replace B3 := B3.chg h5 (fun (e : b3 = b4) => by omega)
  replace E := E.thenChg h5 (fun i hi (e : i = b4) => absurd hi (by omega))
  refine wl_nil ?_
  refine wc_ret ?_
  exact ⟨_, (rets1 (retOne_agg ag_Bits rfl (B4.all _ (Bits.len _)) (Bits.len _))), rfl, E⟩

end Go.Proofs.YtjjkhjieegmphaaDoor
