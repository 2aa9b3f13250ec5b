/- Contracts of the bits' functions, third part: what makes and goes through sets. -/
import Derived.Test.YtjjkhjieegmphaaDoorBitsLaw
namespace Go.Proofs.YtjjkhjieegmphaaDoor
open Gw Go.RowKit
set_option linter.unusedVariables false
set_option linter.unusedSimpArgs false

/-- the library's table of trailing zeros lies where it was laid -/
def Tz (w : World) : Prop := Cells w 0 0 (Lib.deBruijn64tab.map fun z => Value.int .u8 (z : Nat))
theorem Tz.chg {S : Nat → Prop} {w w' : World} (h : Tz w) (hc : Chg S w w') (hs : ¬ S 0) : Tz w' := Cells.chg h hc hs
theorem Tz.ext {w w' : World} (h : Tz w) (hc : Ext w w') : Tz w' := h.chg hc (fun x => x)
theorem Tz.at {w : World} (h : Tz w) {i : Nat} (hi : i < 64) : w.cell? ⟨0, 0 + (i : Int).toNat * 1, none⟩ = some (.int .u8 (Lib.deBruijn64tab.getD i 0 : Nat)) := by
  have := h i (.int .u8 (Lib.deBruijn64tab.getD i 0 : Nat)) (by
    have hl : i < Lib.deBruijn64tab.length := hi
    rw [List.getElem?_map, List.getElem?_eq_getElem hl, List.getD_eq_getElem?_getD, List.getElem?_eq_getElem hl]; rfl)
  simpa using this
theorem Tz.lt {w : World} (h : Tz w) : 0 < w.heap.size := World.block_lt_of_cell? (a := ⟨_, _, none⟩) w (h.at (i := 0) (by decide))
theorem tz_conv {i : Nat} (hi : i < 64) : IntKind.i64.wrap ((Lib.deBruijn64tab.getD i 0 : Nat) : Int) = ((Lib.deBruijn64tab.getD i 0 : Nat) : Int) := by
  have : ∀ i, i < 64 → Lib.deBruijn64tab.getD i 0 < 64 := by decide
  have := this i hi
  exact IntWalk.i64_in _ ⟨by omega, by omega⟩
def Bits.listTo (b : Bits) (x : Nat) : List Nat := (List.range x).filter fun n => b.has n
theorem Bits.listTo_all (b : Bits) : b.listTo 1024 = b.list := rfl
theorem Bits.listTo_yes {b : Bits} {x : Nat} (h : b.has x = true) : b.listTo (x + 1) = b.listTo x ++ [x] := by simp [Bits.listTo, List.range_succ, List.filter_append, h]
theorem Bits.listTo_no {b : Bits} {x : Nat} (h : b.has x = false) : b.listTo (x + 1) = b.listTo x := by simp [Bits.listTo, List.range_succ, List.filter_append, h]
theorem Bits.listTo_len (b : Bits) (x : Nat) : (b.listTo x).length ≤ x := by simpa [Bits.listTo] using List.length_filter_le (fun n : Nat => b.has n) (List.range x)
def Bits.putS (b : Bits) (n : Int) : Bits × Int := if 0 ≤ n ∧ n < 1024 then (b.add n, 0) else (Bits.z, 50)
def Bits.ofl (l : List Int) : Bits := l.foldl Bits.add Bits.z
theorem Bits.ofl_push (l : List Int) (n : Int) : Bits.ofl (l ++ [n]) = (Bits.ofl l).add n := by simp [Bits.ofl]
theorem Bits.ofl_ok (l : List Int) : (Bits.ofl l).ok := by
  rcases List.eq_nil_or_concat l with rfl | ⟨l, a, rfl⟩
  · exact Bits.z_ok
  · rw [List.concat_eq_append, Bits.ofl_push]; exact Bits.add_ok _ _
theorem take_step {α : Type} {l : List α} {x : Nat} {a : α} (h : l[x]? = some a) : l.take (x + 1) = l.take x ++ [a] := by rw [List.take_add_one, h]; rfl
/-- the set of some numbers; nothing, if one has no place -/
def Bits.ofs (l : List Int) : Bits × Int := if ∀ n ∈ l, 0 ≤ n ∧ n < 1024 then (Bits.ofl l, 0) else (Bits.z, 50)
theorem Bits.ofs_ok (l : List Int) : (Bits.ofs l).1.ok := by unfold Bits.ofs; split; exact Bits.ofl_ok _; exact Bits.z_ok
theorem Bits.minus_ofs {b : Bits} (hb : b.ok) (n : Int) : b.minus (Bits.ofs [n]).1 = b.del n := by
  refine Bits.eq_of_has (Bits.minus_ok _ _) (Bits.del_ok _ _) fun m hm => ?_
  rw [Bits.minus_has, Bits.del_has]
  unfold Bits.ofs
  split
  · rename_i h
    have hn := h n (by simp)
    rw [show Bits.ofl [n] = Bits.z.add n from rfl, Bits.add_has _ _ _ hn, Bits.z_has, Bool.or_false, Bool.and_comm]
  · rename_i h
    have hn : ¬ (0 ≤ n ∧ n < 1024) := fun hn => h (by simpa using hn)
    rw [Bits.z_has, decide_eq_false (by omega)]; simp
def Bits.nextS (b : Bits) (n : Int) : Int × Bool := (b.next n.toNat).elim (0, false) fun k => ((k : Nat), true)
theorem Bits.nextS_none {b : Bits} {n : Int} (h : b.next n.toNat = none) : b.nextS n = (0, false) := congrArg (fun o : Option Nat => o.elim ((0 : Int), false) fun k => ((k : Nat), true)) h
theorem Bits.nextS_some {b : Bits} {n : Int} {k : Nat} (h : b.next n.toNat = some k) : b.nextS n = ((k : Int), true) := congrArg (fun o : Option Nat => o.elim ((0 : Int), false) fun k => ((k : Nat), true)) h
theorem nextS_fst {b : Bits} {n : Nat} {o : Option Nat} (h : b.next n = o) : (b.nextS (n : Int)).1 = o.elim 0 fun k => (k : Int) := by
  subst h; unfold Bits.nextS; rw [Int.toNat_natCast]; cases b.next n <;> rfl
theorem nextS_snd {b : Bits} {n : Nat} {o : Option Nat} (h : b.next n = o) : (b.nextS (n : Int)).2 = o.isSome := by
  subst h; unfold Bits.nextS; rw [Int.toNat_natCast]; cases b.next n <;> rfl
theorem Bits.next_big (b : Bits) {k : Nat} (h : 1024 ≤ k) : b.next k = none := Bits.next_none fun m h1 h2 => by omega
theorem Bits.from_walk {b : Bits} {k : Nat} (h : k < 1024) : b.put (0 + ((k : Int) / 64).toNat * 1) (bitsOp .and .u64 (b.w (0 + ((k : Int) / 64).toNat * 1)) (IntKind.u64.wrap (18446744073709551615 * 2 ^ (min ((k : Int) % 64).toNat IntKind.u64.bits)))) = b.from k := by
  have hr : k % 64 < 64 := by omega
  have e1 : ((k : Int) / 64).toNat = k / 64 := by omega
  have e2 : ((k : Int) % 64).toNat = k % 64 := by omega
  rw [e1, e2, shl_ones _ hr, Nat.zero_add, Nat.mul_one]
  rfl

theorem math_bits_TrailingZeros64_ok (w : World) (x : Int) (hz : Tz w) (hx : isW x) : Calls PP F_math_bits_TrailingZeros64 #[.int .u64 x] w fun e w' => ∃ v, e = .returned v ∧ (v = .int .i64 (Lib.ctz 64 x.toNat : Nat) ∧ Ext w w') := by
  have Z := hz
  refine calls_of_wc (n := 14) fn_math_bits_TrailingZeros64 rfl rfl (by simp) ?_
  have E := Ext.refl w
  refine wc_seq ?_
  refine wc_region ?_
  refine wl_does (does_as_i rfl) (by decide) ?_
  refine wl_nil ?_
  refine wc_seq ?_
  refine wc_seq ?_
  refine wc_region ?_
  refine wl_does (does_mv_i rfl) (by decide) ?_
  refine wl_does (does_eq rfl rfl) (by decide) ?_
  refine wl_nil ?_
  refine wc_if rfl (fun hc1 => ?_) (fun hc1 => ?_)
  all_goals try simp only [decide_eq_true_eq, decide_eq_false_iff_not, Bool.and_eq_true, Bool.or_eq_true, Bool.and_eq_false_iff, Bool.or_eq_false_iff, Bool.not_eq_true', Bool.not_eq_false', Int.not_lt, Int.not_le, ne_eq, Decidable.not_not] at hc1
  · refine wc_seq ?_
    refine wc_region ?_
    refine wl_does (does_as_i rfl) (by decide) ?_
    refine wl_nil ?_
    refine wc_ret ?_
    exact ⟨_, (rets1 (retOne_tmp rfl)), by subst hc1; rfl, E⟩
  refine wc_skip ?_
  obtain ⟨i, hi, he, ht⟩ := tz_walk hx hc1
  refine wc_seq ?_
  refine wc_region ?_
  refine wl_does (does_mv_i rfl) (by decide) ?_
  refine wl_does (does_mv_i rfl) (by decide) ?_
  refine wl_does (does_neg rfl) (by decide) ?_
  refine wl_does (does_bits (by simp) rfl rfl) (by decide) ?_
  refine wl_does (does_mul rfl rfl) (by decide) ?_
  refine wl_does (Does.val (does_shr rfl rfl (by omega)) (congrArg (Value.int .u64) he)) (by decide) ?_
  refine wl_does (does_indexArr ar_64_uint8 rfl rfl (by omega) (by omega) rfl) (by decide) ?_
  refine wl_does (does_load on_uint8 rfl (Z.at hi)) (by decide) ?_
  refine wl_does (does_convc un_uint8 un_int rfl (tz_conv hi)) (by decide) ?_
  refine wl_does (does_as_i rfl) (by decide) ?_
  refine wl_nil ?_
  refine wc_ret ?_
  exact ⟨_, (rets1 (retOne_tmp rfl)), congrArg (fun n : Nat => Value.int .i64 (n : Int)) ht, E⟩

theorem ref05_With_ok (w : World) (b : Bits) (n : Int) (hb : b.ok) (a0 : 0 ≤ n) (a1 : n < 1024) : Calls PP F_ref05_With #[.agg b.C.toArray, .int .i64 n] w fun e w' => ∃ v, e = .returned v ∧ (v = .agg (b.add n).C.toArray ∧ Ext w w') := by
  refine calls_of_wc (n := 18) fn_ref05_With rfl rfl (by simp) ?_
  have E := Ext.refl w
  refine wc_seq ?_
  refine wc_region ?_
  refine wl_box_agg rfl (by decide) fun b2 w1 h1 => ?_
  have l_b2 : w.heap.size ≤ b2 := by have := h1.at_; have := E.size; omega
  have B2 := h1.blk
  replace E := E.thenExt h1.ext
  refine wl_alloc ze_Bits (by decide) fun b4 w2 h2 => ?_
  have l_b4 : w.heap.size ≤ b4 := by have := h2.at_; have := E.size; omega
  have o_b4_b2 : b2 < b4 := by have := B2.lt; have := h2.at_; omega
  have B4 := h2.blk
  replace B2 := B2.ext h2.ext
  replace E := E.thenExt h2.ext
  refine wl_nil ?_
  refine wc_seq ?_
  refine wc_region ?_
  refine wl_does (does_mv_i rfl) (by decide) ?_
  refine wl_does (does_quo_nat rfl rfl (by omega) (by omega) (by omega)) (by decide) ?_
  refine wl_does (does_mv_i rfl) (by decide) ?_
  refine wl_does (does_quo_nat rfl rfl (by omega) (by omega) (by omega)) (by decide) ?_
  refine wl_does (does_indexArr ar_Bits rfl rfl (by omega) (by omega) rfl) (by decide) ?_
  refine wl_does (does_load on_uint64 rfl (B2.cell (Bits.getw _ _ (by omega)))) (by decide) ?_
  refine wl_does (does_mv_i rfl) (by decide) ?_
  refine wl_does (does_rem_nat rfl rfl (by omega) (by omega)) (by decide) ?_
  refine wl_does (does_convc un_int un_uint rfl (c := n % 64) (IntWalk.u64_in _ ⟨by omega, by omega⟩)) (by decide) ?_
  refine wl_does (does_shl rfl rfl (by omega)) (by decide) ?_
  refine wl_does (does_bits (by simp) rfl rfl) (by decide) ?_
  refine wl_does (does_indexArr ar_Bits rfl rfl (by omega) (by omega) rfl) (by decide) ?_
  refine wl_store on_uint64 rfl rfl B2 (by rw [Bits.len]; omega) rfl (Bits.setw _ _ _) fun w3 B h3 z3 => ?_
  replace B2 := B; clear B
  replace B4 := B4.chg h3 (fun (e : b4 = b2) => by omega)
  replace E := E.thenChg h3 (fun i hi (e : i = b2) => absurd hi (by omega))
  refine wl_nil ?_
  refine wc_seq ?_
  refine wc_region ?_
  refine wl_does (does_load_agg ag_Bits rfl (B2.all _ (Bits.len _)) (Bits.len _)) (by decide) ?_
  refine wl_store_agg ag_Bits rfl rfl B4 (Bits.len _) (by rw [Bits.len]; decide) (Bits.one _) (store_all (Bits.len _)) fun w4 B h4 z4 => ?_
  replace B4 := B; clear B
  replace B2 := B2.chg h4 (fun (e : b2 = b4) => by omega)
  replace E := E.thenChg h4 (fun i hi (e : i = b4) => absurd hi (by omega))
  refine wl_nil ?_
  refine wc_ret ?_
  exact ⟨_, (rets1 (retOne_agg ag_Bits rfl (B4.all _ (Bits.len _)) (Bits.len _))), by rw [Bits.put_add hb ⟨a0, a1⟩], E⟩

theorem ref05_Put_ok (w : World) (b : Bits) (n : Int) (hb : b.ok) : Calls PP F_ref05_Put #[.agg b.C.toArray, .int .i64 n] w fun e w' => ∃ v, e = .returned v ∧ (v = .tuple #[.agg (b.putS n).1.C.toArray, .int .i64 (b.putS n).2] ∧ Ext w w') := by
  refine calls_of_wc (n := 16) fn_ref05_Put rfl rfl (by simp) ?_
  have E := Ext.refl w
  refine wc_seq ?_
  refine wc_region ?_
  refine wl_box_agg rfl (by decide) fun b2 w1 h1 => ?_
  have l_b2 : w.heap.size ≤ b2 := by have := h1.at_; have := E.size; omega
  have B2 := h1.blk
  replace E := E.thenExt h1.ext
  refine wl_alloc ze_Bits (by decide) fun b4 w2 h2 => ?_
  have l_b4 : w.heap.size ≤ b4 := by have := h2.at_; have := E.size; omega
  have o_b4_b2 : b2 < b4 := by have := B2.lt; have := h2.at_; omega
  have B4 := h2.blk
  replace B2 := B2.ext h2.ext
  replace E := E.thenExt h2.ext
  refine wl_does (does_as_i rfl) (by decide) ?_
  refine wl_nil ?_
  refine wc_seq ?_
  refine wc_seq ?_
  refine wc_region ?_
  refine wl_does (does_mv_i rfl) (by decide) ?_
  refine wl_does (does_lt rfl rfl) (by decide) ?_
  refine wl_does (does_mv_b rfl) (by decide) ?_
  refine wl_guard (j := 2) (pol := false) rfl rfl rfl (by decide) (fun hg => does_mv_i rfl) (by decide) ?_
  refine wl_guard (j := 2) (pol := false) rfl rfl rfl (by decide) (fun hg => does_ge (gv_yes hg) rfl) (by decide) ?_
  refine wl_does (does_or rfl (fun hp => (gv_yes (and_1 hp)))) (by decide) ?_
  refine wl_nil ?_
  refine wc_if rfl (fun hc1 => ?_) (fun hc1 => ?_)
  all_goals try simp only [decide_eq_true_eq, decide_eq_false_iff_not, Bool.and_eq_true, Bool.or_eq_true, Bool.and_eq_false_iff, Bool.or_eq_false_iff, Bool.not_eq_true', Bool.not_eq_false', Int.not_lt, Int.not_le, ne_eq, Decidable.not_not] at hc1
  · refine wc_seq ?_
    refine wc_region ?_
    refine wl_does (does_build0 bz_Bits) (by decide) ?_
    refine wl_store_agg ag_Bits rfl rfl B4 (Bits.len _) (by rw [Bits.len]; decide) (Bits.one _) (store_all (Bits.len _)) fun w3 B h3 z3 => ?_
    replace B4 := B; clear B
    replace B2 := B2.chg h3 (fun (e : b2 = b4) => by omega)
    replace E := E.thenChg h3 (fun i hi (e : i = b4) => absurd hi (by omega))
    refine wl_does (does_as_i rfl) (by decide) ?_
    refine wl_nil ?_
    refine wc_ret ?_
    exact ⟨.tuple #[.agg Bits.z.C.toArray, .int .i64 50], (rets2 (retOne_agg ag_Bits rfl (B4.all _ (Bits.len _)) (Bits.len _)) (retOne_tmp rfl)), by rw [Bits.putS, if_neg (by omega)], E⟩
  refine wc_skip ?_
  refine wc_seq ?_
  refine wc_region ?_
  refine wl_does (does_load_agg ag_Bits rfl (B2.all _ (Bits.len _)) (Bits.len _)) (by decide) ?_
  refine wl_does (does_mv_i rfl) (by decide) ?_
  refine wl_call (does_call ca_ref05_With) (by decide) (ref05_With_ok _ _ _ hb (by omega) (by omega)) ?_
  rintro _ w4 ⟨rfl, h4⟩
  replace B2 := B2.ext h4
  replace B4 := B4.ext h4
  replace E := E.thenExt h4
  refine wl_store_agg ag_Bits rfl rfl B4 (Bits.len _) (by rw [Bits.len]; decide) (Bits.one _) (store_all (Bits.len _)) fun w5 B h5 z5 => ?_
  replace B4 := B; clear B
  replace B2 := B2.chg h5 (fun (e : b2 = b4) => by omega)
  replace E := E.thenChg h5 (fun i hi (e : i = b4) => absurd hi (by omega))
  refine wl_does (does_as_i rfl) (by decide) ?_
  refine wl_nil ?_
  refine wc_ret ?_
  exact ⟨.tuple #[.agg (b.add n).C.toArray, .int .i64 0], (rets2 (retOne_agg ag_Bits rfl (B4.all _ (Bits.len _)) (Bits.len _)) (retOne_tmp rfl)), by rw [Bits.putS, if_pos (by omega)], E⟩

theorem ref05_Drop_ok (w : World) (b : Bits) (n : Int) (hb : b.ok) : Calls PP F_ref05_Drop #[.agg b.C.toArray, .int .i64 n] w fun e w' => ∃ v, e = .returned v ∧ (v = .agg (b.del n).C.toArray ∧ Ext w w') := by
  refine calls_of_wc (n := 21) fn_ref05_Drop rfl rfl (by simp) ?_
  have E := Ext.refl w
  refine wc_seq ?_
  refine wc_region ?_
  refine wl_box_agg rfl (by decide) fun b2 w1 h1 => ?_
  have l_b2 : w.heap.size ≤ b2 := by have := h1.at_; have := E.size; omega
  have B2 := h1.blk
  replace E := E.thenExt h1.ext
  refine wl_alloc ze_Bits (by decide) fun b4 w2 h2 => ?_
  have l_b4 : w.heap.size ≤ b4 := by have := h2.at_; have := E.size; omega
  have o_b4_b2 : b2 < b4 := by have := B2.lt; have := h2.at_; omega
  have B4 := h2.blk
  replace B2 := B2.ext h2.ext
  replace E := E.thenExt h2.ext
  refine wl_nil ?_
  refine wc_seq ?_
  refine wc_seq ?_
  refine wc_region ?_
  refine wl_does (does_load_agg ag_Bits rfl (B2.all _ (Bits.len _)) (Bits.len _)) (by decide) ?_
  refine wl_does (does_mv_i rfl) (by decide) ?_
  refine wl_call (does_call ca_ref05_Has) (by decide) (ref05_Has_ok _ b hb n) ?_
  rintro _ w3 ⟨rfl, h3⟩
  replace B2 := B2.ext h3
  replace B4 := B4.ext h3
  replace E := E.thenExt h3
  refine wl_nil ?_
  refine wc_if rfl (fun hc1 => ?_) (fun hc1 => ?_)
  all_goals try simp only [decide_eq_true_eq, decide_eq_false_iff_not, Bool.and_eq_true, Bool.or_eq_true, Bool.and_eq_false_iff, Bool.or_eq_false_iff, Bool.not_eq_true', Bool.not_eq_false', Int.not_lt, Int.not_le, ne_eq, Decidable.not_not] at hc1
  · have hn : 0 ≤ n ∧ n < 1024 := by
      refine Decidable.byContradiction fun h => ?_
      rw [Bits.has_out b n (by omega)] at hc1; cases hc1
    refine wc_region ?_
    refine wl_does (does_mv_i rfl) (by decide) ?_
    refine wl_does (does_quo_nat rfl rfl (by omega) (by omega) (by omega)) (by decide) ?_
    refine wl_does (does_mv_i rfl) (by decide) ?_
    refine wl_does (does_quo_nat rfl rfl (by omega) (by omega) (by omega)) (by decide) ?_
    refine wl_does (does_indexArr ar_Bits rfl rfl (by omega) (by omega) rfl) (by decide) ?_
    refine wl_does (does_load on_uint64 rfl (B2.cell (Bits.getw _ _ (by omega)))) (by decide) ?_
    refine wl_does (does_mv_i rfl) (by decide) ?_
    refine wl_does (does_rem_nat rfl rfl (by omega) (by omega)) (by decide) ?_
    refine wl_does (does_convc un_int un_uint rfl (c := n % 64) (IntWalk.u64_in _ ⟨by omega, by omega⟩)) (by decide) ?_
    refine wl_does (does_shl rfl rfl (by omega)) (by decide) ?_
    refine wl_does (does_bits (by simp) rfl rfl) (by decide) ?_
    refine wl_does (does_indexArr ar_Bits rfl rfl (by omega) (by omega) rfl) (by decide) ?_
    refine wl_store on_uint64 rfl rfl B2 (by rw [Bits.len]; omega) rfl (Bits.setw _ _ _) fun w4 B h4 z4 => ?_
    replace B2 := B; clear B
    replace B4 := B4.chg h4 (fun (e : b4 = b2) => by omega)
    replace E := E.thenChg h4 (fun i hi (e : i = b2) => absurd hi (by omega))
    refine wl_nil ?_
    refine wc_seq ?_
    refine wc_region ?_
    refine wl_does (does_load_agg ag_Bits rfl (B2.all _ (Bits.len _)) (Bits.len _)) (by decide) ?_
    refine wl_store_agg ag_Bits rfl rfl B4 (Bits.len _) (by rw [Bits.len]; decide) (Bits.one _) (store_all (Bits.len _)) fun w5 B h5 z5 => ?_
    replace B4 := B; clear B
    replace B2 := B2.chg h5 (fun (e : b2 = b4) => by omega)
    replace E := E.thenChg h5 (fun i hi (e : i = b4) => absurd hi (by omega))
    refine wl_nil ?_
    refine wc_ret ?_
    exact ⟨_, (rets1 (retOne_agg ag_Bits rfl (B4.all _ (Bits.len _)) (Bits.len _))), by rw [Bits.put_del hb hn hc1], E⟩
  · refine wc_skip ?_
    refine wc_seq ?_
    refine wc_region ?_
    refine wl_does (does_load_agg ag_Bits rfl (B2.all _ (Bits.len _)) (Bits.len _)) (by decide) ?_
    refine wl_store_agg ag_Bits rfl rfl B4 (Bits.len _) (by rw [Bits.len]; decide) (Bits.one _) (store_all (Bits.len _)) fun w6 B h6 z6 => ?_
    replace B4 := B; clear B
    replace B2 := B2.chg h6 (fun (e : b2 = b4) => by omega)
    replace E := E.thenChg h6 (fun i hi (e : i = b4) => absurd hi (by omega))
    refine wl_nil ?_
    refine wc_ret ?_
    exact ⟨_, (rets1 (retOne_agg ag_Bits rfl (B4.all _ (Bits.len _)) (Bits.len _))), by rw [Bits.del_none hb hc1], E⟩

theorem ref05_List_ok (w : World) (b : Bits) (hb : b.ok) : Calls PP F_ref05_List #[.agg b.C.toArray] w fun e w' => ∃ v, e = .returned v ∧ (∃ s, v = SlV.v s ∧ Own w' 0 T_int 1 s ((b.list.map fun (n : Nat) => (n : Int)).map IC) ∧ (∀ i, s.fp i → w.heap.size ≤ i) ∧ Ext w w') := by
  refine calls_of_wc (n := 17) fn_ref05_List rfl rfl (by simp) ?_
  have E := Ext.refl w
  refine wc_seq ?_
  refine wc_region ?_
  refine wl_box_agg rfl (by decide) fun b1 w1 h1 => ?_
  have l_b1 : w.heap.size ≤ b1 := by have := h1.at_; have := E.size; omega
  have B1 := h1.blk
  replace E := E.thenExt h1.ext
  refine wl_does (does_as_nil) (by decide) ?_
  refine wl_nil ?_
  refine wc_seq ?_
  refine wc_region ?_
  refine wl_does (does_as_nil) (by decide) ?_
  have O3 : Own w1 0 T_int 1 SlV.nil (([] : List _).map IC) := Own.nil _ _ _ _
  have n_O3 : ∀ i, SlV.nil.fp i → w.heap.size ≤ i := fun i e => absurd rfl e.1
  have d_b1_O3 : ¬ SlV.nil.fp b1 := fun e => absurd rfl e.1
  refine wl_nil ?_
  refine wc_seq ?_
  refine wc_seq ?_
  refine wc_region ?_
  refine wl_does (does_as_i rfl) (by decide) ?_
  refine wl_nil ?_
  refine wc_block ?_
  refine wc_loopm (α := Nat × SlV) [3, 4, 5, 6, 7, 8, 9, 10, 11, 12, 13, 14, 15] (fun ⟨x, s⟩ fr W => (fr 3 = s.v) ∧ (fr 4 = .int .i64 (x : Nat)) ∧ (Chg (fun i => w.heap.size ≤ i ∧ i ≠ b1) w1 W) ∧ (Own W 0 T_int 1 s (((b.listTo x).map fun (n : Nat) => (n : Int)).map IC)) ∧ (x ≤ 1024) ∧ (∀ i, s.fp i → w.heap.size ≤ i) ∧ (¬ s.fp b1)) (fun ⟨x, s⟩ => 1024 - x) (0, SlV.nil) ⟨rfl, rfl, Chg.refl _ _, O3, by omega, n_O3, d_b1_O3⟩ ?_
  rintro ⟨x, s⟩ g0 u0 ⟨s0_3, s0_4, K0, O3, hx, n_O3, d_b1_O3⟩
  replace B1 := B1.chg K0 (fun (e : w.heap.size ≤ b1 ∧ b1 ≠ b1) => by omega)
  replace E := E.thenChg K0 (fun i hi e => absurd hi (by have := e.1; omega))
  have hlen := Bits.listTo_len b x
  refine wc_seq ?_
  refine wc_seq ?_
  refine wc_region ?_
  refine wl_does (does_mv_i s0_4) (by decide) ?_
  refine wl_does (does_lt rfl rfl) (by decide) ?_
  refine wl_nil ?_
  refine wc_if rfl (fun hc1 => ?_) (fun hc1 => ?_)
  all_goals try simp only [decide_eq_true_eq, decide_eq_false_iff_not, Bool.and_eq_true, Bool.or_eq_true, Bool.and_eq_false_iff, Bool.or_eq_false_iff, Bool.not_eq_true', Bool.not_eq_false', Int.not_lt, Int.not_le, ne_eq, Decidable.not_not] at hc1
  rotate_left
  · refine wc_exit ?_
    refine wc_seq ?_
    refine wc_region ?_
    refine wl_does (does_mv_l s0_3) (by decide) ?_
    refine wl_does (does_as_l rfl) (by decide) ?_
    refine wl_nil ?_
    refine wc_ret ?_
    exact ⟨_, (rets1 (retOne_tmp rfl)), s, rfl, by rw [← Bits.listTo_all, ← show x = 1024 by omega]; exact O3, n_O3, E⟩
  refine wc_skip ?_
  refine wc_seq ?_
  refine wc_block ?_
  refine wc_seq ?_
  refine wc_region ?_
  refine wl_does (does_load_agg ag_Bits rfl (B1.all _ (Bits.len _)) (Bits.len _)) (by decide) ?_
  refine wl_does (does_mv_i s0_4) (by decide) ?_
  refine wl_call (does_call ca_ref05_Has) (by decide) (ref05_Has_ok _ b hb _) ?_
  rintro _ w2 ⟨rfl, h2⟩
  replace B1 := B1.ext h2
  replace O3 := O3.ext h2
  replace E := E.thenExt h2
  replace K0 := K0.thenExt h2
  refine wl_nil ?_
  refine wc_if rfl (fun hc2 => ?_) (fun hc2 => ?_)
  all_goals try simp only [decide_eq_true_eq, decide_eq_false_iff_not, Bool.and_eq_true, Bool.or_eq_true, Bool.and_eq_false_iff, Bool.or_eq_false_iff, Bool.not_eq_true', Bool.not_eq_false', Int.not_lt, Int.not_le, ne_eq, Decidable.not_not] at hc2
  · refine wc_region ?_
    refine wl_does (does_mv_l s0_3) (by decide) ?_
    refine wl_does (does_mv_i s0_4) (by decide) ?_
    refine wl_lit1 sl_L_int el_int.zero rfl rfl rfl (by decide) (by decide) fun b14 w3 s14 h3 q3 => ?_
    have l_b14 : w.heap.size ≤ b14 := by have := h3.at_; have := E.size; omega
    have o_b14_b1 : b1 < b14 := by have := B1.lt; have := h3.at_; omega
    have d_b14_O3 : ¬ s.fp b14 := fun e => by have := O3.lt _ e; have := h3.at_; omega
    have k_K0_b14 : w1.heap.size ≤ b14 := by have := h3.at_; have := K0.size; omega
    have B14 := h3.blk
    replace B1 := B1.ext h3.ext
    replace O3 := O3.ext h3.ext
    replace E := E.thenExt h3.ext
    replace K0 := K0.thenExt h3.ext
    refine wl_push (C := IC) sl_L_int el_int rfl rfl O3 B14 q3 rfl (fun v hv => by rw [List.mem_singleton.1 hv]; rfl) (by (try simp only [List.length_map, List.length_append, List.length_nil]); omega) (by (try simp only [List.length_map, List.length_append, List.length_nil]); omega) (by decide) fun s15 w4 O h4 g4 => ?_
    have d_b1_O15 : ¬ s15.fp b1 := fun e => (g4 _ e).elim d_b1_O3 (fun e => by have := B1.lt; omega)
    have d_b14_O15 : ¬ s15.fp b14 := fun e => (g4 _ e).elim d_b14_O3 (fun e => by have := B14.lt; omega)
    have n_O15 : ∀ i, s15.fp i → w.heap.size ≤ i := fun i e => (g4 _ e).elim (n_O3 i) (fun e => by have := E.size; omega)
    replace B1 := B1.chg h4 d_b1_O3
    replace B14 := B14.chg h4 d_b14_O3
    replace E := E.thenChg h4 (fun i hi e => absurd hi (by have := n_O3 i e; omega))
    replace K0 := K0.thenChg h4 (fun i hi e => (show w.heap.size ≤ i ∧ i ≠ b1 from ⟨n_O3 i e, (fun q => d_b1_O3 (q ▸ e))⟩))
    have O15 := O; clear O
    refine wl_does (does_as_l rfl) (by decide) ?_
    refine wl_nil ?_
    refine wc_region ?_
    refine wl_does (does_mv_i s0_4) (by decide) ?_
    refine wl_does (does_addc rfl rfl (c := _) rfl (by omega) (by omega)) (by decide) ?_
    refine wl_does (does_as_i rfl) (by decide) ?_
    refine wl_nil ?_
    exact ⟨rfl, ((((((((((((((Dif.self _ _ _).upd rfl _).upd rfl _).upd rfl _).upd rfl _).upd rfl _).upd rfl _).upd rfl _).upd rfl _).upd rfl _).upd rfl _).upd rfl _).upd rfl _).upd rfl _), (x + 1, s15), ⟨rfl, rfl, K0, by rw [Bits.listTo_yes hc2, List.map_append]; exact O15, by omega, n_O15, d_b1_O15⟩, by (try dsimp only); omega⟩
  · refine wc_skip ?_
    refine wc_region ?_
    refine wl_does (does_mv_i s0_4) (by decide) ?_
    refine wl_does (does_addc rfl rfl (c := _) rfl (by omega) (by omega)) (by decide) ?_
    refine wl_does (does_as_i rfl) (by decide) ?_
    refine wl_nil ?_
    exact ⟨rfl, (((((((((Dif.self _ _ _).upd rfl _).upd rfl _).upd rfl _).upd rfl _).upd rfl _).upd rfl _).upd rfl _).upd rfl _), (x + 1, s), ⟨s0_3, rfl, K0, by rw [Bits.listTo_no hc2]; exact O3, by omega, n_O3, d_b1_O3⟩, by (try dsimp only); omega⟩

theorem ref05_Of_ok (w : World) (s : SlV) (l : List Int) (R0 : Rd w 1 s (l.map IC)) (hl : l.length < 9223372036854775807) : Calls PP F_ref05_Of #[s.v] w fun e w' => ∃ v, e = .returned v ∧ (v = .tuple #[.agg (Bits.ofs l).1.C.toArray, .int .i64 (Bits.ofs l).2] ∧ Ext w w') := by
  refine calls_of_wc (n := 33) fn_ref05_Of rfl rfl (by simp) ?_
  have E := Ext.refl w
  refine wc_seq ?_
  refine wc_region ?_
  refine wl_alloc ze_Bits (by decide) fun b2 w1 h1 => ?_
  have l_b2 : w.heap.size ≤ b2 := by have := h1.at_; have := E.size; omega
  have d_b2_R0 : ¬ s.fp b2 := fun e => by have := R0.lt _ e; have := h1.at_; omega
  have B2 := h1.blk
  replace R0 := R0.ext h1.ext
  replace E := E.thenExt h1.ext
  refine wl_does (does_as_i rfl) (by decide) ?_
  refine wl_nil ?_
  refine wc_seq ?_
  refine wc_region ?_
  refine wl_does (does_build0 bz_Bits) (by decide) ?_
  refine wl_alloc ze_Bits (by decide) fun b4 w2 h2 => ?_
  have l_b4 : w.heap.size ≤ b4 := by have := h2.at_; have := E.size; omega
  have d_b4_R0 : ¬ s.fp b4 := fun e => by have := R0.lt _ e; have := h2.at_; omega
  have o_b4_b2 : b2 < b4 := by have := B2.lt; have := h2.at_; omega
  have B4 := h2.blk
  replace R0 := R0.ext h2.ext
  replace B2 := B2.ext h2.ext
  replace E := E.thenExt h2.ext
  refine wl_store_agg ag_Bits rfl rfl B4 (Bits.len _) (by rw [Bits.len]; decide) (Bits.one _) (store_all (Bits.len _)) fun w3 B h3 z3 => ?_
  replace B4 := B; clear B
  replace R0 := R0.keep h3 (fun i hi (e : i = b4) => d_b4_R0 (e ▸ hi))
  replace B2 := B2.chg h3 (fun (e : b2 = b4) => by omega)
  replace E := E.thenChg h3 (fun i hi (e : i = b4) => absurd hi (by omega))
  refine wl_nil ?_
  refine wc_seq ?_
  refine wc_seq ?_
  refine wc_region ?_
  refine wl_does (does_as_i rfl) (by decide) ?_
  refine wl_nil ?_
  refine wc_block ?_
  refine wc_loopm (α := Nat) [3, 5, 7, 8, 9, 10, 11, 12, 13, 14, 15, 16, 17, 18, 19, 20, 21, 22, 23, 24, 25, 26, 27, 28, 29, 30, 31] (fun x fr W => (fr 5 = .int .i64 (x : Nat)) ∧ (Chg (fun i => w.heap.size ≤ i ∧ i ≠ b2 ∧ ¬ s.fp i) w3 W) ∧ (Blk W b4 T_Bits (Bits.C (Bits.ofl (l.take x)))) ∧ (x ≤ l.length) ∧ (∀ n ∈ l.take x, 0 ≤ n ∧ n < 1024)) (fun x => l.length - x) 0 ⟨rfl, Chg.refl _ _, B4, by omega, by simp⟩ ?_
  rintro x g0 u0 ⟨s0_5, K0, B4, hx, hp⟩
  replace R0 := R0.keep K0 (fun i hi e => by simp only [hi, not_true, and_false, false_and] at e)
  replace B2 := B2.chg K0 (fun e => by have := e.2; simp at this)
  replace E := E.thenChg K0 (fun i hi e => absurd hi (by have := e.1; omega))
  obtain ⟨a, ha⟩ : ∃ a, x < l.length → l[x]? = some a := ⟨l.getD x 0, fun h => by simp [h]⟩
  refine wc_seq ?_
  refine wc_seq ?_
  refine wc_region ?_
  refine wl_does (does_mv_i s0_5) (by decide) ?_
  refine wl_does (does_mv_l rfl) (by decide) ?_
  refine wl_does (does_lenR sl_L_int rfl R0) (by decide) ?_
  refine wl_does (does_lt rfl rfl) (by decide) ?_
  refine wl_nil ?_
  refine wc_if rfl (fun hc1 => ?_) (fun hc1 => ?_)
  all_goals try simp only [decide_eq_true_eq, decide_eq_false_iff_not, Bool.and_eq_true, Bool.or_eq_true, Bool.and_eq_false_iff, Bool.or_eq_false_iff, Bool.not_eq_true', Bool.not_eq_false', Int.not_lt, Int.not_le, ne_eq, Decidable.not_not] at hc1
  rotate_left
  · refine wc_exit ?_
    refine wc_seq ?_
    refine wc_region ?_
    refine wl_does (does_load_agg ag_Bits rfl (B4.all _ (Bits.len _)) (Bits.len _)) (by decide) ?_
    refine wl_store_agg ag_Bits rfl rfl B2 (Bits.len _) (by rw [Bits.len]; decide) (Bits.one _) (store_all (Bits.len _)) fun w4 B h4 z4 => ?_
    replace B2 := B; clear B
    replace R0 := R0.keep h4 (fun i hi (e : i = b2) => d_b2_R0 (e ▸ hi))
    replace B4 := B4.chg h4 (fun (e : b4 = b2) => by omega)
    replace E := E.thenChg h4 (fun i hi (e : i = b2) => absurd hi (by omega))
    refine wl_does (does_as_i rfl) (by decide) ?_
    refine wl_nil ?_
    refine wc_ret ?_
    have hx2 : l.take x = l := List.take_of_length_le (by omega)
    rw [hx2] at hp
    exact ⟨.tuple #[.agg (Bits.ofl (l.take x)).C.toArray, .int .i64 0], (rets2 (retOne_agg ag_Bits rfl (B2.all _ (Bits.len _)) (Bits.len _)) (retOne_tmp rfl)), by rw [Bits.ofs, if_pos hp, hx2], E⟩
  refine wc_skip ?_
  refine wc_seq ?_
  refine wc_block ?_
  refine wc_seq ?_
  refine wc_seq ?_
  refine wc_region ?_
  refine wl_does (does_mv_l rfl) (by decide) ?_
  refine wl_does (does_mv_i s0_5) (by decide) ?_
  refine wl_does (does_indexR sl_L_int rfl rfl R0 (by omega) (by omega)) (by decide) ?_
  refine wl_does (does_load on_int rfl (R0.one (ha (by omega)) rfl)) (by decide) ?_
  refine wl_does (does_lt rfl rfl) (by decide) ?_
  refine wl_does (does_mv_b rfl) (by decide) ?_
  refine wl_guard (j := 5) (pol := false) rfl rfl rfl (by decide) (fun hg => does_mv_l rfl) (by decide) ?_
  refine wl_guard (j := 5) (pol := false) rfl rfl rfl (by decide) (fun hg => does_mv_i s0_5) (by decide) ?_
  refine wl_guard (j := 5) (pol := false) rfl rfl rfl (by decide) (fun hg => does_indexR sl_L_int (gv_yes hg) (gv_yes hg) R0 (by simp at hg; omega) (by simp at hg; omega)) (by decide) ?_
  refine wl_guard (j := 5) (pol := false) rfl rfl rfl (by decide) (fun hg => does_load on_int (gv_yes hg) (R0.one (ha (by omega)) rfl)) (by decide) ?_
  refine wl_guard (j := 5) (pol := false) rfl rfl rfl (by decide) (fun hg => does_ge (gv_yes hg) rfl) (by decide) ?_
  refine wl_does (does_or rfl (fun hp => (gv_yes (and_1 hp)))) (by decide) ?_
  refine wl_nil ?_
  refine wc_if rfl (fun hc2 => ?_) (fun hc2 => ?_)
  all_goals try simp only [decide_eq_true_eq, decide_eq_false_iff_not, Bool.and_eq_true, Bool.or_eq_true, Bool.and_eq_false_iff, Bool.or_eq_false_iff, Bool.not_eq_true', Bool.not_eq_false', Int.not_lt, Int.not_le, ne_eq, Decidable.not_not] at hc2
  · refine wc_seq ?_
    refine wc_region ?_
    refine wl_does (does_build0 bz_Bits) (by decide) ?_
    refine wl_store_agg ag_Bits rfl rfl B2 (Bits.len _) (by rw [Bits.len]; decide) (Bits.one _) (store_all (Bits.len _)) fun w5 B h5 z5 => ?_
    replace B2 := B; clear B
    replace R0 := R0.keep h5 (fun i hi (e : i = b2) => d_b2_R0 (e ▸ hi))
    replace B4 := B4.chg h5 (fun (e : b4 = b2) => by omega)
    replace E := E.thenChg h5 (fun i hi (e : i = b2) => absurd hi (by omega))
    refine wl_does (does_as_i rfl) (by decide) ?_
    refine wl_nil ?_
    refine wc_ret ?_
    exact ⟨.tuple #[.agg Bits.z.C.toArray, .int .i64 50], (rets2 (retOne_agg ag_Bits rfl (B2.all _ (Bits.len _)) (Bits.len _)) (retOne_tmp rfl)), by rw [Bits.ofs, if_neg (fun h => by have := h a (List.mem_of_getElem? (ha (by omega))); omega)], E⟩
  refine wc_skip ?_
  refine wc_quiet 5 (Ext u0) hmix (by kernel_rfl) (by kernel_rfl) (Ext.drawn _) ?_
  refine wq_does (fun v K => does_load_agg ag_Bits rfl ((B4.ext K).all _ (Bits.len _)) (Bits.len _)) ?_
  refine wq_does (fun v K => does_mv_l rfl) ?_
  refine wq_does (fun v K => does_mv_i s0_5) ?_
  refine wq_does (fun v K => does_indexR sl_L_int rfl rfl (R0.ext K) (by omega) (by omega)) ?_
  refine wq_does (fun v K => does_load on_int rfl ((R0.ext K).one (ha (by omega)) rfl)) ?_
  refine wq_nil fun w6 K => ?_
  replace R0 := R0.ext K
  replace B2 := B2.ext K
  replace B4 := B4.ext K
  replace E := E.thenExt K
  replace K0 := K0.thenExt K
  clear K
  refine wl_call (does_call ca_ref05_With) (by decide) (ref05_With_ok _ _ _ (Bits.ofl_ok _) (by omega) (by omega)) ?_
  rintro _ w7 ⟨rfl, h7⟩
  replace R0 := R0.ext h7
  replace B2 := B2.ext h7
  replace B4 := B4.ext h7
  replace E := E.thenExt h7
  replace K0 := K0.thenExt h7
  refine wl_store_agg ag_Bits rfl rfl B4 (Bits.len _) (by rw [Bits.len]; decide) (Bits.one _) (store_all (Bits.len _)) fun w8 B h8 z8 => ?_
  replace B4 := B; clear B
  replace R0 := R0.keep h8 (fun i hi (e : i = b4) => d_b4_R0 (e ▸ hi))
  replace B2 := B2.chg h8 (fun (e : b2 = b4) => by omega)
  replace E := E.thenChg h8 (fun i hi (e : i = b4) => absurd hi (by omega))
  replace K0 := K0.thenChg h8 (fun i hi (e : i = b4) => (show w.heap.size ≤ i ∧ i ≠ b2 ∧ ¬ s.fp i from by subst e; exact ⟨by omega, by omega, d_b4_R0⟩))
  refine wl_nil ?_
  refine wc_region ?_
  refine wl_does (does_mv_i s0_5) (by decide) ?_
  refine wl_does (does_addc rfl rfl (c := _) rfl (by omega) (by omega)) (by decide) ?_
  refine wl_does (does_as_i rfl) (by decide) ?_
  refine wl_nil ?_
  exact ⟨rfl, ((((((((((((((((((((((((((Dif.self _ _ _).upd rfl _).upd rfl _).upd rfl _).upd rfl _).upd rfl _).upd rfl _).upd rfl _).upd rfl _).upd rfl _).upd rfl _).upd rfl _).upd rfl _).upd rfl _).upd rfl _).upd rfl _).upd rfl _).upd rfl _).upd rfl _).upd rfl _).upd rfl _).upd rfl _).upd rfl _).upd rfl _).upd rfl _).upd rfl _), x + 1, ⟨rfl, K0, by rw [take_step (ha (by omega)), Bits.ofl_push]; exact B4, by omega, by rw [take_step (ha (by omega))]; intro n hn; exact (List.mem_append.1 hn).elim (hp n) (fun hn => by rw [List.mem_singleton.1 hn]; omega)⟩, by (try dsimp only); omega⟩

theorem bits_Of_ok (w : World) (s : SlV) (l : List Int) (R0 : Rd w 1 s (l.map IC)) (hl : l.length < 9223372036854775807) : Calls PP F_bits_Of #[s.v] w fun e w' => ∃ v, e = .returned v ∧ (v = .tuple #[.agg (Bits.ofs l).1.C.toArray, .int .i64 (Bits.ofs l).2] ∧ Ext w w') := by
  refine calls_of_wc (n := 28) fn_bits_Of rfl rfl (by simp) ?_
  have E := Ext.refl w
  refine wc_seq ?_
  refine wc_region ?_
  refine wl_alloc ze_Bits (by decide) fun b2 w1 h1 => ?_
  have l_b2 : w.heap.size ≤ b2 := by have := h1.at_; have := E.size; omega
  have d_b2_R0 : ¬ s.fp b2 := fun e => by have := R0.lt _ e; have := h1.at_; omega
  have B2 := h1.blk
  replace R0 := R0.ext h1.ext
  replace E := E.thenExt h1.ext
  refine wl_does (does_as_i rfl) (by decide) ?_
  refine wl_nil ?_
  refine wc_seq ?_
  refine wc_region ?_
  refine wl_alloc ze_Bits (by decide) fun b4 w2 h2 => ?_
  have l_b4 : w.heap.size ≤ b4 := by have := h2.at_; have := E.size; omega
  have d_b4_R0 : ¬ s.fp b4 := fun e => by have := R0.lt _ e; have := h2.at_; omega
  have o_b4_b2 : b2 < b4 := by have := B2.lt; have := h2.at_; omega
  have B4 := h2.blk
  replace R0 := R0.ext h2.ext
  replace B2 := B2.ext h2.ext
  replace E := E.thenExt h2.ext
  refine wl_nil ?_
  refine wc_seq ?_
  refine wc_seq ?_
  refine wc_region ?_
  refine wl_does (does_mv_l rfl) (by decide) ?_
  refine wl_does (does_lenR sl_L_int rfl R0) (by decide) ?_
  refine wl_does (does_mv_i rfl) (by decide) ?_
  refine wl_nil ?_
  refine wc_block ?_
  refine wc_loopm (α := Nat) [3, 6, 9, 10, 11, 12, 13, 14, 15, 16, 17, 18, 19, 20, 21, 22, 23, 24, 25, 26] (fun x fr W => (fr 9 = .int .i64 (x : Nat)) ∧ (Chg (fun i => w.heap.size ≤ i ∧ i ≠ b2 ∧ ¬ s.fp i) w2 W) ∧ (Blk W b4 T_Bits (Bits.C (Bits.ofl (l.take x)))) ∧ (x ≤ l.length) ∧ (∀ n ∈ l.take x, 0 ≤ n ∧ n < 1024)) (fun x => l.length - x) 0 ⟨rfl, Chg.refl _ _, B4, by omega, by simp⟩ ?_
  rintro x g0 u0 ⟨s0_9, K0, B4, hx, hp⟩
  replace R0 := R0.keep K0 (fun i hi e => by simp only [hi, not_true, and_false, false_and] at e)
  replace B2 := B2.chg K0 (fun e => by have := e.2; simp at this)
  replace E := E.thenChg K0 (fun i hi e => absurd hi (by have := e.1; omega))
  obtain ⟨a, ha⟩ : ∃ a, x < l.length → l[x]? = some a := ⟨l.getD x 0, fun h => by simp [h]⟩
  refine wc_seq ?_
  refine wc_region ?_
  refine wl_does (does_lt s0_9 rfl) (by decide) ?_
  refine wl_nil ?_
  refine wc_seq ?_
  refine wc_if rfl (fun hc1 => ?_) (fun hc1 => ?_)
  all_goals try simp only [decide_eq_true_eq, decide_eq_false_iff_not, Bool.and_eq_true, Bool.or_eq_true, Bool.and_eq_false_iff, Bool.or_eq_false_iff, Bool.not_eq_true', Bool.not_eq_false', Int.not_lt, Int.not_le, ne_eq, Decidable.not_not] at hc1
  rotate_left
  · refine wc_exit ?_
    refine wc_seq ?_
    refine wc_region ?_
    refine wl_does (does_load_agg ag_Bits rfl (B4.all _ (Bits.len _)) (Bits.len _)) (by decide) ?_
    refine wl_store_agg ag_Bits rfl rfl B2 (Bits.len _) (by rw [Bits.len]; decide) (Bits.one _) (store_all (Bits.len _)) fun w3 B h3 z3 => ?_
    replace B2 := B; clear B
    replace R0 := R0.keep h3 (fun i hi (e : i = b2) => d_b2_R0 (e ▸ hi))
    replace B4 := B4.chg h3 (fun (e : b4 = b2) => by omega)
    replace E := E.thenChg h3 (fun i hi (e : i = b2) => absurd hi (by omega))
    refine wl_does (does_as_i rfl) (by decide) ?_
    refine wl_nil ?_
    refine wc_ret ?_
    have hx2 : l.take x = l := List.take_of_length_le (by omega)
    rw [hx2] at hp
    exact ⟨.tuple #[.agg (Bits.ofl (l.take x)).C.toArray, .int .i64 0], (rets2 (retOne_agg ag_Bits rfl (B2.all _ (Bits.len _)) (Bits.len _)) (retOne_tmp rfl)), by rw [Bits.ofs, if_pos hp, hx2], E⟩
  refine wc_skip ?_
  refine wc_seq ?_
  refine wc_block ?_
  refine wc_seq ?_
  refine wc_region ?_
  refine wl_does (does_indexR sl_L_int rfl s0_9 R0 (by omega) (by omega)) (by decide) ?_
  refine wl_does (does_load on_int rfl (R0.one (ha (by omega)) rfl)) (by decide) ?_
  refine wl_does (does_as_i rfl) (by decide) ?_
  refine wl_nil ?_
  refine wc_seq ?_
  refine wc_seq ?_
  refine wc_region ?_
  refine wl_does (does_mv_i rfl) (by decide) ?_
  refine wl_call (does_call ca_bits_inside) (by decide) (bits_inside_ok _ _) ?_
  rintro _ w4 ⟨rfl, h4⟩
  replace R0 := R0.ext h4
  replace B2 := B2.ext h4
  replace B4 := B4.ext h4
  replace E := E.thenExt h4
  replace K0 := K0.thenExt h4
  refine wl_does (does_not rfl) (by decide) ?_
  refine wl_nil ?_
  refine wc_if rfl (fun hc2 => ?_) (fun hc2 => ?_)
  all_goals try simp only [decide_eq_true_eq, decide_eq_false_iff_not, Bool.and_eq_true, Bool.or_eq_true, Bool.and_eq_false_iff, Bool.or_eq_false_iff, Bool.not_eq_true', Bool.not_eq_false', Int.not_lt, Int.not_le, ne_eq, Decidable.not_not] at hc2
  · refine wc_seq ?_
    refine wc_region ?_
    refine wl_does (does_build0 bz_Bits) (by decide) ?_
    refine wl_store_agg ag_Bits rfl rfl B2 (Bits.len _) (by rw [Bits.len]; decide) (Bits.one _) (store_all (Bits.len _)) fun w5 B h5 z5 => ?_
    replace B2 := B; clear B
    replace R0 := R0.keep h5 (fun i hi (e : i = b2) => d_b2_R0 (e ▸ hi))
    replace B4 := B4.chg h5 (fun (e : b4 = b2) => by omega)
    replace E := E.thenChg h5 (fun i hi (e : i = b2) => absurd hi (by omega))
    refine wl_does (does_as_i rfl) (by decide) ?_
    refine wl_nil ?_
    refine wc_ret ?_
    exact ⟨.tuple #[.agg Bits.z.C.toArray, .int .i64 50], (rets2 (retOne_agg ag_Bits rfl (B2.all _ (Bits.len _)) (Bits.len _)) (retOne_tmp rfl)), by rw [Bits.ofs, if_neg (fun h => by have := h a (List.mem_of_getElem? (ha (by omega))); omega)], E⟩
  refine wc_skip ?_
  refine wc_quiet 7 (Ext w4) hmix (by kernel_rfl) (by kernel_rfl) (Ext.drawn _) ?_
  refine wq_does (fun v K => does_mv_i rfl) ?_
  refine wq_does (fun v K => does_quo_nat rfl rfl (by omega) (by omega) (by omega)) ?_
  refine wq_does (fun v K => does_indexArr ar_Bits rfl rfl (by omega) (by omega) rfl) ?_
  refine wq_does (fun v K => does_load on_uint64 rfl ((B4.ext K).cell (Bits.getw _ _ (by omega)))) ?_
  refine wq_does (fun v K => does_mv_i rfl) ?_
  refine wq_does (fun v K => does_rem_nat rfl rfl (by omega) (by omega)) ?_
  refine wq_does (fun v K => does_shl rfl rfl (by omega)) ?_
  refine wq_nil fun w6 K => ?_
  replace R0 := R0.ext K
  replace B2 := B2.ext K
  replace B4 := B4.ext K
  replace E := E.thenExt K
  replace K0 := K0.thenExt K
  clear K
  refine wl_does (does_bits (by simp) rfl rfl) (by decide) ?_
  refine wl_does (does_indexArr ar_Bits rfl rfl (by omega) (by omega) rfl) (by decide) ?_
  refine wl_store on_uint64 rfl rfl B4 (by rw [Bits.len]; omega) rfl (Bits.setw _ _ _) fun w7 B h7 z7 => ?_
  replace B4 := B; clear B
  replace R0 := R0.keep h7 (fun i hi (e : i = b4) => d_b4_R0 (e ▸ hi))
  replace B2 := B2.chg h7 (fun (e : b2 = b4) => by omega)
  replace E := E.thenChg h7 (fun i hi (e : i = b4) => absurd hi (by omega))
  replace K0 := K0.thenChg h7 (fun i hi (e : i = b4) => (show w.heap.size ≤ i ∧ i ≠ b2 ∧ ¬ s.fp i from by subst e; exact ⟨by omega, by omega, d_b4_R0⟩))
  refine wl_nil ?_
  refine wc_region ?_
  refine wl_does (does_addc s0_9 rfl (c := _) rfl (by omega) (by omega)) (by decide) ?_
  refine wl_does (does_mv_i rfl) (by decide) ?_
  refine wl_nil ?_
  exact ⟨rfl, (((((((((((((((((((Dif.self _ _ _).upd rfl _).upd rfl _).upd rfl _).upd rfl _).upd rfl _).upd rfl _).upd rfl _).upd rfl _).upd rfl _).upd rfl _).upd rfl _).upd rfl _).upd rfl _).upd rfl _).upd rfl _).upd rfl _).upd rfl _).upd rfl _), x + 1, ⟨rfl, K0, by rw [take_step (ha (by omega)), Bits.ofl_push, ← Bits.put_add (Bits.ofl_ok _) ⟨by omega, by omega⟩]; exact B4, by omega, by rw [take_step (ha (by omega))]; intro n hn; exact (List.mem_append.1 hn).elim (hp n) (fun hn => by rw [List.mem_singleton.1 hn]; omega)⟩, by (try dsimp only); omega⟩

theorem bits_Drop_ok (w : World) (b : Bits) (n : Int) (hb : b.ok) : Calls PP F_bits_Drop #[.agg b.C.toArray, .int .i64 n] w fun e w' => ∃ v, e = .returned v ∧ (v = .agg (b.del n).C.toArray ∧ Ext w w') := by
  refine calls_of_wc (n := 16) fn_bits_Drop rfl rfl (by simp) ?_
  have E := Ext.refl w
  refine wc_seq ?_
  refine wc_region ?_
  refine wl_box_agg rfl (by decide) fun b2 w1 h1 => ?_
  have l_b2 : w.heap.size ≤ b2 := by have := h1.at_; have := E.size; omega
  have B2 := h1.blk
  replace E := E.thenExt h1.ext
  refine wl_alloc ze_Bits (by decide) fun b4 w2 h2 => ?_
  have l_b4 : w.heap.size ≤ b4 := by have := h2.at_; have := E.size; omega
  have o_b4_b2 : b2 < b4 := by have := B2.lt; have := h2.at_; omega
  have B4 := h2.blk
  replace B2 := B2.ext h2.ext
  replace E := E.thenExt h2.ext
  refine wl_nil ?_
  refine wc_seq ?_
  refine wc_region ?_
  refine wl_does (does_mv_i rfl) (by decide) ?_
  refine wl_lit1 sl_L_int el_int.zero rfl rfl rfl (by decide) (by decide) fun b9 w3 s9 h3 q3 => ?_
  have l_b9 : w.heap.size ≤ b9 := by have := h3.at_; have := E.size; omega
  have o_b9_b2 : b2 < b9 := by have := B2.lt; have := h3.at_; omega
  have o_b9_b4 : b4 < b9 := by have := B4.lt; have := h3.at_; omega
  have B9 := h3.blk
  replace B2 := B2.ext h3.ext
  replace B4 := B4.ext h3.ext
  replace E := E.thenExt h3.ext
  refine wl_call (does_call ca_bits_Of) (by decide) (bits_Of_ok _ s9 [n] (Blk.rd1 B9 rfl q3) (by simp)) ?_
  rintro _ w4 ⟨rfl, h4⟩
  replace B2 := B2.ext h4
  replace B4 := B4.ext h4
  replace B9 := B9.ext h4
  replace E := E.thenExt h4
  refine wl_does (does_mv_t rfl) (by decide) ?_
  refine wl_does (does_extract rfl rfl) (by decide) ?_
  refine wl_does (does_extract rfl rfl) (by decide) ?_
  refine wl_alloc ze_Bits (by decide) fun b5 w5 h5 => ?_
  have l_b5 : w.heap.size ≤ b5 := by have := h5.at_; have := E.size; omega
  have o_b5_b2 : b2 < b5 := by have := B2.lt; have := h5.at_; omega
  have o_b5_b4 : b4 < b5 := by have := B4.lt; have := h5.at_; omega
  have o_b5_b9 : b9 < b5 := by have := B9.lt; have := h5.at_; omega
  have B5 := h5.blk
  replace B2 := B2.ext h5.ext
  replace B4 := B4.ext h5.ext
  replace B9 := B9.ext h5.ext
  replace E := E.thenExt h5.ext
  refine wl_store_agg ag_Bits rfl rfl B5 (Bits.len _) (by rw [Bits.len]; decide) (Bits.one _) (store_all (Bits.len _)) fun w6 B h6 z6 => ?_
  replace B5 := B; clear B
  replace B2 := B2.chg h6 (fun (e : b2 = b5) => by omega)
  replace B4 := B4.chg h6 (fun (e : b4 = b5) => by omega)
  replace B9 := B9.chg h6 (fun (e : b9 = b5) => by omega)
  replace E := E.thenChg h6 (fun i hi (e : i = b5) => absurd hi (by omega))
  refine wl_does (does_as_i rfl) (by decide) ?_
  refine wl_nil ?_
  refine wc_seq ?_
  refine wc_region ?_
  refine wl_does (does_load_agg ag_Bits rfl (B2.all _ (Bits.len _)) (Bits.len _)) (by decide) ?_
  refine wl_does (does_load_agg ag_Bits rfl (B5.all _ (Bits.len _)) (Bits.len _)) (by decide) ?_
  refine wl_call (does_call ca_bits_Minus) (by decide) (bits_Minus_ok _ b (Bits.ofs [n]).1) ?_
  rintro _ w7 ⟨rfl, h7⟩
  replace B2 := B2.ext h7
  replace B4 := B4.ext h7
  replace B9 := B9.ext h7
  replace B5 := B5.ext h7
  replace E := E.thenExt h7
  refine wl_store_agg ag_Bits rfl rfl B4 (Bits.len _) (by rw [Bits.len]; decide) (Bits.one _) (store_all (Bits.len _)) fun w8 B h8 z8 => ?_
  replace B4 := B; clear B
  replace B2 := B2.chg h8 (fun (e : b2 = b4) => by omega)
  replace B9 := B9.chg h8 (fun (e : b9 = b4) => by omega)
  replace B5 := B5.chg h8 (fun (e : b5 = b4) => by omega)
  replace E := E.thenChg h8 (fun i hi (e : i = b4) => absurd hi (by omega))
  refine wl_nil ?_
  refine wc_ret ?_
  exact ⟨.agg (Bits.zip (bitsOp .andNot .u64) b (Bits.ofs [n]).1).C.toArray, (rets1 (retOne_agg ag_Bits rfl (B4.all _ (Bits.len _)) (Bits.len _))), by rw [Bits.zip_minus hb (Bits.ofs_ok _), Bits.minus_ofs hb], E⟩

theorem bits_Next_ok (w : World) (b : Bits) (n : Int) (hz : Tz w) (hb : b.ok) : Calls PP F_bits_Next #[.agg b.C.toArray, .int .i64 n] w fun e w' => ∃ v, e = .returned v ∧ (v = .tuple #[.int .i64 (b.nextS n).1, .bool (b.nextS n).2] ∧ Ext w w') := by
  have Z := hz
  obtain ⟨k, hkd⟩ : ∃ k, k = n.toNat := ⟨_, rfl⟩
  have hk : (if n < 0 then 0 else n) = (k : Int) := by subst hkd; split <;> omega
  refine calls_of_wc (n := 38) fn_bits_Next rfl rfl (by simp) ?_
  have E := Ext.refl w
  refine wc_seq ?_
  refine wc_region ?_
  refine wl_box_agg rfl (by decide) fun b2 w1 h1 => ?_
  have l_b2 : w.heap.size ≤ b2 := by have := h1.at_; have := E.size; omega
  have o_b2_0 : 0 < b2 := by have := Z.lt; have := h1.at_; omega
  have B2 := h1.blk
  replace Z := Z.ext h1.ext
  replace E := E.thenExt h1.ext
  refine wl_does (does_as_i rfl) (by decide) ?_
  refine wl_does (does_as_b rfl) (by decide) ?_
  refine wl_nil ?_
  refine wc_seq ?_
  refine wc_region ?_
  refine wl_does (does_mv_i rfl) (by decide) ?_
  refine wl_does (Does.val (does_max rfl rfl) (congrArg (Value.int .i64) hk)) (by decide) ?_
  refine wl_does (does_as_i rfl) (by decide) ?_
  refine wl_nil ?_
  refine wc_seq ?_
  refine wc_seq ?_
  refine wc_region ?_
  refine wl_does (does_mv_i rfl) (by decide) ?_
  refine wl_call (does_call ca_bits_inside) (by decide) (bits_inside_ok _ _) ?_
  rintro _ w2 ⟨rfl, h2⟩
  replace Z := Z.ext h2
  replace B2 := B2.ext h2
  replace E := E.thenExt h2
  refine wl_does (does_not rfl) (by decide) ?_
  refine wl_nil ?_
  refine wc_if rfl (fun hc1 => ?_) (fun hc1 => ?_)
  all_goals try simp only [decide_eq_true_eq, decide_eq_false_iff_not, Bool.and_eq_true, Bool.or_eq_true, Bool.and_eq_false_iff, Bool.or_eq_false_iff, Bool.not_eq_true', Bool.not_eq_false', Int.not_lt, Int.not_le, ne_eq, Decidable.not_not] at hc1
  · refine wc_seq ?_
    refine wc_region ?_
    refine wl_does (does_as_i rfl) (by decide) ?_
    refine wl_does (does_as_b rfl) (by decide) ?_
    refine wl_nil ?_
    refine wc_ret ?_
    exact ⟨.tuple #[.int .i64 0, .bool false], (rets2 (retOne_tmp rfl) (retOne_tmp rfl)), by rw [Bits.nextS_none (hkd ▸ Bits.next_big _ (by omega))], E⟩
  refine wc_skip ?_
  refine wc_seq ?_
  refine wc_quiet 7 (Ext w2) hmix (by kernel_rfl) (by kernel_rfl) (Ext.drawn _) ?_
  refine wq_does (fun v K => does_mv_i rfl) ?_
  refine wq_does (fun v K => does_quo_nat rfl rfl (by omega) (by omega) (by omega)) ?_
  refine wq_does (fun v K => does_indexArr ar_Bits rfl rfl (by omega) (by omega) rfl) ?_
  refine wq_does (fun v K => does_load on_uint64 rfl ((B2.ext K).cell (Bits.getw _ _ (by omega)))) ?_
  refine wq_does (fun v K => does_mv_i rfl) ?_
  refine wq_does (fun v K => does_rem_nat rfl rfl (by omega) (by omega)) ?_
  refine wq_does (fun v K => does_shl rfl rfl (by omega)) ?_
  refine wq_nil fun w3 K => ?_
  replace Z := Z.ext K
  replace B2 := B2.ext K
  replace E := E.thenExt K
  clear K
  refine wl_does (does_bits (by simp) rfl rfl) (by decide) ?_
  refine wl_does (does_indexArr ar_Bits rfl rfl (by omega) (by omega) rfl) (by decide) ?_
  refine wl_store on_uint64 rfl rfl B2 (by rw [Bits.len]; omega) rfl (Bits.setw _ _ _) fun w4 B h4 z4 => ?_
  replace B2 := B; clear B
  replace Z := Z.chg h4 (fun (e : 0 = b2) => by omega)
  replace E := E.thenChg h4 (fun i hi (e : i = b2) => absurd hi (by omega))
  refine wl_nil ?_
  refine wc_seq ?_
  refine wc_seq ?_
  refine wc_region ?_
  refine wl_does (does_mv_i rfl) (by decide) ?_
  refine wl_does (does_quo_nat rfl rfl (by omega) (by omega) (by omega)) (by decide) ?_
  refine wl_does (does_as_i rfl) (by decide) ?_
  refine wl_nil ?_
  refine wc_block ?_
  rw [Bits.from_walk (by omega)] at B2
  refine wc_loopm (α := Nat) [4, 5, 6, 23, 24, 25, 26, 27, 28, 29, 30, 31, 32, 33, 34, 35, 36, 37] (fun x fr W => (fr 6 = .int .i64 (x : Nat)) ∧ (Ext w4 W) ∧ (k / 64 ≤ x ∧ x ≤ 16) ∧ (∀ j, k / 64 ≤ j → j < x → (b.from k).w j = 0)) (fun x => 16 - x) (k / 64) ⟨rfl, Chg.refl _ _, by omega, fun j h1 h2 => by omega⟩ ?_
  rintro x g0 u0 ⟨s0_6, K0, hx, hzz⟩
  replace Z := Z.ext K0
  replace B2 := B2.ext K0
  replace E := E.thenExt K0
  have hfb := (Bits.from_ok hb k x)
  refine wc_seq ?_
  refine wc_seq ?_
  refine wc_region ?_
  refine wl_does (does_mv_i s0_6) (by decide) ?_
  refine wl_does (does_lt rfl rfl) (by decide) ?_
  refine wl_nil ?_
  refine wc_if rfl (fun hc2 => ?_) (fun hc2 => ?_)
  all_goals try simp only [decide_eq_true_eq, decide_eq_false_iff_not, Bool.and_eq_true, Bool.or_eq_true, Bool.and_eq_false_iff, Bool.or_eq_false_iff, Bool.not_eq_true', Bool.not_eq_false', Int.not_lt, Int.not_le, ne_eq, Decidable.not_not] at hc2
  rotate_left
  · refine wc_exit ?_
    refine wc_seq ?_
    refine wc_region ?_
    refine wl_does (does_as_i rfl) (by decide) ?_
    refine wl_does (does_as_b rfl) (by decide) ?_
    refine wl_nil ?_
    refine wc_ret ?_
    exact ⟨.tuple #[.int .i64 0, .bool false], (rets2 (retOne_tmp rfl) (retOne_tmp rfl)), by rw [Bits.nextS_none (hkd ▸ Bits.next_nil hb k (fun j h1 h2 => hzz j h1 (by omega)))], E⟩
  refine wc_skip ?_
  refine wc_seq ?_
  refine wc_block ?_
  refine wc_seq ?_
  refine wc_region ?_
  refine wl_does (does_mv_i s0_6) (by decide) ?_
  refine wl_does (does_indexArr ar_Bits rfl rfl (by omega) (by omega) rfl) (by decide) ?_
  refine wl_does (does_load on_uint64 rfl (B2.cell (Bits.getw _ _ (by omega)))) (by decide) ?_
  refine wl_does (does_ne rfl rfl) (by decide) ?_
  refine wl_nil ?_
  refine wc_if rfl (fun hc3 => ?_) (fun hc3 => ?_)
  all_goals try simp only [decide_eq_true_eq, decide_eq_false_iff_not, Bool.and_eq_true, Bool.or_eq_true, Bool.and_eq_false_iff, Bool.or_eq_false_iff, Bool.not_eq_true', Bool.not_eq_false', Int.not_lt, Int.not_le, ne_eq, Decidable.not_not] at hc3
  · refine wc_seq ?_
    have hnf := Bits.next_found hb k x (by omega) (by omega) (by omega) (fun j h1 h2 => hzz j h1 h2) (by simpa using hc3)
    refine wc_region ?_
    refine wl_does (does_mv_i s0_6) (by decide) ?_
    refine wl_does (does_mulc rfl rfl (c := _) rfl (by omega) (by omega)) (by decide) ?_
    refine wl_does (does_mv_i s0_6) (by decide) ?_
    refine wl_does (does_indexArr ar_Bits rfl rfl (by omega) (by omega) rfl) (by decide) ?_
    refine wl_does (does_load on_uint64 rfl (B2.cell (Bits.getw _ _ (by omega)))) (by decide) ?_
    refine wl_call (does_call ca_math_bits_TrailingZeros64) (by decide) (math_bits_TrailingZeros64_ok _ _ Z (Bits.from_ok hb k _)) ?_
    rintro _ w5 ⟨rfl, h5⟩
    replace Z := Z.ext h5
    replace B2 := B2.ext h5
    replace E := E.thenExt h5
    have hidx : 0 + (x : Int).toNat * 1 = x := by simp
    have hnf2 : Lib.ctz 64 ((b.from k).w (0 + (x : Int).toNat * 1)).toNat < 64 := by rw [hidx]; exact hnf.2
    refine wl_does (does_addc rfl rfl (c := _) rfl (by omega) (by omega)) (by decide) ?_
    refine wl_does (does_as_i rfl) (by decide) ?_
    refine wl_does (does_as_b rfl) (by decide) ?_
    refine wl_nil ?_
    refine wc_ret ?_
    exact ⟨.tuple #[.int .i64 (64 * (x : Int) + (Lib.ctz 64 ((b.from k).w (0 + (x : Int).toNat * 1)).toNat : Nat)), .bool true], (rets2 (retOne_tmp rfl) (retOne_tmp rfl)), by subst hkd; rw [Bits.nextS_some hnf.1, hidx]; simp, E⟩
  refine wc_skip ?_
  refine wc_region ?_
  refine wl_does (does_mv_i s0_6) (by decide) ?_
  refine wl_does (does_addc rfl rfl (c := _) rfl (by omega) (by omega)) (by decide) ?_
  refine wl_does (does_as_i rfl) (by decide) ?_
  refine wl_nil ?_
  exact ⟨rfl, ((((((((((Dif.self _ _ _).upd rfl _).upd rfl _).upd rfl _).upd rfl _).upd rfl _).upd rfl _).upd rfl _).upd rfl _).upd rfl _), x + 1, ⟨rfl, K0, by omega, fun j h1 h2 => (Nat.lt_or_eq_of_le (Nat.le_of_lt_succ h2)).elim (hzz j h1) (fun e => by subst e; simpa using hc3)⟩, by (try dsimp only); omega⟩

theorem bits_All_ok (w : World) (b : Bits) : Calls PP F_bits_All #[.agg b.C.toArray] w fun e w' => ∃ v, e = .returned v ∧ (∃ c, v = .func (.func F_bits_All_1) #[] #[.pointer (some ⟨c, 0, none⟩)] ∧ Blk w' c T_Bits b.C ∧ w.heap.size ≤ c ∧ Ext w w') := by
  refine calls_of_wc (n := 4) fn_bits_All rfl rfl (by simp) ?_
  have E := Ext.refl w
  refine wc_seq ?_
  refine wc_region ?_
  refine wl_box_agg rfl (by decide) fun b1 w1 h1 => ?_
  have l_b1 : w.heap.size ≤ b1 := by have := h1.at_; have := E.size; omega
  have B1 := h1.blk
  replace E := E.thenExt h1.ext
  refine wl_does (does_assign (v := .nilFunc) rfl) (by decide) ?_
  refine wl_nil ?_
  refine wc_seq ?_
  refine wc_region ?_
  refine wl_does (does_funcl) (by decide) ?_
  refine wl_does (does_as_f rfl) (by decide) ?_
  refine wl_nil ?_
  refine wc_ret ?_
  exact ⟨_, (rets1 (retOne_tmp rfl)), b1, rfl, B1, l_b1, E⟩

/-- going through a set: its numbers, rising -/
theorem bits_All_1_gives {b : Bits} (hb : b.ok) (c : Nat) : Gives PP F_bits_All_1 (fun y => [y, .pointer (some ⟨c, 0, none⟩)]) (fun W => Blk W c T_Bits b.C ∧ Tz W) (b.list.map fun (n : Nat) => [Value.int .i64 (n : Int)]) := by
  intro l J Jx W hInv hJ hJx hY h0
  have hat : ∀ i : Nat, (b.list.map fun (n : Nat) => [Value.int .i64 (n : Int)])[i]? = (b.list[i]?).map fun (n : Nat) => [Value.int .i64 (n : Int)] := by simp
  have hlen : (b.list.map fun (n : Nat) => [Value.int .i64 (n : Int)]).length = b.list.length := by simp
  rw [hlen]
  refine calls_of_wc (n := 22) fn_bits_All_1 rfl rfl (by simp) ?_
  refine wc_seq ?_
  refine wc_region ?_
  refine wl_does (does_load_agg ag_Bits rfl ((hInv _ _ h0).1.all _ (Bits.len _)) (Bits.len _)) (by decide) ?_
  refine wl_call (does_call ca_bits_Next) (by decide) (bits_Next_ok _ b 0 (hInv _ _ h0).2 hb) ?_
  rintro _ w1 ⟨rfl, h1⟩
  replace h0 := hJ _ _ _ h0 h1
  refine wl_does (does_mv_t rfl) (by decide) ?_
  refine wl_does (does_extract rfl rfl) (by decide) ?_
  refine wl_does (does_extract rfl rfl) (by decide) ?_
  refine wl_does (does_as_i rfl) (by decide) ?_
  refine wl_does (does_as_b rfl) (by decide) ?_
  refine wl_nil ?_
  refine wc_block ?_
  refine wc_loopm (α := Nat) [3, 4, 10, 11, 12, 13, 14, 15, 16, 17, 18, 19, 20, 21] (fun x fr W => fr 3 = .int .i64 ((b.list[x]?).elim 0 fun n => (n : Int)) ∧ fr 4 = .bool (b.list[x]?).isSome ∧ J x W ∧ x ≤ b.list.length) (fun x => b.list.length - x) 0 ⟨congrArg (Value.int .i64) (nextS_fst (n := 0) (Bits.next_zero b)), congrArg Value.bool (nextS_snd (n := 0) (Bits.next_zero b)), h0, by omega⟩ ?_
  rintro x g u ⟨s3, s4, hj, hx⟩
  refine wc_seq ?_
  refine wc_seq ?_
  refine wc_region ?_
  refine wl_does (does_mv_b s4) (by decide) ?_
  refine wl_nil ?_
  refine wc_if rfl (fun hc => ?_) (fun hc => ?_)
  rotate_left
  · refine wc_exit ?_
    have : b.list.length ≤ x := by simpa using hc
    have e : x = b.list.length := by omega
    rw [e] at hj
    exact ⟨_, rets0, .inl hj⟩
  obtain ⟨n, hn⟩ := Option.isSome_iff_exists.1 hc
  rw [hn] at s3
  have hxl : x < b.list.length := (List.getElem?_eq_some_iff.1 hn).1
  refine wc_skip ?_
  refine wc_seq ?_
  refine wc_block ?_
  refine wc_seq ?_
  refine wc_region ?_
  refine wl_does (does_mv_f rfl) (by decide) ?_
  refine wl_does (does_mv_i s3) (by decide) ?_
  refine wl_yield rfl rfl (by decide) (hY x [Value.int .i64 (n : Int)] u hj (by rw [hat, hn]; rfl)) ?_
  intro yb u2 hyb
  refine wl_does (does_not rfl) (by decide) ?_
  refine wl_nil ?_
  refine wc_if rfl (fun hc2 => ?_) (fun hc2 => ?_)
  · refine wc_ret ?_
    rcases hyb with ⟨rfl, _⟩ | ⟨rfl, hjx⟩
    · cases hc2
    · exact ⟨_, rets0, .inr hjx⟩
  rcases hyb with ⟨rfl, hj2⟩ | ⟨rfl, _⟩
  rotate_left
  · cases hc2
  refine wc_skip ?_
  refine wc_region ?_
  refine wl_does (does_load_agg ag_Bits rfl ((hInv _ _ hj2).1.all _ (Bits.len _)) (Bits.len _)) (by decide) ?_
  refine wl_does (does_mv_i s3) (by decide) ?_
  have hnb := (Bits.mem_list.1 (List.mem_of_getElem? hn)).1
  refine wl_does (does_addc rfl rfl (c := ((n + 1 : Nat) : Int)) (by simp) (by omega) (by omega)) (by decide) ?_
  refine wl_call (does_call ca_bits_Next) (by decide) (bits_Next_ok _ b _ (hInv _ _ hj2).2 hb) ?_
  rintro _ u3 ⟨rfl, h3⟩
  replace hj2 := hJ _ _ _ hj2 h3
  refine wl_does (does_mv_t rfl) (by decide) ?_
  refine wl_does (does_extract rfl rfl) (by decide) ?_
  refine wl_does (does_extract rfl rfl) (by decide) ?_
  refine wl_does (does_as_i rfl) (by decide) ?_
  refine wl_does (does_as_b rfl) (by decide) ?_
  refine wl_nil ?_
  have hnx : b.next (n + 1) = b.list[x + 1]? := by
    have := Bits.next_at b x hxl
    rwa [show b.list[x] = n from (List.getElem?_eq_some_iff.1 hn).2] at this
  exact ⟨rfl, (((((((((((((((Dif.self _ _ _).upd rfl _).upd rfl _).upd rfl _).upd rfl _).upd rfl _).upd rfl _).upd rfl _).upd rfl _).upd rfl _).upd rfl _).upd rfl _).upd rfl _).upd rfl _).upd rfl _), x + 1, ⟨congrArg (Value.int .i64) (nextS_fst hnx), congrArg Value.bool (nextS_snd hnx), hj2, by omega⟩, by omega⟩

end Go.Proofs.YtjjkhjieegmphaaDoor
