/- Plain law of the sets of numbers: no program in sight. -/
import Derived.Test.YtjjkhjieegmphaaDoorBits2
import Derived.Lib.TrailingZeros
namespace Go.Proofs.YtjjkhjieegmphaaDoor
open Gw
set_option linter.unusedVariables false

/-- a word of 64 bits -/
def isW (x : Int) : Prop := 0 ≤ x ∧ x < 18446744073709551616
theorem toNat_ofInt64 {x : Int} (h : isW x) : (BitVec.ofInt 64 x).toNat = x.toNat := by
  rw [BitVec.toNat_ofInt, Int.emod_eq_of_lt h.1 (by have := h.2; simpa using this)]
theorem bits_w {op : BinOp} {x y : Int} : isW (bitsOp op .u64 x y) := by
  have key : ∀ (v : BitVec 64), isW (IntKind.u64.wrap v.toNat) := fun v => by
    have := v.isLt
    rw [IntWalk.u64_in _ ⟨by omega, by omega⟩]
    exact ⟨by omega, by omega⟩
  exact key _
theorem bits_toNat (v : BitVec 64) : (IntKind.u64.wrap (v.toNat : Int)).toNat = v.toNat := by
  have := v.isLt
  rw [IntWalk.u64_in _ ⟨by omega, by omega⟩]
  exact Int.toNat_natCast _
theorem bits_or {x y : Int} (hx : isW x) (hy : isW y) : (bitsOp .or .u64 x y).toNat = x.toNat ||| y.toNat := by
  have e : bitsOp .or .u64 x y = IntKind.u64.wrap ((BitVec.ofInt 64 x ||| BitVec.ofInt 64 y).toNat : Int) := rfl
  rw [e, bits_toNat, BitVec.toNat_or, toNat_ofInt64 hx, toNat_ofInt64 hy]
theorem bits_and {x y : Int} (hx : isW x) (hy : isW y) : (bitsOp .and .u64 x y).toNat = x.toNat &&& y.toNat := by
  have e : bitsOp .and .u64 x y = IntKind.u64.wrap ((BitVec.ofInt 64 x &&& BitVec.ofInt 64 y).toNat : Int) := rfl
  rw [e, bits_toNat, BitVec.toNat_and, toNat_ofInt64 hx, toNat_ofInt64 hy]
theorem bits_xor {x y : Int} (hx : isW x) (hy : isW y) : (bitsOp .xor .u64 x y).toNat = x.toNat ^^^ y.toNat := by
  have e : bitsOp .xor .u64 x y = IntKind.u64.wrap ((BitVec.ofInt 64 x ^^^ BitVec.ofInt 64 y).toNat : Int) := rfl
  rw [e, bits_toNat, BitVec.toNat_xor, toNat_ofInt64 hx, toNat_ofInt64 hy]
theorem bits_andNot_bit {x y : Int} (hx : isW x) (hy : isW y) (i : Nat) (hi : i < 64) : (bitsOp .andNot .u64 x y).toNat.testBit i = (x.toNat.testBit i && !y.toNat.testBit i) := by
  have e : bitsOp .andNot .u64 x y = IntKind.u64.wrap ((BitVec.ofInt 64 x &&& ~~~BitVec.ofInt 64 y).toNat : Int) := rfl
  rw [e, bits_toNat, BitVec.testBit_toNat, BitVec.getLsbD_and, BitVec.getLsbD_not, ← BitVec.testBit_toNat, ← BitVec.testBit_toNat, toNat_ofInt64 hx, toNat_ofInt64 hy]
  simp [hi]
theorem shl_one (r : Nat) (hr : r < 64) : IntKind.u64.wrap (1 * 2 ^ (min r IntKind.u64.bits)) = ((2 ^ r : Nat) : Int) := by
  have e : min r IntKind.u64.bits = r := Nat.min_eq_left (Nat.le_of_lt hr)
  rw [e, Int.one_mul]
  have e3 : (2 : Int) ^ r = ((2 ^ r : Nat) : Int) := by simp
  rw [e3]
  have hlt : 2 ^ r < 2 ^ 64 := Nat.pow_lt_pow_right (by decide) hr
  generalize 2 ^ r = z at *
  exact IntWalk.u64_in _ ⟨by omega, by omega⟩
theorem pow_w (r : Nat) (hr : r < 64) : isW ((2 ^ r : Nat) : Int) := by
  have hlt : 2 ^ r < 2 ^ 64 := Nat.pow_lt_pow_right (by decide) hr
  generalize 2 ^ r = z at *
  exact ⟨by omega, by omega⟩
theorem shl_ones (r : Nat) (hr : r < 64) : IntKind.u64.wrap (18446744073709551615 * 2 ^ (min r IntKind.u64.bits)) = ((2 ^ 64 - 2 ^ r : Nat) : Int) := by
  have e : min r IntKind.u64.bits = r := Nat.min_eq_left (Nat.le_of_lt hr)
  rw [e]
  have e3 : (2 : Int) ^ r = ((2 ^ r : Nat) : Int) := by simp
  rw [e3]
  have hlt : 2 ^ r < 2 ^ 64 := Nat.pow_lt_pow_right (by decide) hr
  have hpos : 0 < 2 ^ r := Nat.pow_pos (by decide)
  generalize hz : 2 ^ r = z at *
  have e4 : IntKind.u64.wrap (18446744073709551615 * (z : Int)) = (18446744073709551615 * (z : Int)) % 18446744073709551616 := by rfl
  rw [e4]
  omega
theorem ones_w (r : Nat) : isW ((2 ^ 64 - 2 ^ r : Nat) : Int) := by
  have hpos : 0 < 2 ^ r := Nat.pow_pos (by decide)
  generalize 2 ^ r = z at *
  exact ⟨by omega, by omega⟩
theorem ones_bit (r i : Nat) (hr : r < 64) (hi : i < 64) : (2 ^ 64 - 2 ^ r).testBit i = decide (r ≤ i) := by
  have hlt : 2 ^ r < 2 ^ 64 := Nat.pow_lt_pow_right (by decide) hr
  have hpos : 0 < 2 ^ r := Nat.pow_pos (by decide)
  have h := Nat.testBit_two_pow_sub_succ (x := 2 ^ r - 1) (n := 64) (by omega) i
  rw [show 2 ^ r - 1 + 1 = 2 ^ r by omega] at h
  rw [h]
  rw [Nat.testBit_two_pow_sub_one, decide_eq_true hi, Bool.true_and]
  by_cases h2 : i < r
  · rw [decide_eq_true h2, decide_eq_false (by omega)]; rfl
  · rw [decide_eq_false h2, decide_eq_true (by omega)]; rfl

-- sets by what they hold
theorem Bits.has_nat (b : Bits) (n : Nat) (h : n < 1024) : b.has n = (b.w (n / 64)).toNat.testBit (n % 64) := by
  unfold Bits.has
  have e1 : ((n : Int) / 64).toNat = n / 64 := by omega
  have e2 : ((n : Int) % 64).toNat = n % 64 := by omega
  rw [e1, e2]
  simp
  omega
theorem Bits.has_out (b : Bits) (n : Int) (h : n < 0 ∨ 1024 ≤ n) : b.has n = false := by
  unfold Bits.has
  rcases h with h | h
  · rw [decide_eq_false (by omega)]; rfl
  · rw [decide_eq_false (by omega : ¬ n < 1024)]; simp
/-- the set of the numbers below 1024 of which p is told -/
def Bits.ofp (p : Nat → Bool) : Bits := Bits.mk fun i => ((BitVec.ofBoolListLE ((List.range 64).map fun r => p (64 * i + r))).toNat : Int)
theorem Bits.ofp_w (p : Nat → Bool) (i : Nat) (hi : i < 16) : isW ((Bits.ofp p).w i) := by
  unfold Bits.ofp
  rw [Bits.w_mk _ _ hi]
  generalize hv : BitVec.ofBoolListLE ((List.range 64).map fun r => p (64 * i + r)) = v
  have := v.isLt
  have e : 2 ^ ((List.range 64).map fun r => p (64 * i + r)).length = 18446744073709551616 := by simp
  rw [e] at this
  exact ⟨by omega, by omega⟩
theorem Bits.ofp_ok (p : Nat → Bool) : (Bits.ofp p).ok := fun i => by
  by_cases h : i < 16
  · exact Bits.ofp_w p i h
  · rw [Bits.w_big _ _ (by omega)]; decide
theorem Bits.ofp_bit (p : Nat → Bool) (i r : Nat) (hi : i < 16) (hr : r < 64) : ((Bits.ofp p).w i).toNat.testBit r = p (64 * i + r) := by
  unfold Bits.ofp
  rw [Bits.w_mk _ _ hi, Int.toNat_natCast, BitVec.testBit_toNat, BitVec.getLsbD_ofBoolListLE]
  simp [hr]
theorem Bits.ofp_has (p : Nat → Bool) (n : Nat) (h : n < 1024) : (Bits.ofp p).has n = p n := by
  rw [Bits.has_nat _ _ h, Bits.ofp_bit p _ _ (by omega) (by omega)]
  congr 1
  omega
theorem Bits.eq_of_bits {a b : Bits} (ha : a.ok) (hb : b.ok) (h : ∀ i r, i < 16 → r < 64 → (a.w i).toNat.testBit r = (b.w i).toNat.testBit r) : a = b := by
  refine Bits.ext_w fun i hi => ?_
  have e : (a.w i).toNat = (b.w i).toNat := by
    apply Nat.eq_of_testBit_eq
    intro r
    by_cases hr : r < 64
    · exact h i r hi hr
    · have hp : 2 ^ 64 ≤ 2 ^ r := Nat.pow_le_pow_right (by decide) (by omega)
      have ha' := (ha i).2
      have hb' := (hb i).2
      have h0 := (ha i).1
      have h1 := (hb i).1
      rw [Nat.testBit_lt_two_pow (by omega), Nat.testBit_lt_two_pow (by omega)]
  have h0 := (ha i).1
  have h1 := (hb i).1
  omega
theorem Bits.eq_of_has {a b : Bits} (ha : a.ok) (hb : b.ok) (h : ∀ n : Nat, n < 1024 → a.has n = b.has n) : a = b :=
  Bits.eq_of_bits ha hb fun i r hi hr => by
    have := h (64 * i + r) (by omega)
    rw [Bits.has_nat _ _ (by omega), Bits.has_nat _ _ (by omega)] at this
    rwa [show (64 * i + r) / 64 = i by omega, show (64 * i + r) % 64 = r by omega] at this
theorem Bits.ofp_self {b : Bits} (hb : b.ok) : Bits.ofp (fun n => b.has n) = b := Bits.eq_of_has (Bits.ofp_ok _) hb fun n h => by rw [Bits.ofp_has _ _ h]
theorem Bits.ofp_congr {p q : Nat → Bool} (h : ∀ n, n < 1024 → p n = q n) : Bits.ofp p = Bits.ofp q := Bits.eq_of_has (Bits.ofp_ok _) (Bits.ofp_ok _) fun n hn => by rw [Bits.ofp_has _ _ hn, Bits.ofp_has _ _ hn, h n hn]
theorem Bits.z_w (i : Nat) : Bits.z.w i = 0 := by
  by_cases h : i < 16
  · have : Bits.z.toList = List.replicate 16 0 := by simp [Bits.z]
    rw [Bits.w, this, List.getD_eq_getElem?_getD, List.getElem?_replicate]; simp [h]
  · exact Bits.w_big _ _ (by omega)
theorem Bits.z_ok : Bits.z.ok := fun i => by rw [Bits.z_w]; decide
theorem Bits.z_has (n : Int) : Bits.z.has n = false := by unfold Bits.has; rw [Bits.z_w]; simp
theorem Bits.z_ofp : Bits.z = Bits.ofp (fun _ => false) := Bits.eq_of_has Bits.z_ok (Bits.ofp_ok _) fun n h => by rw [Bits.ofp_has _ _ h, Bits.z_has]

/-- a set with a number more -/
def Bits.add (b : Bits) (n : Int) : Bits := Bits.ofp fun m => decide ((m : Int) = n) || b.has m
/-- a set without a number -/
def Bits.del (b : Bits) (n : Int) : Bits := Bits.ofp fun m => !decide ((m : Int) = n) && b.has m
def Bits.union (a b : Bits) : Bits := Bits.ofp fun m => a.has m || b.has m
def Bits.minus (a b : Bits) : Bits := Bits.ofp fun m => a.has m && !b.has m
theorem Bits.add_ok (b : Bits) (n : Int) : (b.add n).ok := Bits.ofp_ok _
theorem Bits.del_ok (b : Bits) (n : Int) : (b.del n).ok := Bits.ofp_ok _
theorem Bits.union_ok (a b : Bits) : (a.union b).ok := Bits.ofp_ok _
theorem Bits.minus_ok (a b : Bits) : (a.minus b).ok := Bits.ofp_ok _
theorem Bits.has_int (b : Bits) (n : Int) (p : Nat → Bool) (h : ∀ m : Nat, m < 1024 → b.has m = p m) (hn : 0 ≤ n ∧ n < 1024) : b.has n = p n.toNat := by
  have := h n.toNat (by omega)
  rwa [show ((n.toNat : Nat) : Int) = n by omega] at this
theorem Bits.add_has (b : Bits) (n m : Int) (hn : 0 ≤ n ∧ n < 1024) : (b.add n).has m = (decide (m = n) || b.has m) := by
  by_cases hm : 0 ≤ m ∧ m < 1024
  · refine (Bits.has_int _ m _ (fun k hk => Bits.ofp_has _ k hk) hm).trans ?_
    rw [show ((m.toNat : Nat) : Int) = m by omega]
  · rw [Bits.has_out _ m (by omega), Bits.has_out b m (by omega), decide_eq_false (by omega)]; rfl
theorem Bits.del_has (b : Bits) (n m : Int) : (b.del n).has m = (!decide (m = n) && b.has m) := by
  by_cases hm : 0 ≤ m ∧ m < 1024
  · refine (Bits.has_int _ m _ (fun k hk => Bits.ofp_has _ k hk) hm).trans ?_
    rw [show ((m.toNat : Nat) : Int) = m by omega]
  · rw [Bits.has_out _ m (by omega), Bits.has_out b m (by omega)]; simp
theorem Bits.union_has (a b : Bits) (m : Int) : (a.union b).has m = (a.has m || b.has m) := by
  by_cases hm : 0 ≤ m ∧ m < 1024
  · refine (Bits.has_int _ m _ (fun k hk => Bits.ofp_has _ k hk) hm).trans ?_
    rw [show ((m.toNat : Nat) : Int) = m by omega]
  · rw [Bits.has_out _ m (by omega), Bits.has_out b m (by omega), Bits.has_out a m (by omega)]; rfl
theorem Bits.minus_has (a b : Bits) (m : Int) : (a.minus b).has m = (a.has m && !b.has m) := by
  by_cases hm : 0 ≤ m ∧ m < 1024
  · refine (Bits.has_int _ m _ (fun k hk => Bits.ofp_has _ k hk) hm).trans ?_
    rw [show ((m.toNat : Nat) : Int) = m by omega]
  · rw [Bits.has_out _ m (by omega), Bits.has_out b m (by omega), Bits.has_out a m (by omega)]; rfl
theorem Bits.zip_ok {op : BinOp} (a b : Bits) : (Bits.zip (bitsOp op .u64) a b).ok := fun i => by
  by_cases h : i < 16
  · rw [Bits.zip, Bits.w_mk _ _ h]; exact bits_w
  · rw [Bits.w_big _ _ (by omega)]; decide
theorem Bits.zip_union {a b : Bits} (ha : a.ok) (hb : b.ok) : Bits.zip (bitsOp .or .u64) a b = a.union b := by
  refine Bits.eq_of_bits (Bits.zip_ok a b) (Bits.union_ok a b) fun i r hi hr => ?_
  rw [Bits.zip, Bits.w_mk _ _ hi, bits_or (ha i) (hb i), Nat.testBit_or, Bits.union, Bits.ofp_bit _ _ _ hi hr, Bits.has_nat _ _ (by omega), Bits.has_nat _ _ (by omega), show (64 * i + r) / 64 = i by omega, show (64 * i + r) % 64 = r by omega]
theorem Bits.zip_minus {a b : Bits} (ha : a.ok) (hb : b.ok) : Bits.zip (bitsOp .andNot .u64) a b = a.minus b := by
  refine Bits.eq_of_bits (Bits.zip_ok a b) (Bits.minus_ok a b) fun i r hi hr => ?_
  rw [Bits.zip, Bits.w_mk _ _ hi, bits_andNot_bit (ha i) (hb i) _ hr, Bits.minus, Bits.ofp_bit _ _ _ hi hr, Bits.has_nat _ _ (by omega), Bits.has_nat _ _ (by omega), show (64 * i + r) / 64 = i by omega, show (64 * i + r) % 64 = r by omega]
theorem Bits.put_ok {b : Bits} (hb : b.ok) (i : Nat) {y : Int} (hy : isW y) : (b.put i y).ok := fun j => by
  by_cases h : j < 16
  · rw [Bits.w_put _ _ _ _ h]; split
    · exact hy
    · exact hb j
  · rw [Bits.w_big _ _ (by omega)]; decide
/-- the bit of a number is set -/
theorem Bits.put_add {b : Bits} (hb : b.ok) {n : Int} (hn : 0 ≤ n ∧ n < 1024) : b.put (0 + (n / 64).toNat * 1) (bitsOp .or .u64 (b.w (0 + (n / 64).toNat * 1)) (IntKind.u64.wrap (1 * 2 ^ (min (n % 64).toNat IntKind.u64.bits)))) = b.add n := by
  have hr : (n % 64).toNat < 64 := by omega
  rw [Nat.zero_add, Nat.mul_one, shl_one _ hr]
  refine Bits.eq_of_bits (Bits.put_ok hb _ bits_w) (Bits.add_ok b n) fun i r hi hr' => ?_
  rw [Bits.w_put _ _ _ _ hi, Bits.add, Bits.ofp_bit _ _ _ hi hr', Bits.has_nat _ _ (by omega), show (64 * i + r) / 64 = i by omega, show (64 * i + r) % 64 = r by omega]
  by_cases e : (n / 64).toNat = i
  · rw [if_pos e, e, bits_or (hb i) (pow_w _ hr), Nat.testBit_or, Int.toNat_natCast, Nat.testBit_two_pow, Bool.or_comm]
    congr 1
    rw [Bool.eq_iff_iff]; simp only [decide_eq_true_eq]
    omega
  · rw [if_neg e, decide_eq_false (by omega)]; rfl
/-- the bit of a number that is in is turned -/
theorem Bits.put_del {b : Bits} (hb : b.ok) {n : Int} (hn : 0 ≤ n ∧ n < 1024) (hh : b.has n = true) : b.put (0 + (n / 64).toNat * 1) (bitsOp .xor .u64 (b.w (0 + (n / 64).toNat * 1)) (IntKind.u64.wrap (1 * 2 ^ (min (n % 64).toNat IntKind.u64.bits)))) = b.del n := by
  have hr : (n % 64).toNat < 64 := by omega
  rw [Nat.zero_add, Nat.mul_one, shl_one _ hr]
  refine Bits.eq_of_bits (Bits.put_ok hb _ bits_w) (Bits.del_ok b n) fun i r hi hr' => ?_
  rw [Bits.w_put _ _ _ _ hi, Bits.del, Bits.ofp_bit _ _ _ hi hr', Bits.has_nat _ _ (by omega), show (64 * i + r) / 64 = i by omega, show (64 * i + r) % 64 = r by omega]
  by_cases e : (n / 64).toNat = i
  · rw [if_pos e, e, bits_xor (hb i) (pow_w _ hr), Nat.testBit_xor, Int.toNat_natCast, Nat.testBit_two_pow]
    by_cases e2 : (n % 64).toNat = r
    · have hb2 : (b.w i).toNat.testBit r = true := by
        have := hh
        rw [show n = ((64 * i + r : Nat) : Int) by omega, Bits.has_nat _ _ (by omega), show (64 * i + r) / 64 = i by omega, show (64 * i + r) % 64 = r by omega] at this
        exact this
      rw [hb2, decide_eq_true e2, decide_eq_true (by omega)]; rfl
    · rw [decide_eq_false e2, decide_eq_false (by omega)]; simp
  · rw [if_neg e, decide_eq_false (by omega)]; rfl
theorem Bits.del_none {b : Bits} (hb : b.ok) {n : Int} (hh : b.has n = false) : b.del n = b := by
  refine Bits.eq_of_has (Bits.del_ok b n) hb fun m hm => ?_
  rw [Bits.del_has]
  by_cases e : (m : Int) = n
  · rw [e, hh]; simp
  · simp [e]

/-- a set's numbers, rising -/
def Bits.list (b : Bits) : List Nat := (List.range 1024).filter fun n => b.has n
/-- the least number from one on -/
def Bits.next (b : Bits) (k : Nat) : Option Nat := b.list.find? fun n => decide (k ≤ n)
theorem Bits.mem_list {b : Bits} {n : Nat} : n ∈ b.list ↔ n < 1024 ∧ b.has n = true := by simp [Bits.list]
theorem Bits.list_sorted (b : Bits) : b.list.Pairwise (· < ·) := List.Pairwise.filter _ List.pairwise_lt_range
theorem Bits.next_some {b : Bits} {k n : Nat} (hn : n < 1024) (h : b.has n = true) (hk : k ≤ n) (hmin : ∀ m, k ≤ m → m < n → b.has m = false) : b.next k = some n := by
  unfold Bits.next Bits.list
  rw [List.find?_filter, List.find?_range_eq_some]
  refine ⟨by simp [h, hk], by simpa using hn, fun j hj => ?_⟩
  by_cases hkj : k ≤ j
  · simp [hmin j hkj hj]
  · simp [hkj]
theorem Bits.next_none {b : Bits} {k : Nat} (h : ∀ m, k ≤ m → m < 1024 → b.has m = false) : b.next k = none := by
  unfold Bits.next
  rw [List.find?_eq_none]
  intro m hm
  obtain ⟨h1, h2⟩ := Bits.mem_list.1 hm
  simp only [decide_eq_true_eq]
  intro hk
  rw [h m hk h1] at h2; cases h2
theorem find_sorted : ∀ (l : List Nat), l.Pairwise (· < ·) → ∀ (i k : Nat), (∀ j (h : j < i), ∀ (h2 : j < l.length), l[j] < k) → (∀ h : i < l.length, k ≤ l[i]) → l.find? (fun n => decide (k ≤ n)) = l[i]?
  | [], _, i, k, _, _ => by simp
  | a :: l, hp, i, k, h1, h2 => by
    obtain ⟨ha, hl⟩ := List.pairwise_cons.1 hp
    cases i with
    | zero =>
      have := h2 (by simp)
      simp at this
      simp [this]
    | succ i =>
      have hak : a < k := h1 0 (by omega) (by simp)
      rw [List.find?_cons, decide_eq_false (by omega)]
      simp only [List.getElem?_cons_succ]
      exact find_sorted l hl i k (fun j hj hjl => h1 (j + 1) (by omega) (by simp; omega)) (fun hi => h2 (by simp; omega))
theorem Bits.next_zero (b : Bits) : b.next 0 = b.list[0]? := find_sorted _ (Bits.list_sorted b) 0 0 (fun j hj => by omega) (fun _ => Nat.zero_le _)
theorem Bits.next_at (b : Bits) (i : Nat) (h : i < b.list.length) : b.next (b.list[i] + 1) = b.list[i + 1]? := by
  have hs := List.pairwise_iff_getElem.1 (Bits.list_sorted b)
  refine find_sorted _ (Bits.list_sorted b) (i + 1) _ (fun j hj hjl => ?_) (fun hi => ?_)
  · by_cases e : j = i
    · subst e; omega
    · have := hs j i hjl h (by omega); omega
  · exact hs i (i + 1) h hi (by omega)
/-- what is left of the first word -/
def Bits.from (b : Bits) (k : Nat) : Bits := b.put (k / 64) (bitsOp .and .u64 (b.w (k / 64)) ((2 ^ 64 - 2 ^ (k % 64) : Nat) : Int))
theorem Bits.from_w {b : Bits} (k i : Nat) (hi : i < 16) : (b.from k).w i = if k / 64 = i then bitsOp .and .u64 (b.w i) ((2 ^ 64 - 2 ^ (k % 64) : Nat) : Int) else b.w i := by
  rw [Bits.from, Bits.w_put _ _ _ _ hi]
  split
  · rename_i h; subst h; rfl
  · rfl
theorem Bits.from_ok {b : Bits} (hb : b.ok) (k : Nat) : (b.from k).ok := Bits.put_ok hb _ bits_w
theorem Bits.from_bit {b : Bits} (hb : b.ok) (k i r : Nat) (hi : i < 16) (hr : r < 64) (hk : k / 64 ≤ i) : ((b.from k).w i).toNat.testBit r = (decide (k ≤ 64 * i + r) && b.has ((64 * i + r : Nat) : Int)) := by
  rw [Bits.from_w _ _ hi, Bits.has_nat _ _ (by omega), show (64 * i + r) / 64 = i by omega, show (64 * i + r) % 64 = r by omega]
  by_cases e : k / 64 = i
  · rw [if_pos e, bits_and (hb i) (ones_w _), Nat.testBit_and, Int.toNat_natCast, ones_bit _ _ (by omega) hr, Bool.and_comm]
    congr 1
    rw [Bool.eq_iff_iff]; simp only [decide_eq_true_eq]
    omega
  · rw [if_neg e, decide_eq_true (by omega)]; rfl
theorem Bits.next_found {b : Bits} (hb : b.ok) (k i : Nat) (hk : k < 1024) (hi : i < 16) (hki : k / 64 ≤ i) (hz : ∀ j, k / 64 ≤ j → j < i → (b.from k).w j = 0) (hne : (b.from k).w i ≠ 0) :
    b.next k = some (64 * i + Lib.ctz 64 ((b.from k).w i).toNat) ∧ Lib.ctz 64 ((b.from k).w i).toNat < 64 := by
  have hw := Bits.from_ok hb k i
  obtain ⟨m, hm, hc⟩ := Lib.ctzFrom_spec 64 ((b.from k).w i).toNat (by omega) (by have := hw.2; omega)
  have hctz : Lib.ctz 64 ((b.from k).w i).toNat = Lib.ctzFrom 64 ((b.from k).w i).toNat := by
    unfold Lib.ctz
    rw [if_neg (by omega)]
  rw [hctz]
  generalize Lib.ctzFrom 64 ((b.from k).w i).toNat = c at *
  have hbit : ((b.from k).w i).toNat.testBit c = true := by
    rw [hm, Nat.mul_comm, Nat.testBit_mul_two_pow]
    simp [Nat.testBit_zero]
  have hlow : ∀ r, r < c → ((b.from k).w i).toNat.testBit r = false := by
    intro r hr
    rw [hm, Nat.mul_comm, Nat.testBit_mul_two_pow, decide_eq_false (by omega)]; rfl
  rw [Bits.from_bit hb k i c hi hc hki] at hbit
  simp only [Bool.and_eq_true, decide_eq_true_eq] at hbit
  refine ⟨Bits.next_some (by omega) hbit.2 hbit.1 fun m hkm hmn => ?_, hc⟩
  by_cases hmi : m / 64 = i
  · have h1 := hlow (m % 64) (by omega)
    rw [Bits.from_bit hb k i (m % 64) hi (by omega) hki] at h1
    rw [show 64 * i + m % 64 = m by omega, decide_eq_true hkm] at h1
    simpa using h1
  · have h1 := hz (m / 64) (by omega) (by omega)
    have h2 := Bits.from_bit hb k (m / 64) (m % 64) (by omega) (by omega) (by omega)
    rw [h1, show 64 * (m / 64) + m % 64 = m by omega, decide_eq_true hkm] at h2
    simpa using h2.symm
theorem Bits.next_nil {b : Bits} (hb : b.ok) (k : Nat) (hz : ∀ j, k / 64 ≤ j → j < 16 → (b.from k).w j = 0) : b.next k = none :=
  Bits.next_none fun m hkm hm => by
    have h1 := hz (m / 64) (by omega) (by omega)
    have h2 := Bits.from_bit hb k (m / 64) (m % 64) (by omega) (by omega) (by omega)
    rw [h1, show 64 * (m / 64) + m % 64 = m by omega, decide_eq_true hkm] at h2
    simpa using h2.symm
/-- the table's product, as the code reckons it -/
theorem tz_walk {x : Int} (hx : isW x) (h0 : x ≠ 0) : ∃ i : Nat, i < 64 ∧ (IntKind.u64.wrap (bitsOp .and .u64 x (IntKind.u64.wrap (-x)) * 285870213051353865)).fdiv (2 ^ (min (58 : Int).toNat IntKind.u64.bits)) = (i : Int) ∧ Lib.deBruijn64tab.getD i 0 = Lib.ctz 64 x.toNat := by
  obtain ⟨y, rfl⟩ : ∃ y : Nat, x = y := ⟨x.toNat, by have := hx.1; omega⟩
  have hy : y < 2 ^ 64 := by have := hx.2; omega
  have hy0 : y ≠ 0 := by omega
  obtain ⟨h1, h2⟩ := Lib.lowest_bit 64 y hy0 hy
  have hneg : IntKind.u64.wrap (-(y : Int)) = ((2 ^ 64 - y : Nat) : Int) := by
    have e4 : IntKind.u64.wrap (-(y : Int)) = (-(y : Int)) % 18446744073709551616 := by rfl
    rw [e4]; omega
  have hand : bitsOp .and .u64 (y : Int) (IntKind.u64.wrap (-(y : Int))) = ((2 ^ Lib.ctz 64 y : Nat) : Int) := by
    have hw : isW ((2 ^ 64 - y : Nat) : Int) := ⟨by omega, by omega⟩
    rw [hneg]
    have := bits_and hx hw
    rw [Int.toNat_natCast, Int.toNat_natCast, h1] at this
    have hb := (bits_w (op := .and) (x := (y : Int)) (y := ((2 ^ 64 - y : Nat) : Int))).1
    omega
  rw [hand, Int.toNat_natCast]
  obtain ⟨h3, h4⟩ := Lib.deBruijn64_at _ h2
  generalize Lib.ctz 64 y = c at *
  refine ⟨2 ^ c * 285870213051353865 % 18446744073709551616 / 288230376151711744, h3, ?_, h4⟩
  have e5 : IntKind.u64.wrap (((2 ^ c : Nat) : Int) * 285870213051353865) = ((2 ^ c * 285870213051353865 % 18446744073709551616 : Nat) : Int) := by
    have e4 : IntKind.u64.wrap (((2 ^ c : Nat) : Int) * 285870213051353865) = (((2 ^ c : Nat) : Int) * 285870213051353865) % 18446744073709551616 := by rfl
    rw [e4]; generalize 2 ^ c = z; omega
  rw [e5]
  have e6 : (2 : Int) ^ (min (58 : Int).toNat IntKind.u64.bits) = 288230376151711744 := by decide
  rw [e6, Int.fdiv_eq_ediv_of_nonneg _ (by omega)]
  omega
end Go.Proofs.YtjjkhjieegmphaaDoor
