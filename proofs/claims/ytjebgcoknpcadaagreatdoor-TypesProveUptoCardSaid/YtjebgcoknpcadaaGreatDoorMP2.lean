/- Texts put together: Plain law of the sets of numbers: no program in sight. Contracts of the bits' functions, third part: what makes and goes through sets. Words: what may be a name (program and reference). Tables of formulas (program): what a table is in memory; what only reads. Tables of formulas (program): what puts rows. A table that no call made: what it answers. What a call knows of memory, in one: pieces that are its own (each with its blocks, apart from each other), pieces that stay as they are; and how that turns with each step. Over whatever program. What printed functions are made of: checks, loops with a bound, loops with fuel; and how the walk takes them apart. A region that draws its order, with operations that make no value (stores). Literals and appends by typed lists, and what they make of what a call knows. Regions that draw their order, cut into segments at operations that come behind all ahead of them: each segment is shown by itself. Loops over functions, by what a call knows of memory. Contracts of the sets' functions, as the printed walks use them. Contracts of the tables' functions, as the printed walks use them. A table is some rows, or none (a table that no call made). Tables of formulas (program): a new one; one cut short; its rows. Pieces put together: apart from each other; told by what is not seen; slices of structs with references. Over whatever program. Pieces that stay and may share memory; calls that give back pieces that stay. Over whatever program. -/
import Derived.Test.YtjebgcoknpcadaaGreatDoorMP1
import Derived.Lib.TrailingZeros
set_option linter.unusedVariables false
set_option linter.unusedSimpArgs false
section
namespace Go.Proofs.YtjebgcoknpcadaaGreatDoor
open Gw
def isW (x : Int) : Prop := 0 ≤ x ∧ x < 18446744073709551616
theorem uu {x : Int} (h : isW x) : (BitVec.ofInt 64 x).toNat = x.toNat := by
 rw [BitVec.toNat_ofInt, Int.emod_eq_of_lt h.1 (by have := h.2; simpa using this)]
theorem bits_w {op : BinOp} {x y : Int} : isW (yo op .u64 x y) := by
 have key : ∀ (v : BitVec 64), isW (IntKind.u64.wrap v.toNat) := fun v => by
  have := v.isLt
  rw [IntWalk.u64_in _ ⟨by omega, by omega⟩]
  exact ⟨by omega, by omega⟩
 exact key _
theorem bits_toNat (v : BitVec 64) : (IntKind.u64.wrap (v.toNat : Int)).toNat = v.toNat := by
 have := v.isLt
 rw [IntWalk.u64_in _ ⟨by omega, by omega⟩]
 exact Int.toNat_natCast _
theorem bits_or {x y : Int} (hx : isW x) (hy : isW y) : (yo .or .u64 x y).toNat = x.toNat ||| y.toNat := by
 have e : yo .or .u64 x y = IntKind.u64.wrap ((BitVec.ofInt 64 x ||| BitVec.ofInt 64 y).toNat : Int) := rfl
 rw [e, bits_toNat, BitVec.toNat_or, uu hx, uu hy]
theorem bits_and {x y : Int} (hx : isW x) (hy : isW y) : (yo .and .u64 x y).toNat = x.toNat &&& y.toNat := by
 have e : yo .and .u64 x y = IntKind.u64.wrap ((BitVec.ofInt 64 x &&& BitVec.ofInt 64 y).toNat : Int) := rfl
 rw [e, bits_toNat, BitVec.toNat_and, uu hx, uu hy]
theorem bits_andNot_bit {x y : Int} (hx : isW x) (hy : isW y) (i : Nat) (hi : i < 64) : (yo .andNot .u64 x y).toNat.testBit i = (x.toNat.testBit i && !y.toNat.testBit i) := by
 have e : yo .andNot .u64 x y = IntKind.u64.wrap ((BitVec.ofInt 64 x &&& ~~~BitVec.ofInt 64 y).toNat : Int) := rfl
 rw [e, bits_toNat, BitVec.testBit_toNat, BitVec.getLsbD_and, BitVec.getLsbD_not, ← BitVec.testBit_toNat, ← BitVec.testBit_toNat, uu hx, uu hy]
 simp [hi]
theorem shl_one (r : Nat) (hr : r < 64) : IntKind.u64.wrap (1 * 2 ^ (min r IntKind.u64.bits)) = ((2 ^ r : Nat) : Int) := by
 have e : min r IntKind.u64.bits = r := Nat.min_eq_left (Nat.le_of_lt hr)
 rw [e, Int.one_mul]
 have e3 : (2 : Int) ^ r = ((2 ^ r : Nat) : Int) := by simp
 rw [e3]
 have hlt : 2 ^ r < 2 ^ 64 := Nat.pow_lt_pow_right (by decide) hr
 generalize 2 ^ r = z at *
 exact IntWalk.u64_in _ ⟨by omega, by omega⟩
theorem pow_w (r : Nat) (hr : r < 64) : isW ((2 ^ r : Nat) : Int) := by
 have hlt : 2 ^ r < 2 ^ 64 := Nat.pow_lt_pow_right (by decide) hr
 generalize 2 ^ r = z at *
 exact ⟨by omega, by omega⟩
theorem shl_ones (r : Nat) (hr : r < 64) : IntKind.u64.wrap (18446744073709551615 * 2 ^ (min r IntKind.u64.bits)) = ((2 ^ 64 - 2 ^ r : Nat) : Int) := by
 have e : min r IntKind.u64.bits = r := Nat.min_eq_left (Nat.le_of_lt hr)
 rw [e]
 have e3 : (2 : Int) ^ r = ((2 ^ r : Nat) : Int) := by simp
 rw [e3]
 have hlt : 2 ^ r < 2 ^ 64 := Nat.pow_lt_pow_right (by decide) hr
 have hpos : 0 < 2 ^ r := Nat.pow_pos (by decide)
 generalize hz : 2 ^ r = z at *
 have e4 : IntKind.u64.wrap (18446744073709551615 * (z : Int)) = (18446744073709551615 * (z : Int)) % 18446744073709551616 := by rfl
 rw [e4]
 omega
theorem ones_w (r : Nat) : isW ((2 ^ 64 - 2 ^ r : Nat) : Int) := by
 have hpos : 0 < 2 ^ r := Nat.pow_pos (by decide)
 generalize 2 ^ r = z at *
 exact ⟨by omega, by omega⟩
theorem ones_bit (r i : Nat) (hr : r < 64) (hi : i < 64) : (2 ^ 64 - 2 ^ r).testBit i = decide (r ≤ i) := by
 have hlt : 2 ^ r < 2 ^ 64 := Nat.pow_lt_pow_right (by decide) hr
 have hpos : 0 < 2 ^ r := Nat.pow_pos (by decide)
 have h := Nat.testBit_two_pow_sub_succ (x := 2 ^ r - 1) (n := 64) (by omega) i
 rw [show 2 ^ r - 1 + 1 = 2 ^ r by omega] at h
 rw [h]
 rw [Nat.testBit_two_pow_sub_one, decide_eq_true hi, Bool.true_and]
 by_cases h2 : i < r
 ·rw [decide_eq_true h2, decide_eq_false (by omega)]; rfl
 ·rw [decide_eq_false h2, decide_eq_true (by omega)]; rfl
-- sets by what they hold
theorem Bits.has_nat (b : Bits) (n : Nat) (h : n < 1024) : b.has n = (b.w (n / 64)).toNat.testBit (n % 64) := by
 unfold Bits.has
 have e1 : ((n : Int) / 64).toNat = n / 64 := by omega
 have e2 : ((n : Int) % 64).toNat = n % 64 := by omega
 rw [e1, e2]
 simp
 omega
theorem Bits.has_out (b : Bits) (n : Int) (h : n < 0 ∨ 1024 ≤ n) : b.has n = false := by
 unfold Bits.has
 rcases h with h | h
 ·rw [decide_eq_false (by omega)]; rfl
 ·rw [decide_eq_false (by omega : ¬ n < 1024)]; simp
def Bits.ofp (p : Nat → Bool) : Bits := Bits.mk fun i => ((BitVec.ofBoolListLE ((List.range 64).map fun r => p (64 * i + r))).toNat : Int)
theorem Bits.ofp_w (p : Nat → Bool) (i : Nat) (hi : i < 16) : isW ((Bits.ofp p).w i) := by
 unfold Bits.ofp
 rw [Bits.w_mk _ _ hi]
 generalize hv : BitVec.ofBoolListLE ((List.range 64).map fun r => p (64 * i + r)) = v
 have := v.isLt
 have e : 2 ^ ((List.range 64).map fun r => p (64 * i + r)).length = 18446744073709551616 := by simp
 rw [e] at this
 exact ⟨by omega, by omega⟩
theorem Bits.ofp_ok (p : Nat → Bool) : (Bits.ofp p).ok := fun i => by
 by_cases h : i < 16
 ·exact Bits.ofp_w p i h
 ·rw [Bits.w_big _ _ (by omega)]; decide
theorem Bits.ofp_bit (p : Nat → Bool) (i r : Nat) (hi : i < 16) (hr : r < 64) : ((Bits.ofp p).w i).toNat.testBit r = p (64 * i + r) := by
 unfold Bits.ofp
 rw [Bits.w_mk _ _ hi, Int.toNat_natCast, BitVec.testBit_toNat, BitVec.getLsbD_ofBoolListLE]
 simp [hr]
theorem Bits.ofp_has (p : Nat → Bool) (n : Nat) (h : n < 1024) : (Bits.ofp p).has n = p n := by
 rw [Bits.has_nat _ _ h, Bits.ofp_bit p _ _ (by omega) (by omega)]
 congr 1
 omega
theorem Bits.eq_of_bits {a b : Bits} (ha : a.ok) (hb : b.ok) (h : ∀ i r, i < 16 → r < 64 → (a.w i).toNat.testBit r = (b.w i).toNat.testBit r) : a = b := by
 refine Bits.ext_w fun i hi => ?_
 have e : (a.w i).toNat = (b.w i).toNat := by
  apply Nat.eq_of_testBit_eq
  intro r
  by_cases hr : r < 64
  ·exact h i r hi hr
  ·have hp : 2 ^ 64 ≤ 2 ^ r := Nat.pow_le_pow_right (by decide) (by omega)
   have ha' := (ha i).2
   have hb' := (hb i).2
   have h0 := (ha i).1
   have h1 := (hb i).1
   rw [Nat.testBit_lt_two_pow (by omega), Nat.testBit_lt_two_pow (by omega)]
 have h0 := (ha i).1
 have h1 := (hb i).1
 omega
theorem Bits.eq_of_has {a b : Bits} (ha : a.ok) (hb : b.ok) (h : ∀ n : Nat, n < 1024 → a.has n = b.has n) : a = b :=
 Bits.eq_of_bits ha hb fun i r hi hr => by
  have := h (64 * i + r) (by omega)
  rw [Bits.has_nat _ _ (by omega), Bits.has_nat _ _ (by omega)] at this
  rwa [show (64 * i + r) / 64 = i by omega, show (64 * i + r) % 64 = r by omega] at this
theorem Bits.z_w (i : Nat) : Bits.z.w i = 0 := by
 by_cases h : i < 16
 ·have : Bits.z.toList = List.replicate 16 0 := by simp [Bits.z]
  rw [Bits.w, this, List.getD_eq_getElem?_getD, List.getElem?_replicate]; simp [h]
 ·exact Bits.w_big _ _ (by omega)
theorem Bits.z_ok : Bits.z.ok := fun i => by rw [Bits.z_w]; decide
theorem Bits.z_has (n : Int) : Bits.z.has n = false := by unfold Bits.has; rw [Bits.z_w]; simp
def Bits.add (b : Bits) (n : Int) : Bits := Bits.ofp fun m => decide ((m : Int) = n) || b.has m
def Bits.del (b : Bits) (n : Int) : Bits := Bits.ofp fun m => !decide ((m : Int) = n) && b.has m
def Bits.union (a b : Bits) : Bits := Bits.ofp fun m => a.has m || b.has m
def Bits.minus (a b : Bits) : Bits := Bits.ofp fun m => a.has m && !b.has m
theorem Bits.add_ok (b : Bits) (n : Int) : (b.add n).ok := Bits.ofp_ok _
theorem Bits.del_ok (b : Bits) (n : Int) : (b.del n).ok := Bits.ofp_ok _
theorem Bits.union_ok (a b : Bits) : (a.union b).ok := Bits.ofp_ok _
theorem Bits.minus_ok (a b : Bits) : (a.minus b).ok := Bits.ofp_ok _
theorem Bits.has_int (b : Bits) (n : Int) (p : Nat → Bool) (h : ∀ m : Nat, m < 1024 → b.has m = p m) (hn : 0 ≤ n ∧ n < 1024) : b.has n = p n.toNat := by
 have := h n.toNat (by omega)
 rwa [show ((n.toNat : Nat) : Int) = n by omega] at this
theorem Bits.add_has (b : Bits) (n m : Int) (hn : 0 ≤ n ∧ n < 1024) : (b.add n).has m = (decide (m = n) || b.has m) := by
 by_cases hm : 0 ≤ m ∧ m < 1024
 ·refine (Bits.has_int _ m _ (fun k hk => Bits.ofp_has _ k hk) hm).trans ?_
  rw [show ((m.toNat : Nat) : Int) = m by omega]
 ·rw [Bits.has_out _ m (by omega), Bits.has_out b m (by omega), decide_eq_false (by omega)]; rfl
theorem Bits.del_has (b : Bits) (n m : Int) : (b.del n).has m = (!decide (m = n) && b.has m) := by
 by_cases hm : 0 ≤ m ∧ m < 1024
 ·refine (Bits.has_int _ m _ (fun k hk => Bits.ofp_has _ k hk) hm).trans ?_
  rw [show ((m.toNat : Nat) : Int) = m by omega]
 ·rw [Bits.has_out _ m (by omega), Bits.has_out b m (by omega)]; simp
theorem Bits.union_has (a b : Bits) (m : Int) : (a.union b).has m = (a.has m || b.has m) := by
 by_cases hm : 0 ≤ m ∧ m < 1024
 ·refine (Bits.has_int _ m _ (fun k hk => Bits.ofp_has _ k hk) hm).trans ?_
  rw [show ((m.toNat : Nat) : Int) = m by omega]
 ·rw [Bits.has_out _ m (by omega), Bits.has_out b m (by omega), Bits.has_out a m (by omega)]; rfl
theorem Bits.minus_has (a b : Bits) (m : Int) : (a.minus b).has m = (a.has m && !b.has m) := by
 by_cases hm : 0 ≤ m ∧ m < 1024
 ·refine (Bits.has_int _ m _ (fun k hk => Bits.ofp_has _ k hk) hm).trans ?_
  rw [show ((m.toNat : Nat) : Int) = m by omega]
 ·rw [Bits.has_out _ m (by omega), Bits.has_out b m (by omega), Bits.has_out a m (by omega)]; rfl
theorem Bits.zip_ok {op : BinOp} (a b : Bits) : (Bits.zip (yo op .u64) a b).ok := fun i => by
 by_cases h : i < 16
 ·rw [Bits.zip, Bits.w_mk _ _ h]; exact bits_w
 ·rw [Bits.w_big _ _ (by omega)]; decide
theorem Bits.zip_union {a b : Bits} (ha : a.ok) (hb : b.ok) : Bits.zip (yo .or .u64) a b = a.union b := by
 refine Bits.eq_of_bits (Bits.zip_ok a b) (Bits.union_ok a b) fun i r hi hr => ?_
 rw [Bits.zip, Bits.w_mk _ _ hi, bits_or (ha i) (hb i), Nat.testBit_or, Bits.union, Bits.ofp_bit _ _ _ hi hr, Bits.has_nat _ _ (by omega), Bits.has_nat _ _ (by omega), show (64 * i + r) / 64 = i by omega, show (64 * i + r) % 64 = r by omega]
theorem Bits.zip_minus {a b : Bits} (ha : a.ok) (hb : b.ok) : Bits.zip (yo .andNot .u64) a b = a.minus b := by
 refine Bits.eq_of_bits (Bits.zip_ok a b) (Bits.minus_ok a b) fun i r hi hr => ?_
 rw [Bits.zip, Bits.w_mk _ _ hi, bits_andNot_bit (ha i) (hb i) _ hr, Bits.minus, Bits.ofp_bit _ _ _ hi hr, Bits.has_nat _ _ (by omega), Bits.has_nat _ _ (by omega), show (64 * i + r) / 64 = i by omega, show (64 * i + r) % 64 = r by omega]
theorem Bits.put_ok {b : Bits} (hb : b.ok) (i : Nat) {y : Int} (hy : isW y) : (b.put i y).ok := fun j => by
 by_cases h : j < 16
 ·rw [Bits.w_put _ _ _ _ h]; split
  ·exact hy
  ·exact hb j
 ·rw [Bits.w_big _ _ (by omega)]; decide
theorem Bits.put_add {b : Bits} (hb : b.ok) {n : Int} (hn : 0 ≤ n ∧ n < 1024) : b.put (0 + (n / 64).toNat * 1) (yo .or .u64 (b.w (0 + (n / 64).toNat * 1)) (IntKind.u64.wrap (1 * 2 ^ (min (n % 64).toNat IntKind.u64.bits)))) = b.add n := by
 have hr : (n % 64).toNat < 64 := by omega
 rw [Nat.zero_add, Nat.mul_one, shl_one _ hr]
 refine Bits.eq_of_bits (Bits.put_ok hb _ bits_w) (Bits.add_ok b n) fun i r hi hr' => ?_
 rw [Bits.w_put _ _ _ _ hi, Bits.add, Bits.ofp_bit _ _ _ hi hr', Bits.has_nat _ _ (by omega), show (64 * i + r) / 64 = i by omega, show (64 * i + r) % 64 = r by omega]
 by_cases e : (n / 64).toNat = i
 ·rw [if_pos e, e, bits_or (hb i) (pow_w _ hr), Nat.testBit_or, Int.toNat_natCast, Nat.testBit_two_pow, Bool.or_comm]
  congr 1
  rw [Bool.eq_iff_iff]; simp only [decide_eq_true_eq]
  omega
 ·rw [if_neg e, decide_eq_false (by omega)]; rfl
def Bits.list (b : Bits) : List Nat := (List.range 1024).filter fun n => b.has n
def Bits.next (b : Bits) (k : Nat) : Option Nat := b.list.find? fun n => decide (k ≤ n)
theorem Bits.mem_list {b : Bits} {n : Nat} : n ∈ b.list ↔ n < 1024 ∧ b.has n = true := by simp [Bits.list]
theorem Bits.list_sorted (b : Bits) : b.list.Pairwise (· < ·) := List.Pairwise.filter _ List.pairwise_lt_range
theorem Bits.next_some {b : Bits} {k n : Nat} (hn : n < 1024) (h : b.has n = true) (hk : k ≤ n) (hmin : ∀ m, k ≤ m → m < n → b.has m = false) : b.next k = some n := by
 unfold Bits.next Bits.list
 rw [List.find?_filter, List.find?_range_eq_some]
 refine ⟨by simp [h, hk], by simpa using hn, fun j hj => ?_⟩
 by_cases hkj : k ≤ j
 ·simp [hmin j hkj hj]
 ·simp [hkj]
theorem Bits.next_none {b : Bits} {k : Nat} (h : ∀ m, k ≤ m → m < 1024 → b.has m = false) : b.next k = none := by
 unfold Bits.next
 rw [List.find?_eq_none]
 intro m hm
 obtain ⟨h1, h2⟩ := Bits.mem_list.1 hm
 simp only [decide_eq_true_eq]
 intro hk
 rw [h m hk h1] at h2; cases h2
theorem find_sorted : ∀ (l : List Nat), l.Pairwise (· < ·) → ∀ (i k : Nat), (∀ j (h : j < i), ∀ (h2 : j < l.length), l[j] < k) → (∀ h : i < l.length, k ≤ l[i]) → l.find? (fun n => decide (k ≤ n)) = l[i]?
 | [], _, i, k, _, _ => by simp
 | a :: l, hp, i, k, h1, h2 => by
  obtain ⟨ha, hl⟩ := List.pairwise_cons.1 hp
  cases i with
  | zero =>
   have := h2 (by simp)
   simp at this
   simp [this]
  | succ i =>
   have hak : a < k := h1 0 (by omega) (by simp)
   rw [List.find?_cons, decide_eq_false (by omega)]
   simp only [List.getElem?_cons_succ]
   exact find_sorted l hl i k (fun j hj hjl => h1 (j + 1) (by omega) (by simp; omega)) (fun hi => h2 (by simp; omega))
theorem Bits.next_zero (b : Bits) : b.next 0 = b.list[0]? := find_sorted _ (Bits.list_sorted b) 0 0 (fun j hj => by omega) (fun _ => Nat.zero_le _)
theorem Bits.next_at (b : Bits) (i : Nat) (h : i < b.list.length) : b.next (b.list[i] + 1) = b.list[i + 1]? := by
 have hs := List.pairwise_iff_getElem.1 (Bits.list_sorted b)
 refine find_sorted _ (Bits.list_sorted b) (i + 1) _ (fun j hj hjl => ?_) (fun hi => ?_)
 ·by_cases e : j = i
  ·subst e; omega
  ·have := hs j i hjl h (by omega); omega
 ·exact hs i (i + 1) h hi (by omega)
def Bits.from (b : Bits) (k : Nat) : Bits := b.put (k / 64) (yo .and .u64 (b.w (k / 64)) ((2 ^ 64 - 2 ^ (k % 64) : Nat) : Int))
theorem Bits.from_w {b : Bits} (k i : Nat) (hi : i < 16) : (b.from k).w i = if k / 64 = i then yo .and .u64 (b.w i) ((2 ^ 64 - 2 ^ (k % 64) : Nat) : Int) else b.w i := by
 rw [Bits.from, Bits.w_put _ _ _ _ hi]
 split
 ·rename_i h; subst h; rfl
 ·rfl
theorem Bits.from_ok {b : Bits} (hb : b.ok) (k : Nat) : (b.from k).ok := Bits.put_ok hb _ bits_w
theorem Bits.from_bit {b : Bits} (hb : b.ok) (k i r : Nat) (hi : i < 16) (hr : r < 64) (hk : k / 64 ≤ i) : ((b.from k).w i).toNat.testBit r = (decide (k ≤ 64 * i + r) && b.has ((64 * i + r : Nat) : Int)) := by
 rw [Bits.from_w _ _ hi, Bits.has_nat _ _ (by omega), show (64 * i + r) / 64 = i by omega, show (64 * i + r) % 64 = r by omega]
 by_cases e : k / 64 = i
 ·rw [if_pos e, bits_and (hb i) (ones_w _), Nat.testBit_and, Int.toNat_natCast, ones_bit _ _ (by omega) hr, Bool.and_comm]
  congr 1
  rw [Bool.eq_iff_iff]; simp only [decide_eq_true_eq]
  omega
 ·rw [if_neg e, decide_eq_true (by omega)]; rfl
theorem Bits.next_found {b : Bits} (hb : b.ok) (k i : Nat) (hk : k < 1024) (hi : i < 16) (hki : k / 64 ≤ i) (hz : ∀ j, k / 64 ≤ j → j < i → (b.from k).w j = 0) (hne : (b.from k).w i ≠ 0) :
  b.next k = some (64 * i + Lib.ctz 64 ((b.from k).w i).toNat) ∧ Lib.ctz 64 ((b.from k).w i).toNat < 64 := by
 have hw := Bits.from_ok hb k i
 obtain ⟨m, hm, hc⟩ := Lib.ctzFrom_spec 64 ((b.from k).w i).toNat (by omega) (by have := hw.2; omega)
 have hctz : Lib.ctz 64 ((b.from k).w i).toNat = Lib.ctzFrom 64 ((b.from k).w i).toNat := by
  unfold Lib.ctz
  rw [if_neg (by omega)]
 rw [hctz]
 generalize Lib.ctzFrom 64 ((b.from k).w i).toNat = c at *
 have hbit : ((b.from k).w i).toNat.testBit c = true := by
  rw [hm, Nat.mul_comm, Nat.testBit_mul_two_pow]
  simp [Nat.testBit_zero]
 have hlow : ∀ r, r < c → ((b.from k).w i).toNat.testBit r = false := by
  intro r hr
  rw [hm, Nat.mul_comm, Nat.testBit_mul_two_pow, decide_eq_false (by omega)]; rfl
 rw [Bits.from_bit hb k i c hi hc hki] at hbit
 simp only [Bool.and_eq_true, decide_eq_true_eq] at hbit
 refine ⟨Bits.next_some (by omega) hbit.2 hbit.1 fun m hkm hmn => ?_, hc⟩
 by_cases hmi : m / 64 = i
 ·have h1 := hlow (m % 64) (by omega)
  rw [Bits.from_bit hb k i (m % 64) hi (by omega) hki] at h1
  rw [show 64 * i + m % 64 = m by omega, decide_eq_true hkm] at h1
  simpa using h1
 ·have h1 := hz (m / 64) (by omega) (by omega)
  have h2 := Bits.from_bit hb k (m / 64) (m % 64) (by omega) (by omega) (by omega)
  rw [h1, show 64 * (m / 64) + m % 64 = m by omega, decide_eq_true hkm] at h2
  simpa using h2.symm
theorem Bits.next_nil {b : Bits} (hb : b.ok) (k : Nat) (hz : ∀ j, k / 64 ≤ j → j < 16 → (b.from k).w j = 0) : b.next k = none :=
 Bits.next_none fun m hkm hm => by
  have h1 := hz (m / 64) (by omega) (by omega)
  have h2 := Bits.from_bit hb k (m / 64) (m % 64) (by omega) (by omega) (by omega)
  rw [h1, show 64 * (m / 64) + m % 64 = m by omega, decide_eq_true hkm] at h2
  simpa using h2.symm
theorem tz_walk {x : Int} (hx : isW x) (h0 : x ≠ 0) : ∃ i : Nat, i < 64 ∧ (IntKind.u64.wrap (yo .and .u64 x (IntKind.u64.wrap (-x)) * 285870213051353865)).fdiv (2 ^ (min (58 : Int).toNat IntKind.u64.bits)) = (i : Int) ∧ Lib.deBruijn64tab.getD i 0 = Lib.ctz 64 x.toNat := by
 obtain ⟨y, rfl⟩ : ∃ y : Nat, x = y := ⟨x.toNat, by have := hx.1; omega⟩
 have hy : y < 2 ^ 64 := by have := hx.2; omega
 have hy0 : y ≠ 0 := by omega
 obtain ⟨h1, h2⟩ := Lib.lowest_bit 64 y hy0 hy
 have hneg : IntKind.u64.wrap (-(y : Int)) = ((2 ^ 64 - y : Nat) : Int) := by
  have e4 : IntKind.u64.wrap (-(y : Int)) = (-(y : Int)) % 18446744073709551616 := by rfl
  rw [e4]; omega
 have hand : yo .and .u64 (y : Int) (IntKind.u64.wrap (-(y : Int))) = ((2 ^ Lib.ctz 64 y : Nat) : Int) := by
  have hw : isW ((2 ^ 64 - y : Nat) : Int) := ⟨by omega, by omega⟩
  rw [hneg]
  have := bits_and hx hw
  rw [Int.toNat_natCast, Int.toNat_natCast, h1] at this
  have hb := (bits_w (op := .and) (x := (y : Int)) (y := ((2 ^ 64 - y : Nat) : Int))).1
  omega
 rw [hand, Int.toNat_natCast]
 obtain ⟨h3, h4⟩ := Lib.deBruijn64_at _ h2
 generalize Lib.ctz 64 y = c at *
 refine ⟨2 ^ c * 285870213051353865 % 18446744073709551616 / 288230376151711744, h3, ?_, h4⟩
 have e5 : IntKind.u64.wrap (((2 ^ c : Nat) : Int) * 285870213051353865) = ((2 ^ c * 285870213051353865 % 18446744073709551616 : Nat) : Int) := by
  have e4 : IntKind.u64.wrap (((2 ^ c : Nat) : Int) * 285870213051353865) = (((2 ^ c : Nat) : Int) * 285870213051353865) % 18446744073709551616 := by rfl
  rw [e4]; generalize 2 ^ c = z; omega
 rw [e5]
 have e6 : (2 : Int) ^ (min (58 : Int).toNat IntKind.u64.bits) = 288230376151711744 := by decide
 rw [e6, Int.fdiv_eq_ediv_of_nonneg _ (by omega)]
 omega
end Go.Proofs.YtjebgcoknpcadaaGreatDoor
end
section
namespace Go.Proofs.YtjebgcoknpcadaaGreatDoor
open Gw Go.RowKit
def Tz (w : World) : Prop := jv w 1 0 (Lib.deBruijn64tab.map fun z => Value.int .u8 (z : Nat))
theorem Tz.chg {S : Nat → Prop} {w w' : World} (h : Tz w) (hc : Chg S w w') (hs : ¬ S 1) : Tz w' := jv.chg h hc hs
theorem Tz.ext {w w' : World} (h : Tz w) (hc : Ext w w') : Tz w' := h.chg hc (fun x => x)
theorem Tz.at {w : World} (h : Tz w) {i : Nat} (hi : i < 64) : w.cell? ⟨1, 0 + (i : Int).toNat * 1, none⟩ = some (.int .u8 (Lib.deBruijn64tab.getD i 0 : Nat)) := by
 have := h i (.int .u8 (Lib.deBruijn64tab.getD i 0 : Nat)) (by
  have hl : i < Lib.deBruijn64tab.length := hi
  rw [List.getElem?_map, List.getElem?_eq_getElem hl, List.getD_eq_getElem?_getD, List.getElem?_eq_getElem hl]; rfl)
 simpa using this
theorem Tz.lt {w : World} (h : Tz w) : 1 < w.heap.size := World.block_lt_of_cell? (a := ⟨_, _, none⟩) w (h.at (i := 0) (by decide))
theorem tz_conv {i : Nat} (hi : i < 64) : IntKind.i64.wrap ((Lib.deBruijn64tab.getD i 0 : Nat) : Int) = ((Lib.deBruijn64tab.getD i 0 : Nat) : Int) := by
 have : ∀ i, i < 64 → Lib.deBruijn64tab.getD i 0 < 64 := by decide
 have := this i hi
 exact IntWalk.i64_in _ ⟨by omega, by omega⟩
def Bits.putS (b : Bits) (n : Int) : Bits × Int := if 0 ≤ n ∧ n < 1024 then (b.add n, 0) else (Bits.z, 50)
def Bits.ofl (l : List Int) : Bits := l.foldl Bits.add Bits.z
theorem Bits.ofl_push (l : List Int) (n : Int) : Bits.ofl (l ++ [n]) = (Bits.ofl l).add n := by simp [Bits.ofl]
theorem Bits.ofl_ok (l : List Int) : (Bits.ofl l).ok := by
 rcases List.eq_nil_or_concat l with rfl | ⟨l, a, rfl⟩
 ·exact Bits.z_ok
 ·rw [List.concat_eq_append, Bits.ofl_push]; exact Bits.add_ok _ _
theorem take_step {α : Type} {l : List α} {x : Nat} {a : α} (h : l[x]? = some a) : l.take (x + 1) = l.take x ++ [a] := by rw [List.take_add_one, h]; rfl
def Bits.ofs (l : List Int) : Bits × Int := if ∀ n ∈ l, 0 ≤ n ∧ n < 1024 then (Bits.ofl l, 0) else (Bits.z, 50)
theorem Bits.ofs_ok (l : List Int) : (Bits.ofs l).1.ok := by unfold Bits.ofs; split; exact Bits.ofl_ok _; exact Bits.z_ok
theorem Bits.minus_ofs {b : Bits} (hb : b.ok) (n : Int) : b.minus (Bits.ofs [n]).1 = b.del n := by
 refine Bits.eq_of_has (Bits.minus_ok _ _) (Bits.del_ok _ _) fun m hm => ?_
 rw [Bits.minus_has, Bits.del_has]
 unfold Bits.ofs
 split
 ·rename_i h
  have hn := h n (by simp)
  rw [show Bits.ofl [n] = Bits.z.add n from rfl, Bits.add_has _ _ _ hn, Bits.z_has, Bool.or_false, Bool.and_comm]
 ·rename_i h
  have hn : ¬ (0 ≤ n ∧ n < 1024) := fun hn => h (by simpa using hn)
  rw [Bits.z_has, decide_eq_false (by omega)]; simp
def Bits.nextS (b : Bits) (n : Int) : Int × Bool := (b.next n.toNat).elim (0, false) fun k => ((k : Nat), true)
theorem Bits.nextS_none {b : Bits} {n : Int} (h : b.next n.toNat = none) : b.nextS n = (0, false) := congrArg (fun o : Option Nat => o.elim ((0 : Int), false) fun k => ((k : Nat), true)) h
theorem Bits.nextS_some {b : Bits} {n : Int} {k : Nat} (h : b.next n.toNat = some k) : b.nextS n = ((k : Int), true) := congrArg (fun o : Option Nat => o.elim ((0 : Int), false) fun k => ((k : Nat), true)) h
theorem nextS_fst {b : Bits} {n : Nat} {o : Option Nat} (h : b.next n = o) : (b.nextS (n : Int)).1 = o.elim 0 fun k => (k : Int) := by
 subst h; unfold Bits.nextS; rw [Int.toNat_natCast]; cases b.next n <;> rfl
theorem nextS_snd {b : Bits} {n : Nat} {o : Option Nat} (h : b.next n = o) : (b.nextS (n : Int)).2 = o.isSome := by
 subst h; unfold Bits.nextS; rw [Int.toNat_natCast]; cases b.next n <;> rfl
theorem Bits.next_big (b : Bits) {k : Nat} (h : 1024 ≤ k) : b.next k = none := Bits.next_none fun m h1 h2 => by omega
theorem Bits.from_walk {b : Bits} {k : Nat} (h : k < 1024) : b.put (0 + ((k : Int) / 64).toNat * 1) (yo .and .u64 (b.w (0 + ((k : Int) / 64).toNat * 1)) (IntKind.u64.wrap (18446744073709551615 * 2 ^ (min ((k : Int) % 64).toNat IntKind.u64.bits)))) = b.from k := by
 have hr : k % 64 < 64 := by omega
 have e1 : ((k : Int) / 64).toNat = k / 64 := by omega
 have e2 : ((k : Int) % 64).toNat = k % 64 := by omega
 rw [e1, e2, shl_ones _ hr, Nat.zero_add, Nat.mul_one]
 rfl
theorem ku (w : World) (x : Int) (hz : Tz w) (hx : isW x) : Calls PP uE #[.int .u64 x] w fun e w' => ∃ v, e = .returned v ∧ (v = .int .i64 (Lib.ctz 64 x.toNat : Nat) ∧ Ext w w') := by
 have Z := hz
 refine zw (n := 14) kp rfl rfl (by simp) ?_
 have E := Ext.refl w
 refine zb (za (zg (zf rfl) (by decide) (zd (zb (zb (za ?_))))))
 refine zg (zh rfl) (by decide) (zg (zN rfl rfl) (by decide) (zd ?_))
 refine zC rfl (fun hc1 => ?_) (fun hc1 => ?_)
 all_goals try simp only [decide_eq_true_eq, decide_eq_false_iff_not, Bool.and_eq_true, Bool.or_eq_true, Bool.and_eq_false_iff, Bool.or_eq_false_iff, Bool.not_eq_true', Bool.not_eq_false', Int.not_lt, Int.not_le, ne_eq, Decidable.not_not] at hc1
 ·refine zb (za (zg (zf rfl) (by decide) (zd (zn ?_))))
  exact ⟨_, (zS (ze rfl)), by subst hc1; rfl, E⟩
 refine zt ?_
 obtain ⟨i, hi, he, ht⟩ := tz_walk hx hc1
 refine zb (za (zg (zh rfl) (by decide) (zg (zh rfl) (by decide) (zg (does_neg rfl) (by decide) (zg (jp (by simp) rfl rfl) (by decide) ?_)))))
 refine zg (does_mul rfl rfl) (by decide) (zg (Does.val (does_shr rfl rfl (by omega)) (congrArg (Value.int .u64) he)) (by decide) (zg (x8 ar_64_uint8 rfl rfl (by omega) (by omega) rfl) (by decide) (zg (zm on_uint8 rfl (Z.at hi)) (by decide) (zg (does_convc un_uint8 un_int rfl (tz_conv hi)) (by decide) (zg (zf rfl) (by decide) (zd (zn ?_)))))))
 exact ⟨_, (zS (ze rfl)), congrArg (fun n : Nat => Value.int .i64 (n : Int)) ht, E⟩
theorem ref05_With_ok (w : World) (b : Bits) (n : Int) (hb : b.ok) (a0 : 0 ≤ n) (a1 : n < 1024) : Calls PP F_ref05_With #[.agg b.C.toArray, .int .i64 n] w fun e w' => ∃ v, e = .returned v ∧ (v = .agg (b.add n).C.toArray ∧ Ext w w') := by
 refine zw (n := 18) fn_ref05_With rfl rfl (by simp) ?_
 have E := Ext.refl w
 refine zb (za ?_)
 refine zJ rfl (by decide) fun b2 w1 h1 => ?_
 have l_b2 : w.heap.size ≤ b2 := by have := h1.at_; have := E.size; omega
 have B2 := h1.blk
 replace E := E.thenExt h1.ext
 refine zP jK (by decide) fun b4 w2 h2 => ?_
 have l_b4 : w.heap.size ≤ b4 := by have := h2.at_; have := E.size; omega
 have o_b4_b2 : b2 < b4 := by have := B2.lt; have := h2.at_; omega
 have B4 := h2.blk
 replace B2 := B2.ext h2.ext
 replace E := E.thenExt h2.ext
 refine zd (zb (za (zg (zh rfl) (by decide) (zg (uU rfl rfl (by omega) (by omega) (by omega)) (by decide) (zg (zh rfl) (by decide) ?_)))))
 refine zg (uU rfl rfl (by omega) (by omega) (by omega)) (by decide) (zg (x8 jj rfl rfl (by omega) (by omega) rfl) (by decide) (zg (zm y7 rfl (B2.cell (Bits.getw _ _ (by omega)))) (by decide) (zg (zh rfl) (by decide) (zg (kE rfl rfl (by omega) (by omega)) (by decide) (zg (does_convc un_int un_uint rfl (c := n % 64) (IntWalk.u64_in _ ⟨by omega, by omega⟩)) (by decide) ?_)))))
 refine zg (does_shl rfl rfl (by omega)) (by decide) (zg (jp (by simp) rfl rfl) (by decide) (zg (x8 jj rfl rfl (by omega) (by omega) rfl) (by decide) ?_))
 refine xi y7 rfl rfl B2 (by rw [Bits.len]; omega) rfl (Bits.setw _ _ _) fun w3 B h3 z3 => ?_
 replace B2 := B; clear B
 replace B4 := B4.chg h3 (fun (e : b4 = b2) => by omega)
 replace E := E.thenChg h3 (fun i hi (e : i = b2) => absurd hi (by omega))
 refine zd (zb (za (zg (zj xd rfl (B2.all _ (Bits.len _)) (Bits.len _)) (by decide) ?_)))
 refine zx xd rfl rfl B4 (Bits.len _) (by rw [Bits.len]; decide) (Bits.one _) (zG (Bits.len _)) fun w4 B h4 z4 => ?_
 replace B4 := B; clear B
 replace B2 := B2.chg h4 (fun (e : b2 = b4) => by omega)
 replace E := E.thenChg h4 (fun i hi (e : i = b4) => absurd hi (by omega))
 refine zd (zn ?_)
 exact ⟨_, (zS (zV xd rfl (B4.all _ (Bits.len _)) (Bits.len _))), by rw [Bits.put_add hb ⟨a0, a1⟩], E⟩
theorem ref05_Put_ok (w : World) (b : Bits) (n : Int) (hb : b.ok) : Calls PP F_ref05_Put #[.agg b.C.toArray, .int .i64 n] w fun e w' => ∃ v, e = .returned v ∧ (v = .tuple #[.agg (b.putS n).1.C.toArray, .int .i64 (b.putS n).2] ∧ Ext w w') := by
 refine zw (n := 16) fn_ref05_Put rfl rfl (by simp) ?_
 have E := Ext.refl w
 refine zb (za ?_)
 refine zJ rfl (by decide) fun b2 w1 h1 => ?_
 have l_b2 : w.heap.size ≤ b2 := by have := h1.at_; have := E.size; omega
 have B2 := h1.blk
 replace E := E.thenExt h1.ext
 refine zP jK (by decide) fun b4 w2 h2 => ?_
 have l_b4 : w.heap.size ≤ b4 := by have := h2.at_; have := E.size; omega
 have o_b4_b2 : b2 < b4 := by have := B2.lt; have := h2.at_; omega
 have B4 := h2.blk
 replace B2 := B2.ext h2.ext
 replace E := E.thenExt h2.ext
 refine zg (zf rfl) (by decide) (zd (zb (zb (za (zg (zh rfl) (by decide) ?_)))))
 refine zg (xm rfl rfl) (by decide) (zg (zB rfl) (by decide) (zD (j := 2) (pol := false) rfl rfl rfl (by decide) (fun hg => zh rfl) (by decide) (zD (j := 2) (pol := false) rfl rfl rfl (by decide) (fun hg => vz (zq hg) rfl) (by decide) (zg (xU rfl (fun hp => (zq (xF hp)))) (by decide) (zd ?_)))))
 refine zC rfl (fun hc1 => ?_) (fun hc1 => ?_)
 all_goals try simp only [decide_eq_true_eq, decide_eq_false_iff_not, Bool.and_eq_true, Bool.or_eq_true, Bool.and_eq_false_iff, Bool.or_eq_false_iff, Bool.not_eq_true', Bool.not_eq_false', Int.not_lt, Int.not_le, ne_eq, Decidable.not_not] at hc1
 ·refine zb (za (zg (does_build0 bz_Bits) (by decide) ?_))
  refine zx xd rfl rfl B4 (Bits.len _) (by rw [Bits.len]; decide) (Bits.one _) (zG (Bits.len _)) fun w3 B h3 z3 => ?_
  replace B4 := B; clear B
  replace B2 := B2.chg h3 (fun (e : b2 = b4) => by omega)
  replace E := E.thenChg h3 (fun i hi (e : i = b4) => absurd hi (by omega))
  refine zg (zf rfl) (by decide) (zd (zn ?_))
  exact ⟨.tuple #[.agg Bits.z.C.toArray, .int .i64 50], (zU (zV xd rfl (B4.all _ (Bits.len _)) (Bits.len _)) (ze rfl)), by rw [Bits.putS, if_neg (by omega)], E⟩
 refine zt (zb (za (zg (zj xd rfl (B2.all _ (Bits.len _)) (Bits.len _)) (by decide) (zg (zh rfl) (by decide) ?_))))
 refine zu (zo ca_ref05_With) (by decide) (ref05_With_ok _ _ _ hb (by omega) (by omega)) ?_
 rintro _ w4 ⟨rfl, h4⟩
 replace B2 := B2.ext h4
 replace B4 := B4.ext h4
 replace E := E.thenExt h4
 refine zx xd rfl rfl B4 (Bits.len _) (by rw [Bits.len]; decide) (Bits.one _) (zG (Bits.len _)) fun w5 B h5 z5 => ?_
 replace B4 := B; clear B
 replace B2 := B2.chg h5 (fun (e : b2 = b4) => by omega)
 replace E := E.thenChg h5 (fun i hi (e : i = b4) => absurd hi (by omega))
 refine zg (zf rfl) (by decide) (zd (zn ?_))
 exact ⟨.tuple #[.agg (b.add n).C.toArray, .int .i64 0], (zU (zV xd rfl (B4.all _ (Bits.len _)) (Bits.len _)) (ze rfl)), by rw [Bits.putS, if_pos (by omega)], E⟩
theorem bits_Of_ok (w : World) (s : SlV) (l : List Int) (R0 : Rd w 1 s (l.map IC)) (hl : l.length < 9223372036854775807) : Calls PP F_bits_Of #[s.v] w fun e w' => ∃ v, e = .returned v ∧ (v = .tuple #[.agg (Bits.ofs l).1.C.toArray, .int .i64 (Bits.ofs l).2] ∧ Ext w w') := by
 refine zw (n := 28) fn_bits_Of rfl rfl (by simp) ?_
 have E := Ext.refl w
 refine zb (za ?_)
 refine zP jK (by decide) fun b2 w1 h1 => ?_
 have l_b2 : w.heap.size ≤ b2 := by have := h1.at_; have := E.size; omega
 have d_b2_R0 : ¬ s.fp b2 := fun e => by have := R0.lt _ e; have := h1.at_; omega
 have B2 := h1.blk
 replace R0 := R0.ext h1.ext
 replace E := E.thenExt h1.ext
 refine zg (zf rfl) (by decide) (zd (zb (za ?_)))
 refine zP jK (by decide) fun b4 w2 h2 => ?_
 have l_b4 : w.heap.size ≤ b4 := by have := h2.at_; have := E.size; omega
 have d_b4_R0 : ¬ s.fp b4 := fun e => by have := R0.lt _ e; have := h2.at_; omega
 have o_b4_b2 : b2 < b4 := by have := B2.lt; have := h2.at_; omega
 have B4 := h2.blk
 replace R0 := R0.ext h2.ext
 replace B2 := B2.ext h2.ext
 replace E := E.thenExt h2.ext
 refine zd (zb (zb (za (zg (zR rfl) (by decide) (zg (xG zY rfl R0) (by decide) ?_)))))
 refine zg (zh rfl) (by decide) (zd ?_)
 refine zF ?_
 refine yp (α := Nat) [3, 6, 9, 10, 11, 12, 13, 14, 15, 16, 17, 18, 19, 20, 21, 22, 23, 24, 25, 26] (fun x fr W => (fr 9 = .int .i64 (x : Nat)) ∧ (Chg (fun i => w.heap.size ≤ i ∧ i ≠ b2 ∧ ¬ s.fp i) w2 W) ∧ (Blk W b4 vT (Bits.C (Bits.ofl (l.take x)))) ∧ (x ≤ l.length) ∧ (∀ n ∈ l.take x, 0 ≤ n ∧ n < 1024)) (fun x => l.length - x) 0 ⟨rfl, Chg.refl _ _, B4, by omega, by simp⟩ ?_
 rintro x g0 u0 ⟨s0_9, K0, B4, hx, hp⟩
 replace R0 := R0.keep K0 (fun i hi e => by simp only [hi, not_true, and_false, false_and] at e)
 replace B2 := B2.chg K0 (fun e => by have := e.2; simp at this)
 replace E := E.thenChg K0 (fun i hi e => absurd hi (by have := e.1; omega))
 obtain ⟨a, ha⟩ : ∃ a, x < l.length → l[x]? = some a := ⟨l.getD x 0, fun h => by simp [h]⟩
 refine zb (za (zg (xm s0_9 rfl) (by decide) (zd (zb ?_))))
 refine zC rfl (fun hc1 => ?_) (fun hc1 => ?_)
 all_goals try simp only [decide_eq_true_eq, decide_eq_false_iff_not, Bool.and_eq_true, Bool.or_eq_true, Bool.and_eq_false_iff, Bool.or_eq_false_iff, Bool.not_eq_true', Bool.not_eq_false', Int.not_lt, Int.not_le, ne_eq, Decidable.not_not] at hc1
 rotate_left
 ·refine yf (zb (za (zg (zj xd rfl (B4.all _ (Bits.len _)) (Bits.len _)) (by decide) ?_)))
  refine zx xd rfl rfl B2 (Bits.len _) (by rw [Bits.len]; decide) (Bits.one _) (zG (Bits.len _)) fun w3 B h3 z3 => ?_
  replace B2 := B; clear B
  replace R0 := R0.keep h3 (fun i hi (e : i = b2) => d_b2_R0 (e ▸ hi))
  replace B4 := B4.chg h3 (fun (e : b4 = b2) => by omega)
  replace E := E.thenChg h3 (fun i hi (e : i = b2) => absurd hi (by omega))
  refine zg (zf rfl) (by decide) (zd (zn ?_))
  have hx2 : l.take x = l := List.take_of_length_le (by omega)
  rw [hx2] at hp
  exact ⟨.tuple #[.agg (Bits.ofl (l.take x)).C.toArray, .int .i64 0], (zU (zV xd rfl (B2.all _ (Bits.len _)) (Bits.len _)) (ze rfl)), by rw [Bits.ofs, if_pos hp, hx2], E⟩
 refine zt (zb ?_)
 refine zF (zb (za (zg (zZ zY rfl s0_9 R0 (by omega) (by omega)) (by decide) (zg (zm zQ rfl (R0.one (ha (by omega)) rfl)) (by decide) (zg (zf rfl) (by decide) (zd (zb (zb (za ?_)))))))))
 refine zg (zh rfl) (by decide) ?_
 refine zu (zo zac) (by decide) (kO _ _) ?_
 rintro _ w4 ⟨rfl, h4⟩
 replace R0 := R0.ext h4
 replace B2 := B2.ext h4
 replace B4 := B4.ext h4
 replace E := E.thenExt h4
 replace K0 := K0.thenExt h4
 refine zg (xk rfl) (by decide) (zd ?_)
 refine zC rfl (fun hc2 => ?_) (fun hc2 => ?_)
 all_goals try simp only [decide_eq_true_eq, decide_eq_false_iff_not, Bool.and_eq_true, Bool.or_eq_true, Bool.and_eq_false_iff, Bool.or_eq_false_iff, Bool.not_eq_true', Bool.not_eq_false', Int.not_lt, Int.not_le, ne_eq, Decidable.not_not] at hc2
 ·refine zb (za (zg (does_build0 bz_Bits) (by decide) ?_))
  refine zx xd rfl rfl B2 (Bits.len _) (by rw [Bits.len]; decide) (Bits.one _) (zG (Bits.len _)) fun w5 B h5 z5 => ?_
  replace B2 := B; clear B
  replace R0 := R0.keep h5 (fun i hi (e : i = b2) => d_b2_R0 (e ▸ hi))
  replace B4 := B4.chg h5 (fun (e : b4 = b2) => by omega)
  replace E := E.thenChg h5 (fun i hi (e : i = b2) => absurd hi (by omega))
  refine zg (zf rfl) (by decide) (zd (zn ?_))
  exact ⟨.tuple #[.agg Bits.z.C.toArray, .int .i64 50], (zU (zV xd rfl (B2.all _ (Bits.len _)) (Bits.len _)) (ze rfl)), by rw [Bits.ofs, if_neg (fun h => by have := h a (List.mem_of_getElem? (ha (by omega))); omega)], E⟩
 refine zt ?_
 refine yn 7 (Ext w4) hmix (by kernel_rfl) (by kernel_rfl) (Ext.drawn _) (zy (fun v K => zh rfl) (zy (fun v K => uU rfl rfl (by omega) (by omega) (by omega)) (zy (fun v K => x8 jj rfl rfl (by omega) (by omega) rfl) (zy (fun v K => zm y7 rfl ((B4.ext K).cell (Bits.getw _ _ (by omega)))) (zy (fun v K => zh rfl) ?_)))))
 refine zy (fun v K => kE rfl rfl (by omega) (by omega)) (zy (fun v K => does_shl rfl rfl (by omega)) ?_)
 refine vt fun w6 K => ?_
 replace R0 := R0.ext K
 replace B2 := B2.ext K
 replace B4 := B4.ext K
 replace E := E.thenExt K
 replace K0 := K0.thenExt K
 clear K
 refine zg (jp (by simp) rfl rfl) (by decide) (zg (x8 jj rfl rfl (by omega) (by omega) rfl) (by decide) ?_)
 refine xi y7 rfl rfl B4 (by rw [Bits.len]; omega) rfl (Bits.setw _ _ _) fun w7 B h7 z7 => ?_
 replace B4 := B; clear B
 replace R0 := R0.keep h7 (fun i hi (e : i = b4) => d_b4_R0 (e ▸ hi))
 replace B2 := B2.chg h7 (fun (e : b2 = b4) => by omega)
 replace E := E.thenChg h7 (fun i hi (e : i = b4) => absurd hi (by omega))
 replace K0 := K0.thenChg h7 (fun i hi (e : i = b4) => (show w.heap.size ≤ i ∧ i ≠ b2 ∧ ¬ s.fp i from by subst e; exact ⟨by omega, by omega, d_b4_R0⟩))
 refine zd (za (zg (xg s0_9 rfl (c := _) rfl (by omega) (by omega)) (by decide) (zg (zh rfl) (by decide) (zd ?_))))
 exact ⟨rfl, (((((((((((((((((((Dif.self _ _ _).upd rfl _).upd rfl _).upd rfl _).upd rfl _).upd rfl _).upd rfl _).upd rfl _).upd rfl _).upd rfl _).upd rfl _).upd rfl _).upd rfl _).upd rfl _).upd rfl _).upd rfl _).upd rfl _).upd rfl _).upd rfl _), x + 1, ⟨rfl, K0, by rw [take_step (ha (by omega)), Bits.ofl_push, ← Bits.put_add (Bits.ofl_ok _) ⟨by omega, by omega⟩]; exact B4, by omega, by rw [take_step (ha (by omega))]; intro n hn; exact (List.mem_append.1 hn).elim (hp n) (fun hn => by rw [List.mem_singleton.1 hn]; omega)⟩, by (try dsimp only); omega⟩
theorem bits_Drop_ok (w : World) (b : Bits) (n : Int) (hb : b.ok) : Calls PP F_bits_Drop #[.agg b.C.toArray, .int .i64 n] w fun e w' => ∃ v, e = .returned v ∧ (v = .agg (b.del n).C.toArray ∧ Ext w w') := by
 refine zw (n := 16) fn_bits_Drop rfl rfl (by simp) ?_
 have E := Ext.refl w
 refine zb (za ?_)
 refine zJ rfl (by decide) fun b2 w1 h1 => ?_
 have l_b2 : w.heap.size ≤ b2 := by have := h1.at_; have := E.size; omega
 have B2 := h1.blk
 replace E := E.thenExt h1.ext
 refine zP jK (by decide) fun b4 w2 h2 => ?_
 have l_b4 : w.heap.size ≤ b4 := by have := h2.at_; have := E.size; omega
 have o_b4_b2 : b2 < b4 := by have := B2.lt; have := h2.at_; omega
 have B4 := h2.blk
 replace B2 := B2.ext h2.ext
 replace E := E.thenExt h2.ext
 refine zd (zb (za (zg (zh rfl) (by decide) ?_)))
 refine wl_lit1 zY yh.zero rfl rfl rfl (by decide) (by decide) fun b9 w3 s9 h3 q3 => ?_
 have l_b9 : w.heap.size ≤ b9 := by have := h3.at_; have := E.size; omega
 have o_b9_b2 : b2 < b9 := by have := B2.lt; have := h3.at_; omega
 have o_b9_b4 : b4 < b9 := by have := B4.lt; have := h3.at_; omega
 have B9 := h3.blk
 replace B2 := B2.ext h3.ext
 replace B4 := B4.ext h3.ext
 replace E := E.thenExt h3.ext
 refine zu (zo ca_bits_Of) (by decide) (bits_Of_ok _ s9 [n] (Blk.rd1 B9 rfl q3) (by simp)) ?_
 rintro _ w4 ⟨rfl, h4⟩
 replace B2 := B2.ext h4
 replace B4 := B4.ext h4
 replace B9 := B9.ext h4
 replace E := E.thenExt h4
 refine zg (zK rfl) (by decide) (zg (zk rfl rfl) (by decide) (zg (zk rfl rfl) (by decide) ?_))
 refine zP jK (by decide) fun b5 w5 h5 => ?_
 have l_b5 : w.heap.size ≤ b5 := by have := h5.at_; have := E.size; omega
 have o_b5_b2 : b2 < b5 := by have := B2.lt; have := h5.at_; omega
 have o_b5_b4 : b4 < b5 := by have := B4.lt; have := h5.at_; omega
 have o_b5_b9 : b9 < b5 := by have := B9.lt; have := h5.at_; omega
 have B5 := h5.blk
 replace B2 := B2.ext h5.ext
 replace B4 := B4.ext h5.ext
 replace B9 := B9.ext h5.ext
 replace E := E.thenExt h5.ext
 refine zx xd rfl rfl B5 (Bits.len _) (by rw [Bits.len]; decide) (Bits.one _) (zG (Bits.len _)) fun w6 B h6 z6 => ?_
 replace B5 := B; clear B
 replace B2 := B2.chg h6 (fun (e : b2 = b5) => by omega)
 replace B4 := B4.chg h6 (fun (e : b4 = b5) => by omega)
 replace B9 := B9.chg h6 (fun (e : b9 = b5) => by omega)
 replace E := E.thenChg h6 (fun i hi (e : i = b5) => absurd hi (by omega))
 refine zg (zf rfl) (by decide) (zd (zb (za (zg (zj xd rfl (B2.all _ (Bits.len _)) (Bits.len _)) (by decide) (zg (zj xd rfl (B5.all _ (Bits.len _)) (Bits.len _)) (by decide) ?_)))))
 refine zu (zo ca_bits_Minus) (by decide) (bits_Minus_ok _ b (Bits.ofs [n]).1) ?_
 rintro _ w7 ⟨rfl, h7⟩
 replace B2 := B2.ext h7
 replace B4 := B4.ext h7
 replace B9 := B9.ext h7
 replace B5 := B5.ext h7
 replace E := E.thenExt h7
 refine zx xd rfl rfl B4 (Bits.len _) (by rw [Bits.len]; decide) (Bits.one _) (zG (Bits.len _)) fun w8 B h8 z8 => ?_
 replace B4 := B; clear B
 replace B2 := B2.chg h8 (fun (e : b2 = b4) => by omega)
 replace B9 := B9.chg h8 (fun (e : b9 = b4) => by omega)
 replace B5 := B5.chg h8 (fun (e : b5 = b4) => by omega)
 replace E := E.thenChg h8 (fun i hi (e : i = b4) => absurd hi (by omega))
 refine zd (zn ?_)
 exact ⟨.agg (Bits.zip (yo .andNot .u64) b (Bits.ofs [n]).1).C.toArray, (zS (zV xd rfl (B4.all _ (Bits.len _)) (Bits.len _))), by rw [Bits.zip_minus hb (Bits.ofs_ok _), Bits.minus_ofs hb], E⟩
theorem bits_Next_ok (w : World) (b : Bits) (n : Int) (hz : Tz w) (hb : b.ok) : Calls PP F_bits_Next #[.agg b.C.toArray, .int .i64 n] w fun e w' => ∃ v, e = .returned v ∧ (v = .tuple #[.int .i64 (b.nextS n).1, .bool (b.nextS n).2] ∧ Ext w w') := by
 have Z := hz
 obtain ⟨k, hkd⟩ : ∃ k, k = n.toNat := ⟨_, rfl⟩
 have hk : (if n < 0 then 0 else n) = (k : Int) := by subst hkd; split <;> omega
 refine zw (n := 38) fn_bits_Next rfl rfl (by simp) ?_
 have E := Ext.refl w
 refine zb (za ?_)
 refine zJ rfl (by decide) fun b2 w1 h1 => ?_
 have l_b2 : w.heap.size ≤ b2 := by have := h1.at_; have := E.size; omega
 have o_b2_0 : 0 < b2 := by have := Z.lt; have := h1.at_; omega
 have B2 := h1.blk
 replace Z := Z.ext h1.ext
 replace E := E.thenExt h1.ext
 refine zg (zf rfl) (by decide) (zg (zl rfl) (by decide) (zd (zb (za (zg (zh rfl) (by decide) ?_)))))
 refine zg (Does.val (does_max rfl rfl) (congrArg (Value.int .i64) hk)) (by decide) (zg (zf rfl) (by decide) (zd (zb (zb (za ?_)))))
 refine zg (zh rfl) (by decide) ?_
 refine zu (zo zac) (by decide) (kO _ _) ?_
 rintro _ w2 ⟨rfl, h2⟩
 replace Z := Z.ext h2
 replace B2 := B2.ext h2
 replace E := E.thenExt h2
 refine zg (xk rfl) (by decide) (zd ?_)
 refine zC rfl (fun hc1 => ?_) (fun hc1 => ?_)
 all_goals try simp only [decide_eq_true_eq, decide_eq_false_iff_not, Bool.and_eq_true, Bool.or_eq_true, Bool.and_eq_false_iff, Bool.or_eq_false_iff, Bool.not_eq_true', Bool.not_eq_false', Int.not_lt, Int.not_le, ne_eq, Decidable.not_not] at hc1
 ·refine zb (za (zg (zf rfl) (by decide) (zg (zl rfl) (by decide) (zd (zn ?_)))))
  exact ⟨.tuple #[.int .i64 0, .bool false], (zU (ze rfl) (ze rfl)), by rw [Bits.nextS_none (hkd ▸ Bits.next_big _ (by omega))], E⟩
 refine zt (zb ?_)
 refine yn 7 (Ext w2) hmix (by kernel_rfl) (by kernel_rfl) (Ext.drawn _) (zy (fun v K => zh rfl) (zy (fun v K => uU rfl rfl (by omega) (by omega) (by omega)) (zy (fun v K => x8 jj rfl rfl (by omega) (by omega) rfl) (zy (fun v K => zm y7 rfl ((B2.ext K).cell (Bits.getw _ _ (by omega)))) (zy (fun v K => zh rfl) ?_)))))
 refine zy (fun v K => kE rfl rfl (by omega) (by omega)) (zy (fun v K => does_shl rfl rfl (by omega)) ?_)
 refine vt fun w3 K => ?_
 replace Z := Z.ext K
 replace B2 := B2.ext K
 replace E := E.thenExt K
 clear K
 refine zg (jp (by simp) rfl rfl) (by decide) (zg (x8 jj rfl rfl (by omega) (by omega) rfl) (by decide) ?_)
 refine xi y7 rfl rfl B2 (by rw [Bits.len]; omega) rfl (Bits.setw _ _ _) fun w4 B h4 z4 => ?_
 replace B2 := B; clear B
 replace Z := Z.chg h4 (fun (e : 1 = b2) => by have := hz.lt; omega)
 replace E := E.thenChg h4 (fun i hi (e : i = b2) => absurd hi (by omega))
 refine zd (zb (zb (za (zg (zh rfl) (by decide) (zg (uU rfl rfl (by omega) (by omega) (by omega)) (by decide) ?_)))))
 refine zg (zf rfl) (by decide) (zd ?_)
 refine zF ?_
 rw [Bits.from_walk (by omega)] at B2
 refine yp (α := Nat) [4, 5, 6, 23, 24, 25, 26, 27, 28, 29, 30, 31, 32, 33, 34, 35, 36, 37] (fun x fr W => (fr 6 = .int .i64 (x : Nat)) ∧ (Ext w4 W) ∧ (k / 64 ≤ x ∧ x ≤ 16) ∧ (∀ j, k / 64 ≤ j → j < x → (b.from k).w j = 0)) (fun x => 16 - x) (k / 64) ⟨rfl, Chg.refl _ _, by omega, fun j h1 h2 => by omega⟩ ?_
 rintro x g0 u0 ⟨s0_6, K0, hx, hzz⟩
 replace Z := Z.ext K0
 replace B2 := B2.ext K0
 replace E := E.thenExt K0
 have hfb := (Bits.from_ok hb k x)
 refine zb (zb (za (zg (zh s0_6) (by decide) (zg (xm rfl rfl) (by decide) (zd ?_)))))
 refine zC rfl (fun hc2 => ?_) (fun hc2 => ?_)
 all_goals try simp only [decide_eq_true_eq, decide_eq_false_iff_not, Bool.and_eq_true, Bool.or_eq_true, Bool.and_eq_false_iff, Bool.or_eq_false_iff, Bool.not_eq_true', Bool.not_eq_false', Int.not_lt, Int.not_le, ne_eq, Decidable.not_not] at hc2
 rotate_left
 ·refine yf (zb (za (zg (zf rfl) (by decide) (zg (zl rfl) (by decide) (zd (zn ?_))))))
  exact ⟨.tuple #[.int .i64 0, .bool false], (zU (ze rfl) (ze rfl)), by rw [Bits.nextS_none (hkd ▸ Bits.next_nil hb k (fun j h1 h2 => hzz j h1 (by omega)))], E⟩
 refine zt (zb ?_)
 refine zF (zb (za (zg (zh s0_6) (by decide) (zg (x8 jj rfl rfl (by omega) (by omega) rfl) (by decide) (zg (zm y7 rfl (B2.cell (Bits.getw _ _ (by omega)))) (by decide) ?_)))))
 refine zg (xc rfl rfl) (by decide) (zd ?_)
 refine zC rfl (fun hc3 => ?_) (fun hc3 => ?_)
 all_goals try simp only [decide_eq_true_eq, decide_eq_false_iff_not, Bool.and_eq_true, Bool.or_eq_true, Bool.and_eq_false_iff, Bool.or_eq_false_iff, Bool.not_eq_true', Bool.not_eq_false', Int.not_lt, Int.not_le, ne_eq, Decidable.not_not] at hc3
 ·refine zb ?_
  have hnf := Bits.next_found hb k x (by omega) (by omega) (by omega) (fun j h1 h2 => hzz j h1 h2) (by simpa using hc3)
  refine za (zg (zh s0_6) (by decide) (zg (does_mulc rfl rfl (c := _) rfl (by omega) (by omega)) (by decide) (zg (zh s0_6) (by decide) (zg (x8 jj rfl rfl (by omega) (by omega) rfl) (by decide) (zg (zm y7 rfl (B2.cell (Bits.getw _ _ (by omega)))) (by decide) ?_)))))
  refine zu (zo kv) (by decide) (ku _ _ Z (Bits.from_ok hb k _)) ?_
  rintro _ w5 ⟨rfl, h5⟩
  replace Z := Z.ext h5
  replace B2 := B2.ext h5
  replace E := E.thenExt h5
  have hidx : 0 + (x : Int).toNat * 1 = x := by simp
  have hnf2 : Lib.ctz 64 ((b.from k).w (0 + (x : Int).toNat * 1)).toNat < 64 := by rw [hidx]; exact hnf.2
  refine zg (xg rfl rfl (c := _) rfl (by omega) (by omega)) (by decide) (zg (zf rfl) (by decide) (zg (zl rfl) (by decide) (zd (zn ?_))))
  exact ⟨.tuple #[.int .i64 (64 * (x : Int) + (Lib.ctz 64 ((b.from k).w (0 + (x : Int).toNat * 1)).toNat : Nat)), .bool true], (zU (ze rfl) (ze rfl)), by subst hkd; rw [Bits.nextS_some hnf.1, hidx]; simp, E⟩
 refine zt (za (zg (zh s0_6) (by decide) (zg (xg rfl rfl (c := _) rfl (by omega) (by omega)) (by decide) (zg (zf rfl) (by decide) (zd ?_)))))
 exact ⟨rfl, ((((((((((Dif.self _ _ _).upd rfl _).upd rfl _).upd rfl _).upd rfl _).upd rfl _).upd rfl _).upd rfl _).upd rfl _).upd rfl _), x + 1, ⟨rfl, K0, by omega, fun j h1 h2 => (Nat.lt_or_eq_of_le (Nat.le_of_lt_succ h2)).elim (hzz j h1) (fun e => by subst e; simpa using hc3)⟩, by (try dsimp only); omega⟩
theorem jt (w : World) (b : Bits) : Calls PP F_bits_All #[.agg b.C.toArray] w fun e w' => ∃ v, e = .returned v ∧ (∃ c, v = .func (.func F_bits_All_1) #[] #[.pointer (some ⟨c, 0, none⟩)] ∧ Blk w' c vT b.C ∧ w.heap.size ≤ c ∧ Ext w w') := by
 refine zw (n := 4) fn_bits_All rfl rfl (by simp) ?_
 have E := Ext.refl w
 refine zb (za ?_)
 refine zJ rfl (by decide) fun b1 w1 h1 => ?_
 have l_b1 : w.heap.size ≤ b1 := by have := h1.at_; have := E.size; omega
 have B1 := h1.blk
 replace E := E.thenExt h1.ext
 refine zg (zA (v := .nilFunc) rfl) (by decide) (zd (zb (za (zg (vR) (by decide) (zg (vn rfl) (by decide) (zd (zn ?_)))))))
 exact ⟨_, (zS (ze rfl)), b1, rfl, B1, l_b1, E⟩
theorem vo {b : Bits} (hb : b.ok) (c : Nat) : Gives PP F_bits_All_1 (fun y => [y, .pointer (some ⟨c, 0, none⟩)]) (fun W => Blk W c vT b.C ∧ Tz W) (b.list.map fun (n : Nat) => [Value.int .i64 (n : Int)]) := by
 intro l J Jx W hInv hJ hJx hY h0
 have hat : ∀ i : Nat, (b.list.map fun (n : Nat) => [Value.int .i64 (n : Int)])[i]? = (b.list[i]?).map fun (n : Nat) => [Value.int .i64 (n : Int)] := by simp
 have hlen : (b.list.map fun (n : Nat) => [Value.int .i64 (n : Int)]).length = b.list.length := by simp
 rw [hlen]
 refine zw (n := 22) fn_bits_All_1 rfl rfl (by simp) (zb (za (zg (zj xd rfl ((hInv _ _ h0).1.all _ (Bits.len _)) (Bits.len _)) (by decide) ?_)))
 refine zu (zo ca_bits_Next) (by decide) (bits_Next_ok _ b 0 (hInv _ _ h0).2 hb) ?_
 rintro _ w1 ⟨rfl, h1⟩
 replace h0 := hJ _ _ _ h0 h1
 refine zg (zK rfl) (by decide) (zg (zk rfl rfl) (by decide) (zg (zk rfl rfl) (by decide) (zg (zf rfl) (by decide) (zg (zl rfl) (by decide) (zd ?_)))))
 refine zF ?_
 refine yp (α := Nat) [3, 4, 10, 11, 12, 13, 14, 15, 16, 17, 18, 19, 20, 21] (fun x fr W => fr 3 = .int .i64 ((b.list[x]?).elim 0 fun n => (n : Int)) ∧ fr 4 = .bool (b.list[x]?).isSome ∧ J x W ∧ x ≤ b.list.length) (fun x => b.list.length - x) 0 ⟨congrArg (Value.int .i64) (nextS_fst (n := 0) (Bits.next_zero b)), congrArg Value.bool (nextS_snd (n := 0) (Bits.next_zero b)), h0, by omega⟩ ?_
 rintro x g u ⟨s3, s4, hj, hx⟩
 refine zb (zb (za (zg (zB s4) (by decide) (zd ?_))))
 refine zC rfl (fun hc => ?_) (fun hc => ?_)
 rotate_left
 ·refine yf ?_
  have : b.list.length ≤ x := by simpa using hc
  have e : x = b.list.length := by omega
  rw [e] at hj
  exact ⟨_, rets0, .inl hj⟩
 obtain ⟨n, hn⟩ := Option.isSome_iff_exists.1 hc
 rw [hn] at s3
 have hxl : x < b.list.length := (List.getElem?_eq_some_iff.1 hn).1
 refine zt (zb ?_)
 refine zF (zb (za (zg (yY rfl) (by decide) (zg (zh s3) (by decide) ?_))))
 refine wl_yield rfl rfl (by decide) (hY x [Value.int .i64 (n : Int)] u hj (by rw [hat, hn]; rfl)) ?_
 intro yb u2 hyb
 refine zg (xk rfl) (by decide) (zd ?_)
 refine zC rfl (fun hc2 => ?_) (fun hc2 => ?_)
 ·refine zn ?_
  rcases hyb with ⟨rfl, _⟩ | ⟨rfl, hjx⟩
  ·cases hc2
  ·exact ⟨_, rets0, .inr hjx⟩
 rcases hyb with ⟨rfl, hj2⟩ | ⟨rfl, _⟩
 rotate_left
 ·cases hc2
 refine zt (za (zg (zj xd rfl ((hInv _ _ hj2).1.all _ (Bits.len _)) (Bits.len _)) (by decide) (zg (zh s3) (by decide) ?_)))
 have hnb := (Bits.mem_list.1 (List.mem_of_getElem? hn)).1
 refine zg (xg rfl rfl (c := ((n + 1 : Nat) : Int)) (by simp) (by omega) (by omega)) (by decide) ?_
 refine zu (zo ca_bits_Next) (by decide) (bits_Next_ok _ b _ (hInv _ _ hj2).2 hb) ?_
 rintro _ u3 ⟨rfl, h3⟩
 replace hj2 := hJ _ _ _ hj2 h3
 refine zg (zK rfl) (by decide) (zg (zk rfl rfl) (by decide) (zg (zk rfl rfl) (by decide) (zg (zf rfl) (by decide) (zg (zl rfl) (by decide) (zd ?_)))))
 have hnx : b.next (n + 1) = b.list[x + 1]? := by
  have := Bits.next_at b x hxl
  rwa [show b.list[x] = n from (List.getElem?_eq_some_iff.1 hn).2] at this
 exact ⟨rfl, (((((((((((((((Dif.self _ _ _).upd rfl _).upd rfl _).upd rfl _).upd rfl _).upd rfl _).upd rfl _).upd rfl _).upd rfl _).upd rfl _).upd rfl _).upd rfl _).upd rfl _).upd rfl _).upd rfl _), x + 1, ⟨congrArg (Value.int .i64) (nextS_fst hnx), congrArg Value.bool (nextS_snd hnx), hj2, by omega⟩, by omega⟩
end Go.Proofs.YtjebgcoknpcadaaGreatDoor
end
section
namespace Go.Proofs.YtjebgcoknpcadaaGreatDoor
open Gw Go.RowKit
def isL (c : Int) : Bool := (decide (97 ≤ c) && decide (c ≤ 122)) || (decide (65 ≤ c) && decide (c ≤ 90))
def isC (c : Int) : Bool := isL c || (decide (48 ≤ c) && decide (c ≤ 57)) || decide (c = 95) || decide (c = 39)
def resv : List ByteArray := [⟨#[97, 98, 111, 114, 116]⟩, ⟨#[99, 97, 115, 101]⟩, ⟨#[102, 97, 108, 115, 101]⟩, ⟨#[102, 115, 116]⟩, ⟨#[102, 117, 110]⟩, ⟨#[105, 110]⟩, ⟨#[105, 110, 108]⟩, ⟨#[105, 110, 114]⟩, ⟨#[108, 101, 116]⟩, ⟨#[111, 102]⟩, ⟨#[115, 110, 100]⟩, ⟨#[116, 114, 117, 101]⟩]
def j0 (s : ByteArray) : Bool := resv.any fun t => decide (s = t)
theorem ji {s : ByteArray} (t : ByteArray) (h : j0 t = true) (e : s = t) : Value.bool true = Value.bool (j0 s) := by rw [e, h]
theorem resv_no {s : ByteArray} (h : ¬ s = ⟨#[97, 98, 111, 114, 116]⟩ ∧ ¬ s = ⟨#[99, 97, 115, 101]⟩ ∧ ¬ s = ⟨#[102, 97, 108, 115, 101]⟩ ∧ ¬ s = ⟨#[102, 115, 116]⟩ ∧ ¬ s = ⟨#[102, 117, 110]⟩ ∧ ¬ s = ⟨#[105, 110]⟩ ∧ ¬ s = ⟨#[105, 110, 108]⟩ ∧ ¬ s = ⟨#[105, 110, 114]⟩ ∧ ¬ s = ⟨#[108, 101, 116]⟩ ∧ ¬ s = ⟨#[111, 102]⟩ ∧ ¬ s = ⟨#[115, 110, 100]⟩ ∧ ¬ s = ⟨#[116, 114, 117, 101]⟩) : Value.bool false = Value.bool (j0 s) := by
 obtain ⟨h1, h2, h3, h4, h5, h6, h7, h8, h9, h10, h11, h12⟩ := h
 simp only [j0, resv, List.any_cons, List.any_nil, decide_eq_false h1, decide_eq_false h2, decide_eq_false h3, decide_eq_false h4, decide_eq_false h5, decide_eq_false h6, decide_eq_false h7, decide_eq_false h8, decide_eq_false h9, decide_eq_false h10, decide_eq_false h11, decide_eq_false h12, Bool.or_false]
def SC (s : ByteArray) : List Value := [.string s]
def okAt (s : ByteArray) (i : Nat) : Prop := (if i = 0 then isL (sb s i) else isC (sb s i)) = true
instance (s : ByteArray) (i : Nat) : Decidable (okAt s i) := inferInstanceAs (Decidable ((if i = 0 then isL (sb s i) else isC (sb s i)) = true))
def isWord (s : ByteArray) : Prop := 1 ≤ s.size ∧ s.size ≤ 31 ∧ (∀ i, i < s.size → okAt s i) ∧ j0 s = false
instance (s : ByteArray) : Decidable (isWord s) := inferInstanceAs (Decidable (1 ≤ s.size ∧ s.size ≤ 31 ∧ (∀ i, i < s.size → okAt s i) ∧ j0 s = false))
theorem letter_walk (c : Int) : (decide (97 ≤ c) && decide (c ≤ 122) || decide (65 ≤ c) && decide (c ≤ 90)) = isL c := rfl
theorem small_walk : ∀ c : Nat, c < 256 → (decide (97 ≤ yo .or .u8 (c : Int) 32) && decide (yo .or .u8 (c : Int) 32 ≤ 122)) = isL c := by decide +kernel
theorem small_byte {c : Int} (h : 0 ≤ c ∧ c < 256) : (decide (97 ≤ yo .or .u8 c 32) && decide (yo .or .u8 c 32 ≤ 122)) = isL c := by
 have := small_walk c.toNat (by omega)
 rwa [show ((c.toNat : Nat) : Int) = c by omega] at this
theorem word_cond {s : ByteArray} {x : Nat} : (!(decide (97 ≤ yo .or .u8 (sb s (x : Int).toNat) 32) && decide (yo .or .u8 (sb s (x : Int).toNat) 32 ≤ 122)) && (decide ((x : Int) = 0) || decide (sb s (x : Int).toNat ≠ 95) && decide (sb s (x : Int).toNat ≠ 39) && (decide (sb s (x : Int).toNat < 48) || decide (57 < sb s (x : Int).toNat)))) = !decide (okAt s x) := by
 rw [small_byte (sb_byte s _)]
 rw [Int.toNat_natCast, Bool.eq_iff_iff]
 have e : decide (okAt s x) = true ↔ (if x = 0 then isL (sb s x) else isC (sb s x)) = true := decide_eq_true_iff
 rw [Bool.not_eq_true', ← Bool.not_eq_true, e]
 unfold isC
 generalize sb s x = c
 by_cases hx : x = 0
 ·subst hx; simp
 ·have hx' : ¬ (x : Int) = 0 := by omega
  rw [if_neg hx]
  cases h1 : isL c <;> simp [hx', h1]
  omega
theorem word_end {s : ByteArray} (h : ∀ i, i < s.size → okAt s i) : Value.bool (decide (s ≠ ⟨#[]⟩) && decide ((s.size : Int) ≤ 31) && !j0 s) = Value.bool (decide (isWord s)) := by
 congr 1
 rw [Bool.eq_iff_iff]
 have e0 : decide (isWord s) = true ↔ (1 ≤ s.size ∧ s.size ≤ 31 ∧ (∀ i, i < s.size → okAt s i) ∧ j0 s = false) := decide_eq_true_iff
 rw [e0]
 simp only [Bool.and_eq_true, decide_eq_true_eq, Bool.not_eq_true']
 have e : s ≠ ⟨#[]⟩ ↔ 1 ≤ s.size := by
  constructor
  ·intro hn
   refine Nat.pos_of_ne_zero fun e => hn ?_
   exact ByteArray.ext (Array.eq_empty_of_size_eq_zero e)
  ·rintro h rfl
   exact absurd h (by decide)
 rw [e]
 constructor
 ·rintro ⟨⟨h1, h2⟩, h3⟩; exact ⟨h1, by omega, h, h3⟩
 ·rintro ⟨h1, h2, h3, h4⟩; exact ⟨⟨h1, by omega⟩, h4⟩
theorem word_cond2 {s : ByteArray} {x : Nat} : (!isL (sb s (x : Int).toNat) && !(decide (48 ≤ sb s (x : Int).toNat) && decide (sb s (x : Int).toNat ≤ 57)) && decide (sb s (x : Int).toNat ≠ 95) && decide (sb s (x : Int).toNat ≠ 39)) = !isC (sb s x) := by
 rw [Int.toNat_natCast]
 unfold isC
 generalize sb s x = c
 cases h1 : isL c <;> simp
theorem okAt_0 {s : ByteArray} {i : Nat} (h : i < 1) (hl : isL (sb s 0) = true) : okAt s i := by
 have : i = 0 := by omega
 subst this
 exact hl
theorem okAt_C {s : ByteArray} {i : Nat} (h : 1 ≤ i) (hl : isC (sb s i) = true) : okAt s i := by
 unfold okAt; rw [if_neg (by omega)]; exact hl
theorem okAt_not {s : ByteArray} {i : Nat} (h : 1 ≤ i) (hl : isC (sb s i) = false) (ho : okAt s i) : False := by
 unfold okAt at ho; rw [if_neg (by omega), hl] at ho; cases ho
theorem word_bad {s : ByteArray} (h : ((s.size : Int) < 1 ∨ 31 < (s.size : Int)) ∨ isL (sb s (Int.toNat 0)) = false) : Value.bool false = Value.bool (decide (isWord s)) := by
 rw [decide_eq_false]
 rintro ⟨h1, h2, h3, _⟩
 rcases h with h | h
 ·omega
 ·have := h3 0 h1
  unfold okAt at this
  rw [if_pos rfl] at this
  rw [show Int.toNat 0 = 0 from rfl, this] at h; cases h
theorem word_res {s t : ByteArray} {i : Nat} (h : resv[i]? = some t) (e : s = t) : Value.bool false = Value.bool (decide (isWord s)) := by
 rw [decide_eq_false]
 rintro ⟨_, _, _, h4⟩
 have : j0 s = true := by
  unfold j0
  rw [List.any_eq_true]
  exact ⟨t, List.mem_of_getElem? h, by simpa using e⟩
 rw [this] at h4; cases h4
theorem word_yes {s : ByteArray} (h1 : 1 ≤ s.size) (h2 : s.size ≤ 31) (h3 : ∀ i, i < s.size → okAt s i) (h4 : ∀ (i : Nat) t, resv[i]? = some t → s ≠ t) : Value.bool true = Value.bool (decide (isWord s)) := by
 rw [decide_eq_true (show isWord s from ⟨h1, h2, h3, ?_⟩)]
 unfold j0
 rw [List.any_eq_false]
 intro t ht
 obtain ⟨i, hi⟩ := List.getElem?_of_mem ht
 simpa using h4 i t hi
theorem word_no {s : ByteArray} {x : Nat} (hx : x < s.size) (h : ¬ okAt s x) : Value.bool false = Value.bool (decide (isWord s)) := by
 rw [decide_eq_false (fun hw => h (hw.2.2.1 x hx))]
theorem ref03_letter_ok (w : World) (c : Int) : Calls PP F_ref03_letter #[.int .u8 c] w fun e w' => ∃ v, e = .returned v ∧ (v = .bool (isL c) ∧ Ext w w') := by
 refine zw (n := 17) fn_ref03_letter rfl rfl (by simp) ?_
 have E := Ext.refl w
 refine zb (za (zg (zl rfl) (by decide) (zd (zb (za (zg (zh rfl) (by decide) (zg (vz rfl rfl) (by decide) (zg (zB rfl) (by decide) (zD (j := 2) (pol := true) rfl rfl rfl (by decide) (fun hg => zh rfl) (by decide) (zD (j := 2) (pol := true) rfl rfl rfl (by decide) (fun hg => zao (zq hg) rfl) (by decide) (zg (xe rfl (fun hp => (zq (xF hp)))) (by decide) (zg (zB rfl) (by decide) (zD (j := 6) (pol := false) rfl rfl rfl (by decide) (fun hg => zh rfl) (by decide) (zD (j := 6) (pol := false) rfl rfl rfl (by decide) (fun hg => vz (zq hg) rfl) (by decide) (zD (j := 6) (pol := false) rfl rfl rfl (by decide) (fun hg => zB (zq hg)) (by decide) (x7 (j := 9) (pol := true) rfl rfl rfl (by decide) (fun hg => zh rfl) (by decide) (x7 (j := 9) (pol := true) rfl rfl rfl (by decide) (fun hg => zao (zq hg) rfl) (by decide) (zD (j := 6) (pol := false) rfl rfl rfl (by decide) (fun hg => xe (zq hg) (fun hp => (zq (and_b hg hp)))) (by decide) (zg (xU rfl (fun hp => (zq (xF hp)))) (by decide) (zg (zl rfl) (by decide) (zd (zn ?_))))))))))))))))))))))
 exact ⟨_, (zS (ze rfl)), congrArg Value.bool (letter_walk c), E⟩
theorem formula_reserved_ok (w : World) (s : ByteArray) : Calls PP kT #[.string s] w fun e w' => ∃ v, e = .returned v ∧ (v = .bool (j0 s) ∧ Ext w w') := by
 refine zw (n := 17) fn_formula_reserved rfl rfl (by simp) ?_
 have E := Ext.refl w
 refine zb (za (zg (zl rfl) (by decide) (zd (zb (zb (za (zg (x9 rfl) (by decide) (zd ?_))))))))
 refine zF (zb (zb (za (zg (vu rfl rfl) (by decide) (zg (zl rfl) (by decide) (zd ?_))))))
 refine zC rfl (fun hc1 => ?_) (fun hc1 => ?_)
 all_goals try simp only [decide_eq_true_eq, decide_eq_false_iff_not] at hc1
 ·refine zt ?_
  refine zC rfl (fun hc2 => ?_) (fun hc2 => ?_)
  all_goals try simp only [decide_eq_true_eq, decide_eq_false_iff_not] at hc2
  ·refine zb (za (zg (zl rfl) (by decide) (zd (zn ?_))))
   (refine ⟨.bool true, (zS (ze rfl)), ?_, E⟩; exact (ji ⟨#[97, 98, 111, 114, 116]⟩ (by decide) ‹_›))
  refine zt (zb (za (zg (zl rfl) (by decide) (zd (zn ?_)))))
  contradiction
 ·refine zb (za (zg (vu rfl rfl) (by decide) (zg (zl rfl) (by decide) (zd ?_))))
  refine zC rfl (fun hc3 => ?_) (fun hc3 => ?_)
  all_goals try simp only [decide_eq_true_eq, decide_eq_false_iff_not] at hc3
  ·refine zt ?_
   refine zC rfl (fun hc4 => ?_) (fun hc4 => ?_)
   all_goals try simp only [decide_eq_true_eq, decide_eq_false_iff_not] at hc4
   ·refine zb (za (zg (zl rfl) (by decide) (zd (zn ?_))))
    (refine ⟨.bool true, (zS (ze rfl)), ?_, E⟩; exact (ji ⟨#[99, 97, 115, 101]⟩ (by decide) ‹_›))
   refine zt (zb (za (zg (zl rfl) (by decide) (zd (zn ?_)))))
   contradiction
  ·refine zb (za (zg (vu rfl rfl) (by decide) (zg (zl rfl) (by decide) (zd ?_))))
   refine zC rfl (fun hc5 => ?_) (fun hc5 => ?_)
   all_goals try simp only [decide_eq_true_eq, decide_eq_false_iff_not] at hc5
   ·refine zt ?_
    refine zC rfl (fun hc6 => ?_) (fun hc6 => ?_)
    all_goals try simp only [decide_eq_true_eq, decide_eq_false_iff_not] at hc6
    ·refine zb (za (zg (zl rfl) (by decide) (zd (zn ?_))))
     (refine ⟨.bool true, (zS (ze rfl)), ?_, E⟩; exact (ji ⟨#[102, 97, 108, 115, 101]⟩ (by decide) ‹_›))
    refine zt (zb (za (zg (zl rfl) (by decide) (zd (zn ?_)))))
    contradiction
   ·refine zb (za (zg (vu rfl rfl) (by decide) (zg (zl rfl) (by decide) (zd ?_))))
    refine zC rfl (fun hc7 => ?_) (fun hc7 => ?_)
    all_goals try simp only [decide_eq_true_eq, decide_eq_false_iff_not] at hc7
    ·refine zt ?_
     refine zC rfl (fun hc8 => ?_) (fun hc8 => ?_)
     all_goals try simp only [decide_eq_true_eq, decide_eq_false_iff_not] at hc8
     ·refine zb (za (zg (zl rfl) (by decide) (zd (zn ?_))))
      (refine ⟨.bool true, (zS (ze rfl)), ?_, E⟩; exact (ji ⟨#[102, 115, 116]⟩ (by decide) ‹_›))
     refine zt (zb (za (zg (zl rfl) (by decide) (zd (zn ?_)))))
     contradiction
    ·refine zb (za (zg (vu rfl rfl) (by decide) (zg (zl rfl) (by decide) (zd ?_))))
     refine zC rfl (fun hc9 => ?_) (fun hc9 => ?_)
     all_goals try simp only [decide_eq_true_eq, decide_eq_false_iff_not] at hc9
     ·refine zt ?_
      refine zC rfl (fun hc10 => ?_) (fun hc10 => ?_)
      all_goals try simp only [decide_eq_true_eq, decide_eq_false_iff_not] at hc10
      ·refine zb (za (zg (zl rfl) (by decide) (zd (zn ?_))))
       (refine ⟨.bool true, (zS (ze rfl)), ?_, E⟩; exact (ji ⟨#[102, 117, 110]⟩ (by decide) ‹_›))
      refine zt (zb (za (zg (zl rfl) (by decide) (zd (zn ?_)))))
      contradiction
     ·refine zb (za (zg (vu rfl rfl) (by decide) (zg (zl rfl) (by decide) (zd ?_))))
      refine zC rfl (fun hc11 => ?_) (fun hc11 => ?_)
      all_goals try simp only [decide_eq_true_eq, decide_eq_false_iff_not] at hc11
      ·refine zt ?_
       refine zC rfl (fun hc12 => ?_) (fun hc12 => ?_)
       all_goals try simp only [decide_eq_true_eq, decide_eq_false_iff_not] at hc12
       ·refine zb (za (zg (zl rfl) (by decide) (zd (zn ?_))))
        (refine ⟨.bool true, (zS (ze rfl)), ?_, E⟩; exact (ji ⟨#[105, 110]⟩ (by decide) ‹_›))
       refine zt (zb (za (zg (zl rfl) (by decide) (zd (zn ?_)))))
       contradiction
      ·refine zb (za (zg (vu rfl rfl) (by decide) (zg (zl rfl) (by decide) (zd ?_))))
       refine zC rfl (fun hc13 => ?_) (fun hc13 => ?_)
       all_goals try simp only [decide_eq_true_eq, decide_eq_false_iff_not] at hc13
       ·refine zt ?_
        refine zC rfl (fun hc14 => ?_) (fun hc14 => ?_)
        all_goals try simp only [decide_eq_true_eq, decide_eq_false_iff_not] at hc14
        ·refine zb (za (zg (zl rfl) (by decide) (zd (zn ?_))))
         (refine ⟨.bool true, (zS (ze rfl)), ?_, E⟩; exact (ji ⟨#[105, 110, 108]⟩ (by decide) ‹_›))
        refine zt (zb (za (zg (zl rfl) (by decide) (zd (zn ?_)))))
        contradiction
       ·refine zb (za (zg (vu rfl rfl) (by decide) (zg (zl rfl) (by decide) (zd ?_))))
        refine zC rfl (fun hc15 => ?_) (fun hc15 => ?_)
        all_goals try simp only [decide_eq_true_eq, decide_eq_false_iff_not] at hc15
        ·refine zt ?_
         refine zC rfl (fun hc16 => ?_) (fun hc16 => ?_)
         all_goals try simp only [decide_eq_true_eq, decide_eq_false_iff_not] at hc16
         ·refine zb (za (zg (zl rfl) (by decide) (zd (zn ?_))))
          (refine ⟨.bool true, (zS (ze rfl)), ?_, E⟩; exact (ji ⟨#[105, 110, 114]⟩ (by decide) ‹_›))
         refine zt (zb (za (zg (zl rfl) (by decide) (zd (zn ?_)))))
         contradiction
        ·refine zb (za (zg (vu rfl rfl) (by decide) (zg (zl rfl) (by decide) (zd ?_))))
         refine zC rfl (fun hc17 => ?_) (fun hc17 => ?_)
         all_goals try simp only [decide_eq_true_eq, decide_eq_false_iff_not] at hc17
         ·refine zt ?_
          refine zC rfl (fun hc18 => ?_) (fun hc18 => ?_)
          all_goals try simp only [decide_eq_true_eq, decide_eq_false_iff_not] at hc18
          ·refine zb (za (zg (zl rfl) (by decide) (zd (zn ?_))))
           (refine ⟨.bool true, (zS (ze rfl)), ?_, E⟩; exact (ji ⟨#[108, 101, 116]⟩ (by decide) ‹_›))
          refine zt (zb (za (zg (zl rfl) (by decide) (zd (zn ?_)))))
          contradiction
         ·refine zb (za (zg (vu rfl rfl) (by decide) (zg (zl rfl) (by decide) (zd ?_))))
          refine zC rfl (fun hc19 => ?_) (fun hc19 => ?_)
          all_goals try simp only [decide_eq_true_eq, decide_eq_false_iff_not] at hc19
          ·refine zt ?_
           refine zC rfl (fun hc20 => ?_) (fun hc20 => ?_)
           all_goals try simp only [decide_eq_true_eq, decide_eq_false_iff_not] at hc20
           ·refine zb (za (zg (zl rfl) (by decide) (zd (zn ?_))))
            (refine ⟨.bool true, (zS (ze rfl)), ?_, E⟩; exact (ji ⟨#[111, 102]⟩ (by decide) ‹_›))
           refine zt (zb (za (zg (zl rfl) (by decide) (zd (zn ?_)))))
           contradiction
          ·refine zb (za (zg (vu rfl rfl) (by decide) (zg (zl rfl) (by decide) (zd ?_))))
           refine zC rfl (fun hc21 => ?_) (fun hc21 => ?_)
           all_goals try simp only [decide_eq_true_eq, decide_eq_false_iff_not] at hc21
           ·refine zt ?_
            refine zC rfl (fun hc22 => ?_) (fun hc22 => ?_)
            all_goals try simp only [decide_eq_true_eq, decide_eq_false_iff_not] at hc22
            ·refine zb (za (zg (zl rfl) (by decide) (zd (zn ?_))))
             (refine ⟨.bool true, (zS (ze rfl)), ?_, E⟩; exact (ji ⟨#[115, 110, 100]⟩ (by decide) ‹_›))
            refine zt (zb (za (zg (zl rfl) (by decide) (zd (zn ?_)))))
            contradiction
           ·refine za (zg (vu rfl rfl) (by decide) (zg (zl rfl) (by decide) (zd ?_)))
            refine zC rfl (fun hc23 => ?_) (fun hc23 => ?_)
            all_goals try simp only [decide_eq_true_eq, decide_eq_false_iff_not, Bool.and_eq_true, Bool.or_eq_true, Bool.and_eq_false_iff, Bool.or_eq_false_iff, Bool.not_eq_true', Bool.not_eq_false', Int.not_lt, Int.not_le, ne_eq, Decidable.not_not] at hc23
            ·refine zb (za (zg (zl rfl) (by decide) (zd (zn ?_))))
             (refine ⟨.bool true, (zS (ze rfl)), ?_, E⟩; exact (ji ⟨#[116, 114, 117, 101]⟩ (by decide) ‹_›))
            refine zt (zb (za (zg (zl rfl) (by decide) (zd (zn ?_)))))
            (refine ⟨.bool false, (zS (ze rfl)), ?_, E⟩; exact resv_no (by refine ⟨?_, ?_, ?_, ?_, ?_, ?_, ?_, ?_, ?_, ?_, ?_, ?_⟩ <;> assumption))
theorem formula_Word_ok (w : World) (s : ByteArray) (hs : s.size < 9223372036854775808) : Calls PP zai #[.string s] w fun e w' => ∃ v, e = .returned v ∧ (v = .bool (decide (isWord s)) ∧ Ext w w') := by
 refine zw (n := 58) fn_formula_Word rfl rfl (by simp) ?_
 have E := Ext.refl w
 refine zb (za (zg (zl rfl) (by decide) (zd (zb (zb (za (zg (x9 rfl) (by decide) (zg (j6 yM rfl) (by decide) (zg (zh rfl) (by decide) (zd ?_))))))))))
 refine zF ?_
 refine yp (α := Nat) [2, 3, 4, 5, 6, 9, 10, 11, 12, 13, 14, 15, 16, 17, 18, 19, 20, 21, 22, 23, 24, 25, 26, 27, 28, 29, 30, 31, 32, 33, 34, 35, 36, 37, 38, 39, 40, 41, 42, 43, 44, 45] (fun x fr W => (fr 9 = .int .i64 (x : Nat)) ∧ (Ext w W) ∧ (x ≤ s.size) ∧ (∀ i, i < x → okAt s i)) (fun x => s.size - x) 0 ⟨rfl, Chg.refl _ _, by omega, fun i h => by omega⟩ ?_
 rintro x g0 u0 ⟨s0_9, K0, hx, hp⟩
 replace E := E.thenExt K0
 refine zb (za (zg (xm s0_9 rfl) (by decide) (zd (zb ?_))))
 refine zC rfl (fun hc1 => ?_) (fun hc1 => ?_)
 all_goals try simp only [decide_eq_true_eq, decide_eq_false_iff_not, Bool.and_eq_true, Bool.or_eq_true, Bool.and_eq_false_iff, Bool.or_eq_false_iff, Bool.not_eq_true', Bool.not_eq_false', Int.not_lt, Int.not_le, ne_eq, Decidable.not_not] at hc1
 rotate_left
 ·refine yf (zb (za (zg (x9 rfl) (by decide) (zg (zbb rfl rfl) (by decide) (zg (zB rfl) (by decide) (zD (j := 2) (pol := true) rfl rfl rfl (by decide) (fun hg => x9 rfl) (by decide) (zD (j := 2) (pol := true) rfl rfl rfl (by decide) (fun hg => j6 yM (zq hg)) (by decide) (zD (j := 2) (pol := true) rfl rfl rfl (by decide) (fun hg => zao (zq hg) rfl) (by decide) (zg (xe rfl (fun hp => (zq (xF hp)))) (by decide) (zg (zB rfl) (by decide) (zD (j := 7) (pol := true) rfl rfl rfl (by decide) (fun hg => x9 rfl) (by decide) ?_)))))))))))
  refine yI (j := 7) (pol := true) rfl rfl rfl (by decide) (fun hg => zM ca_formula_reserved (zO (zq hg) rfl)) (by decide) (fun hg => formula_reserved_ok _ _) fun w1 h1 => ?_
  replace E := E.thenExt h1
  refine zD (j := 7) (pol := true) rfl rfl rfl (by decide) (fun hg => xk (zq hg)) (by decide) (zg (xe rfl (fun hp => (zq (xF hp)))) (by decide) (zg (zl rfl) (by decide) (zd (zn ?_))))
  exact ⟨.bool (decide (s ≠ ⟨#[]⟩) && decide ((s.size : Int) ≤ 31) && !j0 s), (zS (ze rfl)), word_end (fun i h => hp i (by omega)), E⟩
 refine zt (zb ?_)
 refine zF (zb (za (zg (zh s0_9) (by decide) (zg (zf rfl) (by decide) (zd (zb (za (zg (x9 rfl) (by decide) (zg (zh rfl) (by decide) (zg (vQ yM rfl rfl (by omega) (by omega)) (by decide) (zg (zf rfl) (by decide) (zd (zb (za (zg (zh rfl) (by decide) (zg (jp (by simp) rfl rfl) (by decide) (zg (zf rfl) (by decide) (zd (zb (za (zg (zh rfl) (by decide) (zg (vz rfl rfl) (by decide) (zg (zB rfl) (by decide) (zD (j := 2) (pol := true) rfl rfl rfl (by decide) (fun hg => zh rfl) (by decide) (zD (j := 2) (pol := true) rfl rfl rfl (by decide) (fun hg => zao (zq hg) rfl) (by decide) (zg (xe rfl (fun hp => (zq (xF hp)))) (by decide) (zg (zl rfl) (by decide) (zd (zb (za (zg (zB rfl) (by decide) (zg (xk rfl) (by decide) (zg (zB rfl) (by decide) (zD (j := 2) (pol := true) rfl rfl rfl (by decide) (fun hg => zh rfl) (by decide) (zD (j := 2) (pol := true) rfl rfl rfl (by decide) (fun hg => zN (zq hg) rfl) (by decide) (zD (j := 2) (pol := true) rfl rfl rfl (by decide) (fun hg => zB (zq hg)) (by decide) (x7 (j := 5) (pol := false) rfl rfl rfl (by decide) (fun hg => zh rfl) (by decide) (x7 (j := 5) (pol := false) rfl rfl rfl (by decide) (fun hg => xc (zq hg) rfl) (by decide) ?_))))))))))))))))))))))))))))))))))))))
 refine x7 (j := 5) (pol := false) rfl rfl rfl (by decide) (fun hg => zB (zq hg)) (by decide) (x7 (j := 8) (pol := true) rfl rfl rfl (by decide) (fun hg => zh rfl) (by decide) (x7 (j := 8) (pol := true) rfl rfl rfl (by decide) (fun hg => xc (zq hg) rfl) (by decide) (x7 (j := 5) (pol := false) rfl rfl rfl (by decide) (fun hg => xe (zq hg) (fun hp => (zq (and_b hg hp)))) (by decide) (x7 (j := 5) (pol := false) rfl rfl rfl (by decide) (fun hg => zB (zq hg)) (by decide) (x7 (j := 12) (pol := true) rfl rfl rfl (by decide) (fun hg => zh rfl) (by decide) (x7 (j := 12) (pol := true) rfl rfl rfl (by decide) (fun hg => xm (zq hg) rfl) (by decide) (x7 (j := 12) (pol := true) rfl rfl rfl (by decide) (fun hg => zB (zq hg)) (by decide) (x7 (j := 15) (pol := false) rfl rfl rfl (by decide) (fun hg => zh rfl) (by decide) (x7 (j := 15) (pol := false) rfl rfl rfl (by decide) (fun hg => does_gt (zq hg) rfl) (by decide) (x7 (j := 12) (pol := true) rfl rfl rfl (by decide) (fun hg => xU (zq hg) (fun hp => (zq (and_b hg hp)))) (by decide) (x7 (j := 5) (pol := false) rfl rfl rfl (by decide) (fun hg => xe (zq hg) (fun hp => (zq (and_b hg hp)))) (by decide) (zD (j := 2) (pol := true) rfl rfl rfl (by decide) (fun hg => xU (zq hg) (fun hp => (zq (and_b hg hp)))) (by decide) (zg (xe rfl (fun hp => (zq (xF hp)))) (by decide) (zd ?_))))))))))))))
 refine zC rfl (fun hc2 => ?_) (fun hc2 => ?_)
 all_goals rw [word_cond] at hc2; simp only [Bool.not_eq_true', Bool.not_eq_false', decide_eq_false_iff_not, decide_eq_true_eq] at hc2
 ·refine zb (za (zg (zl rfl) (by decide) (zd (zn ?_))))
  exact ⟨.bool false, (zS (ze rfl)), word_no (by omega) hc2, E⟩
 refine zt (za (zg (xg s0_9 rfl (c := _) rfl (by omega) (by omega)) (by decide) (zg (zh rfl) (by decide) (zd ?_))))
 exact ⟨rfl, ((((((((((((((((((((((((((((((((((((((((((Dif.self _ _ _).upd rfl _).upd rfl _).upd rfl _).upd rfl _).upd rfl _).upd rfl _).upd rfl _).upd rfl _).upd rfl _).upd rfl _).upd rfl _).upd rfl _).upd rfl _).upd rfl _).upd rfl _).upd rfl _).upd rfl _).upd rfl _).upd rfl _).upd rfl _).upd rfl _).upd rfl _).upd rfl _).upd rfl _).upd rfl _).upd rfl _).upd rfl _).upd rfl _).upd rfl _).upd rfl _).upd rfl _).upd rfl _).upd rfl _).upd rfl _).upd rfl _).upd rfl _).upd rfl _).upd rfl _).upd rfl _).upd rfl _).upd rfl _), x + 1, ⟨rfl, K0, by omega, fun i h => (Nat.lt_or_eq_of_le (Nat.le_of_lt_succ h)).elim (hp i) (fun e => by subst e; exact hc2)⟩, by (try dsimp only); omega⟩
theorem ref03_Reserved_ok (w : World) : Calls PP zaS #[] w fun e w' => ∃ v, e = .returned v ∧ (∃ s, v = SlV.v s ∧ Rd w' 1 s (resv.map SC) ∧ (∀ i, s.fp i → w.heap.size ≤ i) ∧ Ext w w') := by
 refine zw (n := 2) fn_ref03_Reserved rfl rfl (by simp) ?_
 have E := Ext.refl w
 refine zb (za (zg (z0) (by decide) (zd (zb (za ?_)))))
 refine wl_buildSlice (vs := resv.map Value.string) (rows := resv.map SC) sl_L_string el_string.zero rfl rfl (by decide) rfl (by decide) (by decide) fun b1 w1 s1 h1 q1 => ?_
 have l_b1 : w.heap.size ≤ b1 := by have := h1.at_; have := E.size; omega
 have B1 := h1.blk
 replace E := E.thenExt h1.ext
 refine zg (xa rfl) (by decide) (zd (zn ?_))
 exact ⟨_, (zS (ze rfl)), s1, rfl, B1.rdl (fun a _ => rfl) q1 rfl, (fun i hi => by rw [fp_at q1 hi]; exact l_b1), E⟩
theorem ref03_Word_ok (w : World) (s : ByteArray) (hs : s.size < 9223372036854775808) : Calls PP F_ref03_Word #[.string s] w fun e w' => ∃ v, e = .returned v ∧ (v = .bool (decide (isWord s)) ∧ Ext w w') := by
 refine zw (n := 69) fn_ref03_Word rfl rfl (by simp) ?_
 have E := Ext.refl w
 refine zb (za (zg (zl rfl) (by decide) (zd (zb (zb (za (zg (x9 rfl) (by decide) (zg (j6 yM rfl) (by decide) (zg (xm rfl rfl) (by decide) (zg (zB rfl) (by decide) (zD (j := 3) (pol := false) rfl rfl rfl (by decide) (fun hg => x9 rfl) (by decide) (zD (j := 3) (pol := false) rfl rfl rfl (by decide) (fun hg => j6 yM (zq hg)) (by decide) (zD (j := 3) (pol := false) rfl rfl rfl (by decide) (fun hg => does_gt (zq hg) rfl) (by decide) (zg (xU rfl (fun hp => (zq (xF hp)))) (by decide) (zg (zB rfl) (by decide) (zD (j := 8) (pol := false) rfl rfl rfl (by decide) (fun hg => x9 rfl) (by decide) (zD (j := 8) (pol := false) rfl rfl rfl (by decide) (fun hg => vQ yM (zq hg) rfl (by simp at hg; omega) (by simp at hg; omega)) (by decide) ?_)))))))))))))))))
 refine yI (j := 8) (pol := false) rfl rfl rfl (by decide) (fun hg => zM ca_ref03_letter (zO (zq hg) rfl)) (by decide) (fun hg => ref03_letter_ok _ _) fun w1 h1 => ?_
 replace E := E.thenExt h1
 refine zD (j := 8) (pol := false) rfl rfl rfl (by decide) (fun hg => xk (zq hg)) (by decide) (zg (xU rfl (fun hp => (zq (xF hp)))) (by decide) (zd ?_))
 refine zC rfl (fun hc1 => ?_) (fun hc1 => ?_)
 all_goals try simp only [decide_eq_true_eq, decide_eq_false_iff_not, Bool.and_eq_true, Bool.or_eq_true, Bool.and_eq_false_iff, Bool.or_eq_false_iff, Bool.not_eq_true', Bool.not_eq_false', Int.not_lt, Int.not_le, ne_eq, Decidable.not_not] at hc1
 ·refine zb (za (zg (zl rfl) (by decide) (zd (zn ?_))))
  exact ⟨.bool false, (zS (ze rfl)), word_bad hc1, E⟩
 refine zt (zb (zb (za (zg (zf rfl) (by decide) (zd ?_)))))
 refine zF ?_
 refine yp (α := Nat) [2, 3, 20, 21, 22, 23, 24, 25, 26, 27, 28, 29, 30, 31, 32, 33, 34, 35, 36, 37, 38, 39, 40, 41, 42, 43, 44, 45, 46, 47, 48, 49, 50, 51, 52, 53, 54, 55] (fun x fr W => (fr 3 = .int .i64 (x : Nat)) ∧ (Ext w1 W) ∧ (1 ≤ x ∧ x ≤ s.size) ∧ (∀ i, i < x → okAt s i)) (fun x => s.size - x) 1 ⟨rfl, Chg.refl _ _, by omega, fun i h => okAt_0 h hc1.2⟩ ?_
 rintro x g0 u0 ⟨s0_3, K0, hx, hp⟩
 replace E := E.thenExt K0
 refine zb (zb (za (zg (zh s0_3) (by decide) (zg (x9 rfl) (by decide) (zg (j6 yM rfl) (by decide) (zg (xm rfl rfl) (by decide) (zd ?_)))))))
 refine zC rfl (fun hc2 => ?_) (fun hc2 => ?_)
 all_goals try simp only [decide_eq_true_eq, decide_eq_false_iff_not, Bool.and_eq_true, Bool.or_eq_true, Bool.and_eq_false_iff, Bool.or_eq_false_iff, Bool.not_eq_true', Bool.not_eq_false', Int.not_lt, Int.not_le, ne_eq, Decidable.not_not] at hc2
 rotate_left
 ·refine yf (zb (za ?_))
  refine zu (zo ca_ref03_Reserved) (by decide) (ref03_Reserved_ok _ ) ?_
  rintro _ w2 ⟨s56, rfl, R56, m56, h2⟩
  have n_R56 : ∀ i, s56.fp i → w.heap.size ≤ i := fun i e => by have := m56 _ e; have := E.size; omega
  replace E := E.thenExt h2
  refine zg (xa rfl) (by decide) (zd (zb (zb (za (zg (zf rfl) (by decide) (zd ?_))))))
  refine zF ?_
  refine yp (α := Nat) [2, 5, 57, 58, 59, 60, 61, 62, 63, 64, 65, 66, 67, 68] (fun y fr W => (fr 5 = .int .i64 (y : Nat)) ∧ (Ext w2 W) ∧ (y ≤ 12) ∧ (∀ (i : Nat) t, i < y → resv[i]? = some t → s ≠ t)) (fun y => 12 - y) 0 ⟨rfl, Chg.refl _ _, by omega, fun i t h => by omega⟩ ?_
  rintro y g1 u1 ⟨s1_5, K1, hy, hq⟩
  replace R56 := R56.ext K1
  replace E := E.thenExt K1
  have hrl : resv.length = 12 := rfl
  obtain ⟨a, ha⟩ : ∃ a, y < 12 → resv[y]? = some a := ⟨resv.getD y ⟨#[]⟩, fun h => by have : y < resv.length := h; simp [this]⟩
  refine zb (zb (za (zg (zh s1_5) (by decide) (zg (zR rfl) (by decide) (zg (xG sl_L_string rfl R56) (by decide) (zg (xm rfl rfl) (by decide) (zd ?_)))))))
  refine zC rfl (fun hc3 => ?_) (fun hc3 => ?_)
  all_goals try simp only [decide_eq_true_eq, decide_eq_false_iff_not, Bool.and_eq_true, Bool.or_eq_true, Bool.and_eq_false_iff, Bool.or_eq_false_iff, Bool.not_eq_true', Bool.not_eq_false', Int.not_lt, Int.not_le, ne_eq, Decidable.not_not] at hc3
  rotate_left
  ·refine yf (zb (za (zg (zl rfl) (by decide) (zd (zn ?_)))))
   exact ⟨.bool true, (zS (ze rfl)), word_yes (by omega) (by omega) (fun i h => hp i (by omega)) (fun i t h => hq i t (by have : i < resv.length := (List.getElem?_eq_some_iff.1 h).1; have : resv.length = 12 := rfl; omega) h), E⟩
  refine zt (zb ?_)
  refine zF (zb (za (zg (zR rfl) (by decide) (zg (zh s1_5) (by decide) (zg (zZ sl_L_string rfl rfl R56 (by omega) (by omega)) (by decide) (zg (zm xY rfl (R56.one (ha (by omega)) rfl)) (by decide) (zg (x9 rfl) (by decide) (zg (vu rfl rfl) (by decide) (zd ?_)))))))))
  refine zC rfl (fun hc4 => ?_) (fun hc4 => ?_)
  all_goals try simp only [decide_eq_true_eq, decide_eq_false_iff_not] at hc4
  ·refine zb (za (zg (zl rfl) (by decide) (zd (zn ?_))))
   exact ⟨.bool false, (zS (ze rfl)), word_res (ha (by omega)) hc4.symm, E⟩
  refine zt (za (zg (zh s1_5) (by decide) (zg (xg rfl rfl (c := _) rfl (by omega) (by omega)) (by decide) (zg (zf rfl) (by decide) (zd ?_)))))
  exact ⟨rfl, ((((((((((((((Dif.self _ _ _).upd rfl _).upd rfl _).upd rfl _).upd rfl _).upd rfl _).upd rfl _).upd rfl _).upd rfl _).upd rfl _).upd rfl _).upd rfl _).upd rfl _).upd rfl _), y + 1, ⟨rfl, K1, by omega, fun i t h e => (Nat.lt_or_eq_of_le (Nat.le_of_lt_succ h)).elim (fun h => hq i t h e) (fun e2 => by subst e2; rw [ha (by omega)] at e; injection e with e; subst e; exact fun h => hc4 h.symm)⟩, by (try dsimp only); omega⟩
 refine zt (zb ?_)
 refine zF (zb (za (zg (x9 rfl) (by decide) (zg (zh s0_3) (by decide) (zg (vQ yM rfl rfl (by omega) (by omega)) (by decide) ?_)))))
 refine zu (zo ca_ref03_letter) (by decide) (ref03_letter_ok _ _) ?_
 rintro _ w3 ⟨rfl, h3⟩
 replace E := E.thenExt h3
 replace K0 := K0.thenExt h3
 refine zg (xk rfl) (by decide) (zg (zB rfl) (by decide) (zD (j := 5) (pol := true) rfl rfl rfl (by decide) (fun hg => x9 rfl) (by decide) (zD (j := 5) (pol := true) rfl rfl rfl (by decide) (fun hg => zh s0_3) (by decide) (zD (j := 5) (pol := true) rfl rfl rfl (by decide) (fun hg => vQ yM (zq hg) (zq hg) (by simp at hg; omega) (by simp at hg; omega)) (by decide) (zD (j := 5) (pol := true) rfl rfl rfl (by decide) (fun hg => vz (zq hg) rfl) (by decide) (zD (j := 5) (pol := true) rfl rfl rfl (by decide) (fun hg => zB (zq hg)) (by decide) (x7 (j := 10) (pol := true) rfl rfl rfl (by decide) (fun hg => x9 rfl) (by decide) (x7 (j := 10) (pol := true) rfl rfl rfl (by decide) (fun hg => zh s0_3) (by decide) (x7 (j := 10) (pol := true) rfl rfl rfl (by decide) (fun hg => vQ yM (zq hg) (zq hg) (by simp at hg; omega) (by simp at hg; omega)) (by decide) (x7 (j := 10) (pol := true) rfl rfl rfl (by decide) (fun hg => zao (zq hg) rfl) (by decide) (zD (j := 5) (pol := true) rfl rfl rfl (by decide) (fun hg => xe (zq hg) (fun hp => (zq (and_b hg hp)))) (by decide) (zD (j := 5) (pol := true) rfl rfl rfl (by decide) (fun hg => xk (zq hg)) (by decide) (zg (xe rfl (fun hp => (zq (xF hp)))) (by decide) (zg (zB rfl) (by decide) (zD (j := 18) (pol := true) rfl rfl rfl (by decide) (fun hg => x9 rfl) (by decide) (zD (j := 18) (pol := true) rfl rfl rfl (by decide) (fun hg => zh s0_3) (by decide) (zD (j := 18) (pol := true) rfl rfl rfl (by decide) (fun hg => vQ yM (zq hg) (zq hg) (by simp at hg; omega) (by simp at hg; omega)) (by decide) (zD (j := 18) (pol := true) rfl rfl rfl (by decide) (fun hg => xc (zq hg) rfl) (by decide) (zg (xe rfl (fun hp => (zq (xF hp)))) (by decide) (zg (zB rfl) (by decide) (zD (j := 24) (pol := true) rfl rfl rfl (by decide) (fun hg => x9 rfl) (by decide) (zD (j := 24) (pol := true) rfl rfl rfl (by decide) (fun hg => zh s0_3) (by decide) (zD (j := 24) (pol := true) rfl rfl rfl (by decide) (fun hg => vQ yM (zq hg) (zq hg) (by simp at hg; omega) (by simp at hg; omega)) (by decide) (zD (j := 24) (pol := true) rfl rfl rfl (by decide) (fun hg => xc (zq hg) rfl) (by decide) (zg (xe rfl (fun hp => (zq (xF hp)))) (by decide) (zd ?_))))))))))))))))))))))))))
 refine zC rfl (fun hc5 => ?_) (fun hc5 => ?_)
 all_goals rw [word_cond2] at hc5; simp only [Bool.not_eq_true', Bool.not_eq_false'] at hc5
 ·refine zb (za (zg (zl rfl) (by decide) (zd (zn ?_))))
  exact ⟨.bool false, (zS (ze rfl)), word_no (by omega) (fun h => okAt_not (by omega) hc5 h), E⟩
 refine zt (za (zg (zh s0_3) (by decide) (zg (xg rfl rfl (c := _) rfl (by omega) (by omega)) (by decide) (zg (zf rfl) (by decide) (zd ?_)))))
 exact ⟨rfl, ((((((((((((((((((((((((((((((((((((((Dif.self _ _ _).upd rfl _).upd rfl _).upd rfl _).upd rfl _).upd rfl _).upd rfl _).upd rfl _).upd rfl _).upd rfl _).upd rfl _).upd rfl _).upd rfl _).upd rfl _).upd rfl _).upd rfl _).upd rfl _).upd rfl _).upd rfl _).upd rfl _).upd rfl _).upd rfl _).upd rfl _).upd rfl _).upd rfl _).upd rfl _).upd rfl _).upd rfl _).upd rfl _).upd rfl _).upd rfl _).upd rfl _).upd rfl _).upd rfl _).upd rfl _).upd rfl _).upd rfl _).upd rfl _), x + 1, ⟨rfl, K0, by omega, fun i h => (Nat.lt_or_eq_of_le (Nat.le_of_lt_succ h)).elim (hp i) (fun e => by subst e; exact okAt_C (by omega) hc5)⟩, by (try dsimp only); omega⟩
end Go.Proofs.YtjebgcoknpcadaaGreatDoor
end
section
namespace Go.Proofs.YtjebgcoknpcadaaGreatDoor
open Gw Go.RowKit
def yR (N : List Nd) (i : Int) : Bool := decide (0 ≤ i) && decide (i < N.length)
def ju (N : List Nd) (i : Int) : Nd × Bool := if yR N i = true then (N.getD i.toNat Nd.z, true) else (Nd.z, false)
theorem row_of {N : List Nd} {i : Int} (h : yR N i = true) : 0 ≤ i ∧ i < N.length ∧ ∃ a, N[i.toNat]? = some a := by
 simp only [yR, Bool.and_eq_true, decide_eq_true_eq] at h
 exact ⟨h.1, h.2, _, List.getElem?_eq_getElem (by omega)⟩
theorem node_no {N : List Nd} {i : Int} (h : yR N i = false) : ju N i = (Nd.z, false) := by rw [ju, h]; rfl
theorem node_yes {N : List Nd} {i : Int} {a : Nd} (h : yR N i = true) (ha : N[i.toNat]? = some a) : ju N i = (a, true) := by rw [ju, if_pos h, List.getD_eq_getElem?_getD, ha]; rfl
def yU (N : List Nd) (n : Nd) : Int :=
 if n.kind = 1 then (if ¬ n.l = 0 ∨ ¬ n.r = 0 then 31 else if isWord n.name then 0 else 32)
 else if n.kind = 2 then (if n = { Nd.z with kind := 2 } then 0 else 31)
 else if n.kind = 3 ∨ n.kind = 4 ∨ n.kind = 5 then (if (¬ n.name = ⟨#[]⟩ ∨ yR N n.l = false) ∨ yR N n.r = false then 31 else 0)
 else 31
def putS (N : List Nd) (n : Nd) : List Nd × Int × Int :=
 if yU N n = 0 then (match N.idxOf? n with
  | some k => (N, (k : Int), 0)
  | none => if 1024 ≤ N.length then (N, 0, 30) else (N ++ [n], (N.length : Int), 0))
 else (N, 0, yU N n)
theorem put_bad {N : List Nd} {n : Nd} (h : ¬ yU N n = 0) : putS N n = (N, 0, yU N n) := by rw [putS, if_neg h]
theorem put_old {N : List Nd} {n : Nd} {k : Nat} (h : yU N n = 0) (hk : N.idxOf? n = some k) : putS N n = (N, (k : Int), 0) := by rw [putS, if_pos h, hk]
theorem zbi {N : List Nd} {n : Nd} (h : yU N n = 0) (hk : N.idxOf? n = none) (hl : 1024 ≤ N.length) : putS N n = (N, 0, 30) := by rw [putS, if_pos h, hk]; exact if_pos hl
theorem put_new {N : List Nd} {n : Nd} (h : yU N n = 0) (hk : N.idxOf? n = none) (hl : ¬ 1024 ≤ N.length) : putS N n = (N ++ [n], (N.length : Int), 0) := by rw [putS, if_pos h, hk]; exact if_neg hl
theorem look_zip (n : Nd) : ∀ (N : List Nd) (k : Nat), Gw.look n ((N.zipIdx k).map fun q => (q.1, (q.2 : Int))) = (N.idxOf? n).map fun i => ((i + k : Nat) : Int)
 | [], k => rfl
 | a :: N, k => by
  rw [List.zipIdx_cons, List.map_cons, List.idxOf?_cons]
  unfold Gw.look
  by_cases h : n = a
  ·subst h; simp
  ·have h2 : (a == n) = false := by simpa using fun e => h e.symm
   rw [if_neg h, h2, look_zip n N (k + 1)]
   cases N.idxOf? n with
   | none => rfl
   | some i => simp; omega
theorem look_rows {n : Nd} {N : List Nd} : Gw.look n (N.zipIdx.map fun q => (q.1, (q.2 : Int))) = (N.idxOf? n).map fun (i : Nat) => (i : Int) := by simpa using look_zip n N 0
theorem idx_none {n : Nd} {N : List Nd} (h : (Gw.look n (N.zipIdx.map fun q => (q.1, (q.2 : Int)))).isSome = false) : N.idxOf? n = none := by
 rw [look_rows] at h
 cases hq : N.idxOf? n with
 | none => rfl
 | some k => rw [hq] at h; cases h
theorem ins_none {x : Nd} {y : Int} : ∀ (l : List (Nd × Int)), Gw.look x l = none → ins x y l = l ++ [(x, y)]
 | [], _ => rfl
 | (k, v) :: l, h => by
  unfold Gw.look at h
  unfold ins
  by_cases e : x = k
  ·rw [if_pos e] at h; cases h
  ·rw [if_neg e] at h ⊢; rw [ins_none l h]; rfl
theorem ins_rows {n : Nd} {N : List Nd} (h : N.idxOf? n = none) : ins n (N.length : Int) (N.zipIdx.map fun q => (q.1, (q.2 : Int))) = (N ++ [n]).zipIdx.map fun q => (q.1, (q.2 : Int)) := by
 rw [ins_none _ (by rw [look_rows, h]; rfl), List.zipIdx_append]; simp
def ndV (x : Nd) : Value := .agg (Nd.C x).toArray
structure TabIs (w : World) (p : Nat) (N : List Nd) (A : Nat → Prop) (s : SlV) (m : Nat) : Prop where
 bp : Blk w p kj (Tab.C ⟨s, some m⟩)
 own : Own w 0 T_Nd 4 s (N.map Nd.C)
 map : MapB w m ndV (Value.int .i64) (N.zipIdx.map fun q => (q.1, (q.2 : Int)))
 pm : p ≠ m
 ps : ¬ s.fp p
 ms : ¬ s.fp m
 fp : ∀ i, A i ↔ (i = p ∨ i = m ∨ s.fp i)
def TabAt (w : World) (p : Nat) (N : List Nd) (A : Nat → Prop) : Prop := ∃ s m, Blk w p kj (Tab.C ⟨s, some m⟩) ∧ Own w 0 T_Nd 4 s (N.map Nd.C) ∧ MapB w m ndV (Value.int .i64) (N.zipIdx.map fun q => (q.1, (q.2 : Int))) ∧ p ≠ m ∧ ¬ s.fp p ∧ ¬ s.fp m ∧ (∀ i, A i ↔ (i = p ∨ i = m ∨ s.fp i))
theorem TabAt.mk {w : World} {p : Nat} {N : List Nd} {A : Nat → Prop} {s : SlV} {m : Nat} (bp : Blk w p kj (Tab.C ⟨s, some m⟩)) (own : Own w 0 T_Nd 4 s (N.map Nd.C)) (map : MapB w m ndV (Value.int .i64) (N.zipIdx.map fun q => (q.1, (q.2 : Int)))) (pm : p ≠ m) (ps : ¬ s.fp p) (ms : ¬ s.fp m)
  (fp : ∀ i, A i ↔ (i = p ∨ i = m ∨ s.fp i)) : TabAt w p N A := ⟨s, m, bp, own, map, pm, ps, ms, fp⟩
theorem TabAt.lt {w : World} {p : Nat} {N : List Nd} {A : Nat → Prop} (h : TabAt w p N A) : ∀ i, A i → i < w.heap.size := by
 obtain ⟨s, m, b, o, mm, _, _, _, hA⟩ := h
 intro i hi
 rcases (hA i).1 hi with rfl | rfl | hi
 ·exact b.lt
 ·exact mm.lt
 ·exact o.lt i hi
theorem TabAt.keep {S : Nat → Prop} {w w' : World} {p : Nat} {N : List Nd} {A : Nat → Prop} (h : TabAt w p N A) (hc : Chg S w w') (hs : ∀ i, A i → ¬ S i) : TabAt w' p N A := by
 obtain ⟨s, m, b, o, mm, h1, h2, h3, hA⟩ := h
 exact ⟨s, m, b.chg hc (hs _ ((hA _).2 (.inl rfl))), o.keep hc (fun i hi => hs _ ((hA _).2 (.inr (.inr hi)))), mm.chg hc (hs _ ((hA _).2 (.inr (.inl rfl)))), h1, h2, h3, hA⟩
theorem TabAt.ext {w w' : World} {p : Nat} {N : List Nd} {A : Nat → Prop} (h : TabAt w p N A) (hc : Ext w w') : TabAt w' p N A := h.keep hc (fun _ _ x => x)
theorem yL (w : World) {p : Nat} {N : List Nd} {A : Nat → Prop} (T : TabAt w p N A) : Calls PP yV #[.pointer (some ⟨p, 0, none⟩)] w fun e w' => ∃ v, e = .returned v ∧ (v = .bool true ∧ Ext w w') := by
 obtain ⟨s, m, Bp, O, M, hpm, d_p_O, d_m_O, hA⟩ := T
 refine zw (n := 12) ue rfl rfl (by simp) ?_
 have E := Ext.refl w
 refine zb (za (zg (zl rfl) (by decide) (zd (zb (za (zg (zr rfl) (by decide) (zg (does_nep0 ux rfl rfl) (by decide) (zg (zB rfl) (by decide) (zD (j := 2) (pol := true) rfl rfl rfl (by decide) (fun hg => zr rfl) (by decide) (zD (j := 2) (pol := true) rfl rfl rfl (by decide) (fun hg => zH (zq hg)) (by decide) (zD (j := 2) (pol := true) rfl rfl rfl (by decide) (fun hg => zi zaa (zq hg) (o' := 1) rfl) (by decide) (zD (j := 2) (pol := true) rfl rfl rfl (by decide) (fun hg => zm vM (zq hg) (Bp.cell (Tab.get_at_ _))) (by decide) (zD (j := 2) (pol := true) rfl rfl rfl (by decide) (fun hg => does_nem0 vK (zq hg) rfl) (by decide) (zg (xe rfl (fun hp => (zq (xF hp)))) (by decide) (zg (zl rfl) (by decide) (zd (zn ?_)))))))))))))))))
 exact ⟨_, (zS (ze rfl)), rfl, E⟩
theorem xX (w : World) (i : Int) {p : Nat} {N : List Nd} {A : Nat → Prop} (T : TabAt w p N A) : Calls PP ky #[.pointer (some ⟨p, 0, none⟩), .int .i64 i] w fun e w' => ∃ v, e = .returned v ∧ (v = .bool (yR N i) ∧ Ext w w') := by
 obtain ⟨s, m, Bp, O, M, hpm, d_p_O, d_m_O, hA⟩ := T
 refine zw (n := 16) fn_formula_Table_has rfl rfl (by simp) ?_
 have E := Ext.refl w
 refine zb (za (zg (zl rfl) (by decide) (zd (zb (za (zg (zh rfl) (by decide) (zg (vz rfl rfl) (by decide) (zg (zB rfl) (by decide) (zD (j := 2) (pol := true) rfl rfl rfl (by decide) (fun hg => zh rfl) (by decide) (zD (j := 2) (pol := true) rfl rfl rfl (by decide) (fun hg => zr rfl) (by decide) (zD (j := 2) (pol := true) rfl rfl rfl (by decide) (fun hg => zH (zq hg)) (by decide) (zD (j := 2) (pol := true) rfl rfl rfl (by decide) (fun hg => zi vj (zq hg) (o' := 0) rfl) (by decide) (zD (j := 2) (pol := true) rfl rfl rfl (by decide) (fun hg => zm xH (zq hg) (Bp.cell (Tab.get_rows _))) (by decide) (zD (j := 2) (pol := true) rfl rfl rfl (by decide) (fun hg => xG z9 (zq hg) O.toRd) (by decide) (zD (j := 2) (pol := true) rfl rfl rfl (by decide) (fun hg => xm (zq hg) (zq hg)) (by decide) (zg (xe rfl (fun hp => (zq (xF hp)))) (by decide) (zg (zl rfl) (by decide) (zd (zn ?_)))))))))))))))))))
 exact ⟨_, (zS (ze rfl)), rfl, E⟩
theorem formula_Table_Len_ok (w : World) {p : Nat} {N : List Nd} {A : Nat → Prop} (T : TabAt w p N A) : Calls PP u6 #[.pointer (some ⟨p, 0, none⟩)] w fun e w' => ∃ v, e = .returned v ∧ (v = .int .i64 N.length ∧ Ext w w') := by
 obtain ⟨s, m, Bp, O, M, hpm, d_p_O, d_m_O, hA⟩ := T
 refine zw (n := 11) fn_formula_Table_Len rfl rfl (by simp) ?_
 have E := Ext.refl w
 refine zb (za (zg (zf rfl) (by decide) (zd (zb (zb (za (zg (zr rfl) (by decide) ?_)))))))
 refine zu (zo xZ) (by decide) (yL _ (TabAt.mk Bp O M hpm d_p_O d_m_O hA)) ?_
 rintro _ w1 ⟨rfl, h1⟩
 replace Bp := Bp.ext h1
 replace O := O.ext h1
 replace M := M.ext h1
 replace E := E.thenExt h1
 refine zg (xk rfl) (by decide) (zd ?_)
 refine uH rfl (zt (zb (za (zg (zr rfl) (by decide) (zg (zH rfl) (by decide) (zg (zi vj rfl (o' := 0) rfl) (by decide) (zg (zm xH rfl (Bp.cell (Tab.get_rows _))) (by decide) (zg (xG z9 rfl O.toRd) (by decide) (zg (zf rfl) (by decide) (zd (zn ?_)))))))))))
 exact ⟨_, (zS (ze rfl)), rfl, E⟩
theorem formula_Table_Node_ok (w : World) (i : Int) {p : Nat} {N : List Nd} {A : Nat → Prop} (T : TabAt w p N A) : Calls PP uL #[.pointer (some ⟨p, 0, none⟩), .int .i64 i] w fun e w' => ∃ v, e = .returned v ∧ (v = .tuple #[.agg (Nd.C (ju N i).1).toArray, .bool (ju N i).2] ∧ Ext w w') := by
 obtain ⟨s, m, Bp, O, M, hpm, d_p_O, d_m_O, hA⟩ := T
 refine zw (n := 23) fn_formula_Table_Node rfl rfl (by simp) ?_
 have E := Ext.refl w
 refine zb (za ?_)
 refine zP uW (by decide) fun b4 w1 h1 => ?_
 have l_b4 : w.heap.size ≤ b4 := by have := h1.at_; have := E.size; omega
 have o_b4_p : p < b4 := by have := Bp.lt; have := h1.at_; omega
 have d_b4_O : ¬ s.fp b4 := fun e => by have := O.lt _ e; have := h1.at_; omega
 have o_b4_m : m < b4 := by have := M.lt; have := h1.at_; omega
 have B4 := h1.blk
 replace Bp := Bp.ext h1.ext
 replace O := O.ext h1.ext
 replace M := M.ext h1.ext
 replace E := E.thenExt h1.ext
 refine zg (zl rfl) (by decide) (zd (zb (zb (za (zg (zr rfl) (by decide) ?_)))))
 refine zu (zo xZ) (by decide) (yL _ (TabAt.mk Bp O M hpm d_p_O d_m_O hA)) ?_
 rintro _ w2 ⟨rfl, h2⟩
 replace Bp := Bp.ext h2
 replace O := O.ext h2
 replace M := M.ext h2
 replace B4 := B4.ext h2
 replace E := E.thenExt h2
 refine zg (xk rfl) (by decide) (zg (zB rfl) (by decide) (zD (j := 3) (pol := false) rfl rfl rfl (by decide) (fun hg => zr rfl) (by decide) (zD (j := 3) (pol := false) rfl rfl rfl (by decide) (fun hg => zh rfl) (by decide) ?_)))
 refine yI (j := 3) (pol := false) rfl rfl rfl (by decide) (fun hg => zM xW (zO (zq hg) (zO (zq hg) rfl))) (by decide) (fun hg => xX _ _ (TabAt.mk Bp O M hpm d_p_O d_m_O hA)) fun w3 h3 => ?_
 replace Bp := Bp.ext h3
 replace O := O.ext h3
 replace M := M.ext h3
 replace B4 := B4.ext h3
 replace E := E.thenExt h3
 refine zD (j := 3) (pol := false) rfl rfl rfl (by decide) (fun hg => xk (zq hg)) (by decide) (zg (xU rfl (fun hp => (zq (xF hp)))) (by decide) (zd ?_))
 refine zC rfl (fun hc1 => ?_) (fun hc1 => ?_)
 all_goals simp only [Bool.not_true, Bool.false_or, Bool.not_eq_true', Bool.not_eq_false'] at hc1
 ·refine zb (za (zg (xB bu_Nd Bld.nil) (by decide) ?_))
  refine zx ya rfl rfl B4 (Nd.len _) (by rw [Nd.len]; decide) (Nd.one _) (zG (Nd.len _)) fun w4 B h4 z4 => ?_
  replace B4 := B; clear B
  replace Bp := Bp.chg h4 (fun (e : p = b4) => by omega)
  replace O := O.keep h4 (fun i hi (e : i = b4) => d_b4_O (e ▸ hi))
  replace M := M.chg h4 (fun (e : m = b4) => by omega)
  replace E := E.thenChg h4 (fun i hi (e : i = b4) => absurd hi (by omega))
  refine zg (zl rfl) (by decide) (zd (zn ?_))
  exact ⟨.tuple #[.agg (Nd.C Nd.z).toArray, .bool false], (zU (zV ya rfl (B4.all _ (Nd.len _)) (Nd.len _)) (ze rfl)), by rw [node_no hc1], E⟩
 refine zt ?_
 obtain ⟨hr0, hr1, a, ha⟩ := row_of hc1
 refine zb (za (zg (zr rfl) (by decide) (zg (zH rfl) (by decide) (zg (zi vj rfl (o' := 0) rfl) (by decide) (zg (zm xH rfl (Bp.cell (Tab.get_rows _))) (by decide) (zg (zh rfl) (by decide) (zg (zZ z9 rfl rfl O.toRd (by omega) (by omega)) (by decide) (zg (zj ya rfl (O.toRd.at ha) (Nd.len _)) (by decide) ?_))))))))
 refine zx ya rfl rfl B4 (Nd.len _) (by rw [Nd.len]; decide) (Nd.one _) (zG (Nd.len _)) fun w5 B h5 z5 => ?_
 replace B4 := B; clear B
 replace Bp := Bp.chg h5 (fun (e : p = b4) => by omega)
 replace O := O.keep h5 (fun i hi (e : i = b4) => d_b4_O (e ▸ hi))
 replace M := M.chg h5 (fun (e : m = b4) => by omega)
 replace E := E.thenChg h5 (fun i hi (e : i = b4) => absurd hi (by omega))
 refine zg (zl rfl) (by decide) (zd (zn ?_))
 exact ⟨.tuple #[.agg (Nd.C a).toArray, .bool true], (zU (zV ya rfl (B4.all _ (Nd.len _)) (Nd.len _)) (ze rfl)), by rw [node_yes hc1 ha], E⟩
theorem formula_Table_fits_ok (w : World) (n : Nd) {p : Nat} {N : List Nd} {A : Nat → Prop} (T : TabAt w p N A) (hs : n.name.size < 9223372036854775808) : Calls PP kn #[.pointer (some ⟨p, 0, none⟩), .agg n.C.toArray] w fun e w' => ∃ v, e = .returned v ∧ (v = .int .i64 (yU N n) ∧ Ext w w') := by
 obtain ⟨s, m, Bp, O, M, hpm, d_p_O, d_m_O, hA⟩ := T
 refine zw (n := 47) fn_formula_Table_fits rfl rfl (by simp) ?_
 have E := Ext.refl w
 refine zb (za ?_)
 refine zJ rfl (by decide) fun b3 w1 h1 => ?_
 have l_b3 : w.heap.size ≤ b3 := by have := h1.at_; have := E.size; omega
 have o_b3_p : p < b3 := by have := Bp.lt; have := h1.at_; omega
 have d_b3_O : ¬ s.fp b3 := fun e => by have := O.lt _ e; have := h1.at_; omega
 have o_b3_m : m < b3 := by have := M.lt; have := h1.at_; omega
 have B3 := h1.blk
 replace Bp := Bp.ext h1.ext
 replace O := O.ext h1.ext
 replace M := M.ext h1.ext
 replace E := E.thenExt h1.ext
 refine zg (zf rfl) (by decide) (zd (zb (zb (za (zg (zi fl_Nd_kind rfl (o' := 0) rfl) (by decide) (zg (zm y4 rfl (B3.cell (Nd.get_kind _))) (by decide) (zd ?_)))))))
 refine zF (zb (za (zg (zN rfl rfl) (by decide) (zg (zl rfl) (by decide) (zd ?_)))))
 refine zC rfl (fun hc1 => ?_) (fun hc1 => ?_)
 ·refine zb (zb (za (zg (zi yB rfl (o' := 2) rfl) (by decide) (zg (zm zQ rfl (B3.cell (Nd.get_l _))) (by decide) (zg (xc rfl rfl) (by decide) (zg (zB rfl) (by decide) (zD (j := 3) (pol := false) rfl rfl rfl (by decide) (fun hg => zi yk rfl (o' := 3) rfl) (by decide) (zD (j := 3) (pol := false) rfl rfl rfl (by decide) (fun hg => zm zQ (zq hg) (B3.cell (Nd.get_r _))) (by decide) (zD (j := 3) (pol := false) rfl rfl rfl (by decide) (fun hg => xc (zq hg) rfl) (by decide) (zg (xU rfl (fun hp => (zq (xF hp)))) (by decide) (zd ?_)))))))))))
  refine zC rfl (fun hc2 => ?_) (fun hc2 => ?_)
  ·refine zb (za (zg (zf rfl) (by decide) (zd (zn ?_))))
   exact ⟨_, (zS (ze rfl)), congrArg (Value.int .i64) (by unfold yU; first | (simp_all; done) | (rw [if_neg (by omega), if_neg (by omega), if_pos (by omega), if_pos ‹_›])), E⟩
  refine zt (zb (za (zg (zi jo rfl (o' := 1) rfl) (by decide) (zg (zm xY rfl (B3.cell (Nd.get_name _))) (by decide) ?_))))
  refine zu (zo ca_formula_Word) (by decide) (formula_Word_ok _ _ hs) ?_
  rintro _ w2 ⟨rfl, h2⟩
  replace Bp := Bp.ext h2
  replace O := O.ext h2
  replace M := M.ext h2
  replace B3 := B3.ext h2
  replace E := E.thenExt h2
  refine zg (xk rfl) (by decide) (zd ?_)
  refine zC rfl (fun hc3 => ?_) (fun hc3 => ?_)
  ·refine zb (za (zg (zf rfl) (by decide) (zd (zn ?_))))
   exact ⟨_, (zS (ze rfl)), congrArg (Value.int .i64) (by unfold yU; first | (simp_all; done) | (rw [if_neg (by omega), if_neg (by omega), if_pos (by omega), if_pos ‹_›])), E⟩
  refine zt (zb (za (zg (zf rfl) (by decide) (zd (zn ?_)))))
  exact ⟨_, (zS (ze rfl)), congrArg (Value.int .i64) (by unfold yU; first | (simp_all; done) | (rw [if_neg (by omega), if_neg (by omega), if_pos (by omega), if_pos ‹_›])), E⟩
 ·refine zb (za (zg (zN rfl rfl) (by decide) (zg (zl rfl) (by decide) (zd ?_))))
  refine zC rfl (fun hc4 => ?_) (fun hc4 => ?_)
  ·refine zb (za (zg (zj ya rfl (B3.all _ (Nd.len _)) (Nd.len _)) (by decide) (zg (xB bu_Nd (Bld.one rfl rfl (by rw [Nd.len]; decide) (Nd.set_kind _ _) Bld.nil)) (by decide) (zg (does_nev eg_Nd (eq_Nd _ _) (by decide) rfl rfl) (by decide) (zd ?_)))))
   refine zC rfl (fun hc5 => ?_) (fun hc5 => ?_)
   ·refine zb (za (zg (zf rfl) (by decide) (zd (zn ?_))))
    exact ⟨_, (zS (ze rfl)), congrArg (Value.int .i64) (by unfold yU; first | (simp_all; done) | (rw [if_neg (by omega), if_neg (by omega), if_pos (by omega), if_pos ‹_›])), E⟩
   refine zt (zb (za (zg (zf rfl) (by decide) (zd (zn ?_)))))
   exact ⟨_, (zS (ze rfl)), congrArg (Value.int .i64) (by unfold yU; first | (simp_all; done) | (rw [if_neg (by omega), if_neg (by omega), if_pos (by omega), if_pos ‹_›])), E⟩
  ·refine zb (zb (za (zg (zN rfl rfl) (by decide) (zg (zl rfl) (by decide) (zd ?_)))))
   refine zC rfl (fun hc6 => ?_) (fun hc6 => ?_)
   ·refine zt ?_
    refine zC rfl (fun hc7 => ?_) (fun hc7 => ?_)
    rotate_left
    ·refine zb (za (zg (zf rfl) (by decide) (zd (zn ?_))))
     exact ⟨_, (zS (ze rfl)), congrArg (Value.int .i64) (by unfold yU; first | (simp_all; done) | (rw [if_neg (by omega), if_neg (by omega), if_pos (by omega), if_pos ‹_›])), E⟩
    refine zb (za (zg (zi jo rfl (o' := 1) rfl) (by decide) (zg (zm xY rfl (B3.cell (Nd.get_name _))) (by decide) (zg (zbb rfl rfl) (by decide) (zg (zB rfl) (by decide) (zD (j := 3) (pol := false) rfl rfl rfl (by decide) (fun hg => zr rfl) (by decide) (zD (j := 3) (pol := false) rfl rfl rfl (by decide) (fun hg => zi yB rfl (o' := 2) rfl) (by decide) (zD (j := 3) (pol := false) rfl rfl rfl (by decide) (fun hg => zm zQ (zq hg) (B3.cell (Nd.get_l _))) (by decide) ?_))))))))
    refine yI (j := 3) (pol := false) rfl rfl rfl (by decide) (fun hg => zM xW (zO (zq hg) (zO (zq hg) rfl))) (by decide) (fun hg => xX _ _ (TabAt.mk Bp O M hpm d_p_O d_m_O hA)) fun w3 h3 => ?_
    replace Bp := Bp.ext h3
    replace O := O.ext h3
    replace M := M.ext h3
    replace B3 := B3.ext h3
    replace E := E.thenExt h3
    refine zD (j := 3) (pol := false) rfl rfl rfl (by decide) (fun hg => xk (zq hg)) (by decide) (zg (xU rfl (fun hp => (zq (xF hp)))) (by decide) (zg (zB rfl) (by decide) (zD (j := 10) (pol := false) rfl rfl rfl (by decide) (fun hg => zr rfl) (by decide) (zD (j := 10) (pol := false) rfl rfl rfl (by decide) (fun hg => zi yk rfl (o' := 3) rfl) (by decide) (zD (j := 10) (pol := false) rfl rfl rfl (by decide) (fun hg => zm zQ (zq hg) (B3.cell (Nd.get_r _))) (by decide) ?_)))))
    refine yI (j := 10) (pol := false) rfl rfl rfl (by decide) (fun hg => zM xW (zO (zq hg) (zO (zq hg) rfl))) (by decide) (fun hg => xX _ _ (TabAt.mk Bp O M hpm d_p_O d_m_O hA)) fun w4 h4 => ?_
    replace Bp := Bp.ext h4
    replace O := O.ext h4
    replace M := M.ext h4
    replace B3 := B3.ext h4
    replace E := E.thenExt h4
    refine zD (j := 10) (pol := false) rfl rfl rfl (by decide) (fun hg => xk (zq hg)) (by decide) (zg (xU rfl (fun hp => (zq (xF hp)))) (by decide) (zd ?_))
    refine zC rfl (fun hc8 => ?_) (fun hc8 => ?_)
    ·refine zb (za (zg (zf rfl) (by decide) (zd (zn ?_))))
     exact ⟨_, (zS (ze rfl)), congrArg (Value.int .i64) (by unfold yU; first | (simp_all; done) | (rw [if_neg (by omega), if_neg (by omega), if_pos (by omega), if_pos ‹_›])), E⟩
    refine zt (zb (za (zg (zf rfl) (by decide) (zd (zn ?_)))))
    exact ⟨_, (zS (ze rfl)), congrArg (Value.int .i64) (by unfold yU; first | (simp_all; done) | (rw [if_neg (by omega), if_neg (by omega), if_pos (by omega), if_pos ‹_›])), E⟩
   ·refine zb (za (zg (zN rfl rfl) (by decide) (zg (zl rfl) (by decide) (zd ?_))))
    refine zC rfl (fun hc9 => ?_) (fun hc9 => ?_)
    ·refine zt ?_
     refine zC rfl (fun hc10 => ?_) (fun hc10 => ?_)
     rotate_left
     ·refine zb (za (zg (zf rfl) (by decide) (zd (zn ?_))))
      exact ⟨_, (zS (ze rfl)), congrArg (Value.int .i64) (by unfold yU; first | (simp_all; done) | (rw [if_neg (by omega), if_neg (by omega), if_pos (by omega), if_pos ‹_›])), E⟩
     refine zb (za (zg (zi jo rfl (o' := 1) rfl) (by decide) (zg (zm xY rfl (B3.cell (Nd.get_name _))) (by decide) (zg (zbb rfl rfl) (by decide) (zg (zB rfl) (by decide) (zD (j := 3) (pol := false) rfl rfl rfl (by decide) (fun hg => zr rfl) (by decide) (zD (j := 3) (pol := false) rfl rfl rfl (by decide) (fun hg => zi yB rfl (o' := 2) rfl) (by decide) (zD (j := 3) (pol := false) rfl rfl rfl (by decide) (fun hg => zm zQ (zq hg) (B3.cell (Nd.get_l _))) (by decide) ?_))))))))
     refine yI (j := 3) (pol := false) rfl rfl rfl (by decide) (fun hg => zM xW (zO (zq hg) (zO (zq hg) rfl))) (by decide) (fun hg => xX _ _ (TabAt.mk Bp O M hpm d_p_O d_m_O hA)) fun w5 h5 => ?_
     replace Bp := Bp.ext h5
     replace O := O.ext h5
     replace M := M.ext h5
     replace B3 := B3.ext h5
     replace E := E.thenExt h5
     refine zD (j := 3) (pol := false) rfl rfl rfl (by decide) (fun hg => xk (zq hg)) (by decide) (zg (xU rfl (fun hp => (zq (xF hp)))) (by decide) (zg (zB rfl) (by decide) (zD (j := 10) (pol := false) rfl rfl rfl (by decide) (fun hg => zr rfl) (by decide) (zD (j := 10) (pol := false) rfl rfl rfl (by decide) (fun hg => zi yk rfl (o' := 3) rfl) (by decide) (zD (j := 10) (pol := false) rfl rfl rfl (by decide) (fun hg => zm zQ (zq hg) (B3.cell (Nd.get_r _))) (by decide) ?_)))))
     refine yI (j := 10) (pol := false) rfl rfl rfl (by decide) (fun hg => zM xW (zO (zq hg) (zO (zq hg) rfl))) (by decide) (fun hg => xX _ _ (TabAt.mk Bp O M hpm d_p_O d_m_O hA)) fun w6 h6 => ?_
     replace Bp := Bp.ext h6
     replace O := O.ext h6
     replace M := M.ext h6
     replace B3 := B3.ext h6
     replace E := E.thenExt h6
     refine zD (j := 10) (pol := false) rfl rfl rfl (by decide) (fun hg => xk (zq hg)) (by decide) (zg (xU rfl (fun hp => (zq (xF hp)))) (by decide) (zd ?_))
     refine zC rfl (fun hc11 => ?_) (fun hc11 => ?_)
     ·refine zb (za (zg (zf rfl) (by decide) (zd (zn ?_))))
      exact ⟨_, (zS (ze rfl)), congrArg (Value.int .i64) (by unfold yU; first | (simp_all; done) | (rw [if_neg (by omega), if_neg (by omega), if_pos (by omega), if_pos ‹_›])), E⟩
     refine zt (zb (za (zg (zf rfl) (by decide) (zd (zn ?_)))))
     exact ⟨_, (zS (ze rfl)), congrArg (Value.int .i64) (by unfold yU; first | (simp_all; done) | (rw [if_neg (by omega), if_neg (by omega), if_pos (by omega), if_pos ‹_›])), E⟩
    ·refine za (zg (zN rfl rfl) (by decide) (zg (zl rfl) (by decide) (zd ?_)))
     refine zC rfl (fun hc12 => ?_) (fun hc12 => ?_)
     rotate_left
     ·refine zb (za (zg (zf rfl) (by decide) (zd (zn ?_))))
      exact ⟨_, (zS (ze rfl)), congrArg (Value.int .i64) (by unfold yU; first | (simp_all; done) | (rw [if_neg (by omega), if_neg (by omega), if_pos (by omega), if_pos ‹_›])), E⟩
     refine zb (za (zg (zi jo rfl (o' := 1) rfl) (by decide) (zg (zm xY rfl (B3.cell (Nd.get_name _))) (by decide) (zg (zbb rfl rfl) (by decide) (zg (zB rfl) (by decide) (zD (j := 3) (pol := false) rfl rfl rfl (by decide) (fun hg => zr rfl) (by decide) (zD (j := 3) (pol := false) rfl rfl rfl (by decide) (fun hg => zi yB rfl (o' := 2) rfl) (by decide) (zD (j := 3) (pol := false) rfl rfl rfl (by decide) (fun hg => zm zQ (zq hg) (B3.cell (Nd.get_l _))) (by decide) ?_))))))))
     refine yI (j := 3) (pol := false) rfl rfl rfl (by decide) (fun hg => zM xW (zO (zq hg) (zO (zq hg) rfl))) (by decide) (fun hg => xX _ _ (TabAt.mk Bp O M hpm d_p_O d_m_O hA)) fun w7 h7 => ?_
     replace Bp := Bp.ext h7
     replace O := O.ext h7
     replace M := M.ext h7
     replace B3 := B3.ext h7
     replace E := E.thenExt h7
     refine zD (j := 3) (pol := false) rfl rfl rfl (by decide) (fun hg => xk (zq hg)) (by decide) (zg (xU rfl (fun hp => (zq (xF hp)))) (by decide) (zg (zB rfl) (by decide) (zD (j := 10) (pol := false) rfl rfl rfl (by decide) (fun hg => zr rfl) (by decide) (zD (j := 10) (pol := false) rfl rfl rfl (by decide) (fun hg => zi yk rfl (o' := 3) rfl) (by decide) (zD (j := 10) (pol := false) rfl rfl rfl (by decide) (fun hg => zm zQ (zq hg) (B3.cell (Nd.get_r _))) (by decide) ?_)))))
     refine yI (j := 10) (pol := false) rfl rfl rfl (by decide) (fun hg => zM xW (zO (zq hg) (zO (zq hg) rfl))) (by decide) (fun hg => xX _ _ (TabAt.mk Bp O M hpm d_p_O d_m_O hA)) fun w8 h8 => ?_
     replace Bp := Bp.ext h8
     replace O := O.ext h8
     replace M := M.ext h8
     replace B3 := B3.ext h8
     replace E := E.thenExt h8
     refine zD (j := 10) (pol := false) rfl rfl rfl (by decide) (fun hg => xk (zq hg)) (by decide) (zg (xU rfl (fun hp => (zq (xF hp)))) (by decide) (zd ?_))
     refine zC rfl (fun hc13 => ?_) (fun hc13 => ?_)
     ·refine zb (za (zg (zf rfl) (by decide) (zd (zn ?_))))
      exact ⟨_, (zS (ze rfl)), congrArg (Value.int .i64) (by unfold yU; first | (simp_all; done) | (rw [if_neg (by omega), if_neg (by omega), if_pos (by omega), if_pos ‹_›])), E⟩
     refine zt (zb (za (zg (zf rfl) (by decide) (zd (zn ?_)))))
     exact ⟨_, (zS (ze rfl)), congrArg (Value.int .i64) (by unfold yU; first | (simp_all; done) | (rw [if_neg (by omega), if_neg (by omega), if_pos (by omega), if_pos ‹_›])), E⟩
theorem kf (w : World) (n : Nd) {p : Nat} {N : List Nd} {A : Nat → Prop} (T : TabAt w p N A) (hs : n.name.size < 9223372036854775808) (hN : N.length ≤ 1024) : Calls PP uX #[.pointer (some ⟨p, 0, none⟩), .agg n.C.toArray] w fun e w' => ∃ v, e = .returned v ∧ (∃ A', v = .tuple #[.int .i64 (putS N n).2.1, .int .i64 (putS N n).2.2] ∧ TabAt w' p (putS N n).1 A' ∧ Chg A w w' ∧ (∀ i, A' i → A i ∨ w.heap.size ≤ i)) := by
 obtain ⟨s, m, Bp, O, M, hpm, d_p_O, d_m_O, hA⟩ := T
 refine zw (n := 54) fn_formula_Table_Put rfl rfl (by simp) ?_
 have E := Ext.refl w
 refine zb (za ?_)
 refine zJ rfl (by decide) fun b3 w1 h1 => ?_
 have l_b3 : w.heap.size ≤ b3 := by have := h1.at_; have := E.size; omega
 have o_b3_p : p < b3 := by have := Bp.lt; have := h1.at_; omega
 have d_b3_O : ¬ s.fp b3 := fun e => by have := O.lt _ e; have := h1.at_; omega
 have o_b3_m : m < b3 := by have := M.lt; have := h1.at_; omega
 have B3 := h1.blk
 replace Bp := Bp.ext h1.ext
 replace O := O.ext h1.ext
 replace M := M.ext h1.ext
 replace E := E.thenExt h1.ext
 refine zg (zf rfl) (by decide) (zg (zf rfl) (by decide) (zd (zb (zb (za (zg (zr rfl) (by decide) ?_))))))
 refine zu (zo xZ) (by decide) (yL _ (TabAt.mk Bp O M hpm d_p_O d_m_O hA)) ?_
 rintro _ w2 ⟨rfl, h2⟩
 replace Bp := Bp.ext h2
 replace O := O.ext h2
 replace M := M.ext h2
 replace B3 := B3.ext h2
 replace E := E.thenExt h2
 refine zg (xk rfl) (by decide) (zd ?_)
 refine uH rfl (zt (zb (zb (za (zg (zr rfl) (by decide) (zg (zj ya rfl (B3.all _ (Nd.len _)) (Nd.len _)) (by decide) ?_))))))
 refine zu (zo ca_formula_Table_fits) (by decide) (formula_Table_fits_ok _ _ (TabAt.mk Bp O M hpm d_p_O d_m_O hA) hs) ?_
 rintro _ w3 ⟨rfl, h3⟩
 replace Bp := Bp.ext h3
 replace O := O.ext h3
 replace M := M.ext h3
 replace B3 := B3.ext h3
 replace E := E.thenExt h3
 refine zg (zf rfl) (by decide) (zd (zb (za (zg (zh rfl) (by decide) (zg (xc rfl rfl) (by decide) (zd ?_))))))
 refine zC rfl (fun hc2 => ?_) (fun hc2 => ?_)
 all_goals try simp only [decide_eq_true_eq, decide_eq_false_iff_not, Bool.and_eq_true, Bool.or_eq_true, Bool.and_eq_false_iff, Bool.or_eq_false_iff, Bool.not_eq_true', Bool.not_eq_false', Int.not_lt, Int.not_le, ne_eq, Decidable.not_not] at hc2
 ·refine zb (za (zg (zh rfl) (by decide) (zg (zf rfl) (by decide) (zg (zf rfl) (by decide) (zd (zn ?_))))))
  exact ⟨.tuple #[.int .i64 0, .int .i64 (yU N n)], (zU (ze rfl) (ze rfl)), A, by rw [put_bad hc2], by rw [put_bad hc2]; exact TabAt.mk Bp O M hpm d_p_O d_m_O hA, E.mono (fun _ _ x => x.elim), fun i h => .inl h⟩
 refine zt (zb (zb ?_))
 refine yn 10 (Ext w3) hmix (by kernel_rfl) (by kernel_rfl) (Ext.drawn _) (zy (fun v K => zr rfl) (zy (fun v K => zH rfl) (zy (fun v K => zi zaa rfl (o' := 1) rfl) (zy (fun v K => zm vM rfl ((Bp.ext K).cell (Tab.get_at_ _))) (zy (fun v K => zj ya rfl ((B3.ext K).all _ (Nd.len _)) (Nd.len _)) (zy (fun v K => does_lookup_ok vK key_Nd zv_int rfl rfl (M.ext K)) (zy (fun v K => zK rfl) (zy (fun v K => zk rfl rfl) (zy (fun v K => zk rfl rfl) (zy (fun v K => zf rfl) ?_))))))))))
 refine vt fun w4 K => ?_
 replace Bp := Bp.ext K
 replace O := O.ext K
 replace M := M.ext K
 replace B3 := B3.ext K
 replace E := E.thenExt K
 clear K
 refine zg (zl rfl) (by decide) (zd (zb (za (zg (zB rfl) (by decide) (zd ?_)))))
 refine zC rfl (fun hc3 => ?_) (fun hc3 => ?_)
 all_goals skip
 ·refine zb (za (zg (zh rfl) (by decide) (zg (zf rfl) (by decide) (zg (zf rfl) (by decide) (zd (zn ?_))))))
  rw [look_rows] at hc3
  obtain ⟨k, hk⟩ : ∃ k, N.idxOf? n = some k := by cases hq : N.idxOf? n with | none => rw [hq] at hc3; cases hc3 | some k => exact ⟨k, rfl⟩
  exact ⟨.tuple #[.int .i64 ((Gw.look n (N.zipIdx.map fun q => (q.1, (q.2 : Int)))).getD 0), .int .i64 0], (zU (ze rfl) (ze rfl)), A, by rw [put_old hc2 hk, look_rows, hk]; rfl, by rw [put_old hc2 hk]; exact TabAt.mk Bp O M hpm d_p_O d_m_O hA, E.mono (fun _ _ x => x.elim), fun i h => .inl h⟩
 refine zt (zb (za (zg (zr rfl) (by decide) (zg (zH rfl) (by decide) (zg (zi vj rfl (o' := 0) rfl) (by decide) (zg (zm xH rfl (Bp.cell (Tab.get_rows _))) (by decide) (zg (xG z9 rfl O.toRd) (by decide) (zg (zf rfl) (by decide) (zd (zb (zb (za (zg (zh rfl) (by decide) (zg (vz rfl rfl) (by decide) (zd ?_)))))))))))))))
 refine zC rfl (fun hc4 => ?_) (fun hc4 => ?_)
 all_goals try simp only [decide_eq_true_eq, decide_eq_false_iff_not, Bool.and_eq_true, Bool.or_eq_true, Bool.and_eq_false_iff, Bool.or_eq_false_iff, Bool.not_eq_true', Bool.not_eq_false', Int.not_lt, Int.not_le, ne_eq, Decidable.not_not] at hc4
 ·refine zb (za (zg (zf rfl) (by decide) (zg (zf rfl) (by decide) (zd (zn ?_)))))
  have hk := idx_none hc3
  exact ⟨.tuple #[.int .i64 0, .int .i64 30], (zU (ze rfl) (ze rfl)), A, by rw [zbi hc2 hk (by omega)], by rw [zbi hc2 hk (by omega)]; exact TabAt.mk Bp O M hpm d_p_O d_m_O hA, E.mono (fun _ _ x => x.elim), fun i h => .inl h⟩
 refine zt (zb ?_)
 have hszO := E.size
 refine wc_draw 8 ⟨fun L v => Chg s.fp w4 v ∧ (L 7 = false → Ext w4 v), fun L a b => Chg s.fp a b ∧ (L 7 = true → Ext a b), fun i v u => match i with
  | 0 => v = Value.pointer (some ⟨p, 0, none⟩)
  | 1 => v = Value.pointer (some ⟨p, 0, none⟩)
  | 2 => v = Value.pointer (some ⟨p, 0, none⟩)
  | 3 => v = Value.pointer (some ⟨p, 0, none⟩)
  | 4 => v = s.v
  | 5 => v = .agg n.C.toArray
  | 6 => ∃ b sl, v = SlV.v sl ∧ sl = ⟨some ⟨b, 0, none⟩, 1, 1⟩ ∧ Blk u b T_Nd (Nd.C n) ∧ ¬ s.fp b
  | 7 => ∃ s', v = SlV.v s' ∧ Own u 0 T_Nd 4 s' ((N ++ [n]).map Nd.C) ∧ ∀ i, s'.fp i → s.fp i ∨ w4.heap.size ≤ i
  | _ => True⟩ hmix (by kernel_rfl) ?_ ⟨(Ext.drawn _).mono (fun _ _ x => x.elim), fun _ => Ext.drawn _⟩ ⟨?_, ?_, ?_, ?_, ?_, ?_, ?_, ?_, trivial⟩ ?_
 ·intro L i v a b hLi hle hv
  match i, hLi, hv with
  | 0, _, hv => exact hv
  | 1, _, hv => exact hv
  | 2, _, hv => exact hv
  | 3, _, hv => exact hv
  | 4, _, hv => exact hv
  | 5, _, hv => exact hv
  | 6, _, ⟨b, sl, e1, e2, hb, hn⟩ => exact ⟨b, sl, e1, e2, hb.chg hle.1 hn, hn⟩
  | 7, hLi, ⟨s', e1, ho, hg⟩ => exact ⟨s', e1, ho.ext (hle.2 hLi), hg⟩
  | _ + 8, _, _ => exact trivial
 ·rintro L g v hL hT 
  refine zg (zr rfl) (by decide) (zd (ob ⟨hT.1, fun h => hT.2 h⟩ ⟨Chg.refl _ _, fun _ => Ext.refl _⟩ rfl))
 ·rintro L g v hL hT 
  refine zg (zr rfl) (by decide) (zd (ob ⟨hT.1, fun h => hT.2 h⟩ ⟨Chg.refl _ _, fun _ => Ext.refl _⟩ rfl))
 ·rintro L g v hL hT hv1
  refine zg (zH hv1) (by decide) (zd (ob ⟨hT.1, fun h => hT.2 h⟩ ⟨Chg.refl _ _, fun _ => Ext.refl _⟩ rfl))
 ·rintro L g v hL hT hv2
  refine zg (zi vj hv2 (o' := 0) rfl) (by decide) (zd (ob ⟨hT.1, fun h => hT.2 h⟩ ⟨Chg.refl _ _, fun _ => Ext.refl _⟩ rfl))
 ·rintro L g v hL hT hv3
  refine zg (zm xH hv3 ((Bp.chg hT.1 d_p_O).cell (Tab.get_rows _))) (by decide) (zd (ob ⟨hT.1, fun h => hT.2 h⟩ ⟨Chg.refl _ _, fun _ => Ext.refl _⟩ rfl))
 ·rintro L g v hL hT 
  refine zg (zj ya rfl ((B3.chg hT.1 d_b3_O).all _ (Nd.len _)) (Nd.len _)) (by decide) (zd (ob ⟨hT.1, fun h => hT.2 h⟩ ⟨Chg.refl _ _, fun _ => Ext.refl _⟩ rfl))
 ·rintro L g v hL hT hv5
  refine wl_lit1 z9 el_Nd.zero hv5 rfl (Nd.len _) (by decide) (by decide) fun b v' sl hn hq => zd (ob ⟨hT.1.thenExt hn.ext, fun h => (hT.2 h).trans hn.ext⟩ ⟨hn.ext.mono (fun _ _ x => x.elim), fun _ => hn.ext⟩ ⟨b, sl, rfl, hq, hn.blk, fun e => by have := O.lt _ e; have := hn.at_; have := hT.1.size; omega⟩)
 ·rintro L g v hL hT hv4 ⟨b, sl, hv6, hq, hb, hnb⟩
  refine wl_push (C := Nd.C) z9 el_Nd hv4 hv6 (O.ext (hT.2 hL)) hb hq (Nd.len _) (Nd.one _) (by (try simp only [List.length_map, List.length_append, List.length_nil]); omega) (by (try simp only [List.length_map, List.length_append, List.length_nil]); omega) (by decide) fun s' v' ho hc hg => zd (ob ⟨hT.1.trans hc, fun h => (by cases h)⟩ ⟨hc, fun h => (by rw [hL] at h; cases h)⟩ ⟨s', rfl, ho, fun i e => (hg i e).imp id (fun h => Nat.le_trans hT.1.size h)⟩)
 rintro L g w5 hLm hT hv0 hv1 hv2 hv3 hv4 hv5 ⟨b, sl, hv6, hq, hb, hnb⟩ ⟨s44, hv7, O44, g5⟩
 have hcw5 := hT.1
 have d_p_O44 : ¬ s44.fp p := fun e => (g5 _ e).elim d_p_O (fun e => by have := Bp.lt; omega)
 have d_m_O44 : ¬ s44.fp m := fun e => (g5 _ e).elim d_m_O (fun e => by have := M.lt; omega)
 have d_b3_O44 : ¬ s44.fp b3 := fun e => (g5 _ e).elim d_b3_O (fun e => by have := B3.lt; omega)
 replace Bp := Bp.chg hcw5 d_p_O
 replace M := M.chg hcw5 d_m_O
 replace B3 := B3.chg hcw5 d_b3_O
 replace E : Chg A w w4 := E.mono (fun _ _ x => x.elim)
 replace E := E.thenChg hcw5 (fun i hi e => (hA i).2 (.inr (.inr e)))
 refine zg (zH hv0) (by decide) (zg (zi vj rfl (o' := 0) rfl) (by decide) ?_)
 refine xi xH rfl hv7 Bp (by rw [Tab.len]; decide) (SlV.one _ _ rfl) (Tab.set_rows _ _) fun w6 B h6 z6 => ?_
 replace Bp := B; clear B
 replace M := M.chg h6 (fun (e : m = p) => by omega)
 replace B3 := B3.chg h6 (fun (e : b3 = p) => by omega)
 replace O44 := O44.keep h6 (fun i hi (e : i = p) => d_p_O44 (e ▸ hi))
 replace E := E.thenChg h6 (fun i hi (e : i = p) => (hA i).2 (.inl e))
 refine zd (zb ?_)
 refine yn 6 (Ext w6) hmix (by kernel_rfl) (by kernel_rfl) (Ext.drawn _) (zy (fun v K => zr rfl) (zy (fun v K => zH rfl) (zy (fun v K => zi zaa rfl (o' := 1) rfl) (zy (fun v K => zm vM rfl ((Bp.ext K).cell (Tab.get_at_ _))) (zy (fun v K => zj ya rfl ((B3.ext K).all _ (Nd.len _)) (Nd.len _)) (zy (fun v K => zh rfl) ?_))))))
 refine vt fun w7 K => ?_
 replace Bp := Bp.ext K
 replace M := M.ext K
 replace B3 := B3.ext K
 replace O44 := O44.ext K
 replace E := E.thenExt K
 clear K
 refine wl_mapUpdate (D := Value.int .i64) vK key_Nd rfl rfl rfl M fun w8 B h8 z8 => ?_
 replace M := B; clear B
 replace Bp := Bp.chg h8 (fun (e : p = m) => by omega)
 replace B3 := B3.chg h8 (fun (e : b3 = m) => by omega)
 replace O44 := O44.keep h8 (fun i hi (e : i = m) => d_m_O44 (e ▸ hi))
 replace E := E.thenChg h8 (fun i hi (e : i = m) => (hA i).2 (.inr (.inl e)))
 refine zd (zb (za (zg (zh rfl) (by decide) (zg (zf rfl) (by decide) (zg (zf rfl) (by decide) (zd (zn ?_)))))))
 have hk := idx_none hc3
 rw [ins_rows hk] at M
 exact ⟨.tuple #[.int .i64 N.length, .int .i64 0], (zU (ze rfl) (ze rfl)), fun i => i = p ∨ i = m ∨ s44.fp i, by rw [put_new hc2 hk (by omega)], by rw [put_new hc2 hk (by omega)]; exact TabAt.mk Bp O44 M hpm d_p_O44 d_m_O44 (fun i => Iff.rfl), E, fun i h => by
   rcases h with h | h | h
   ·exact .inl ((hA i).2 (.inl h))
   ·exact .inl ((hA i).2 (.inr (.inl h)))
   ·rcases g5 i h with h | h
    ·exact .inl ((hA i).2 (.inr (.inr h)))
    ·exact .inr (by have := hszO; omega)⟩
end Go.Proofs.YtjebgcoknpcadaaGreatDoor
end
section
namespace Go.Proofs.YtjebgcoknpcadaaGreatDoor
open Gw Go.RowKit
def impN (a b : Int) : Nd := ⟨5, ⟨#[]⟩, a, b⟩
theorem empty_small : (⟨#[]⟩ : ByteArray).size < 9223372036854775808 := by decide
theorem put_len {N : List Nd} {n : Nd} (h : N.length ≤ 1024) : (putS N n).1.length ≤ 1024 := by
 unfold putS
 split
 ·split
  ·exact h
  ·split
   ·exact h
   ·simp; omega
 ·exact h
theorem formula_Table_Imp_ok (w : World) (a b : Int) {p : Nat} {N : List Nd} {A : Nat → Prop} (T : TabAt w p N A) (hN : N.length ≤ 1024) : Calls PP uZ #[.pointer (some ⟨p, 0, none⟩), .int .i64 a, .int .i64 b] w fun e w' => ∃ v, e = .returned v ∧ (∃ A', v = .tuple #[.int .i64 (putS N (impN a b)).2.1, .int .i64 (putS N (impN a b)).2.2] ∧ TabAt w' p (putS N (impN a b)).1 A' ∧ Chg A w w' ∧ (∀ i, A' i → A i ∨ w.heap.size ≤ i)) := by
 have n_T : ∀ i, A i → A i ∨ w.heap.size ≤ i := fun i e => .inl e
 refine zw (n := 15) fn_formula_Table_Imp rfl rfl (by simp) ?_
 have E := Ext.refl w
 refine zb ?_
 refine za ?_
 refine zg (zf rfl) (by decide) ?_
 refine zg (zf rfl) (by decide) ?_
 refine zd ?_
 refine zb ?_
 refine za ?_
 refine zg (zr rfl) (by decide) ?_
 refine zg (zh rfl) (by decide) ?_
 refine zg (zh rfl) (by decide) ?_
 refine zg (xB bu_Nd (Bld.one rfl rfl (by rw [Nd.len]; decide) (Nd.set_kind _ _) (Bld.one rfl rfl (by rw [Nd.len]; decide) (Nd.set_l _ _) (Bld.one rfl rfl (by rw [Nd.len]; decide) (Nd.set_r _ _) Bld.nil)))) (by decide) ?_
 refine zu (zo kc) (by decide) (kf _ (impN a b) T empty_small hN) ?_
 rintro _ w1 ⟨A1, rfl, T2, h1, g1⟩
 have n2 : ∀ i, A1 i → A i ∨ w.heap.size ≤ i := fun i e => (g1 _ e).elim (n_T i) (fun e => .inr (by have := E.size; omega))
 replace E : Chg A w w := E.mono (fun _ _ x => x.elim)
 replace E := E.thenChg h1 (fun i hi e => (n_T i e).elim id (fun q => absurd hi (by omega)))
 replace T := T2; replace n_T := n2; clear T2 n2
 refine zg (zk rfl rfl) (by decide) ?_
 refine zg (zk rfl rfl) (by decide) ?_
 refine zg (zf rfl) (by decide) ?_
 refine zg (zf rfl) (by decide) ?_
 refine zd ?_
 refine zn ?_
 exact ⟨_, (zU (ze rfl) (ze rfl)), A1, rfl, T, E, n_T⟩
end Go.Proofs.YtjebgcoknpcadaaGreatDoor
end
section
namespace Go.Proofs.YtjebgcoknpcadaaGreatDoor
open Gw Go.RowKit
theorem zbc (w : World) : Calls PP yV #[.pointer none] w fun e w' => ∃ v, e = .returned v ∧ (v = .bool false ∧ Ext w w') := by
 refine zw (n := 12) ue rfl rfl (by simp) ?_
 have E := Ext.refl w
 refine zb ?_
 refine za ?_
 refine zg (zl rfl) (by decide) ?_
 refine zd ?_
 refine zb ?_
 refine za ?_
 refine zg (zr rfl) (by decide) ?_
 refine zg (does_nep0 ux rfl rfl) (by decide) ?_
 refine zg (zB rfl) (by decide) ?_
 refine zD (j := 2) (pol := true) rfl rfl rfl (by decide) (fun hg => zr rfl) (by decide) ?_
 refine zD (j := 2) (pol := true) rfl rfl rfl (by decide) (fun hg => absurd hg (by decide)) (by decide) ?_ (v := .bool false)
 refine zD (j := 2) (pol := true) rfl rfl rfl (by decide) (fun hg => absurd hg (by decide)) (by decide) ?_ (v := .bool false)
 refine zD (j := 2) (pol := true) rfl rfl rfl (by decide) (fun hg => absurd hg (by decide)) (by decide) ?_ (v := .bool false)
 refine zD (j := 2) (pol := true) rfl rfl rfl (by decide) (fun hg => absurd hg (by decide)) (by decide) ?_ (v := .bool false)
 refine zg (xe (x := false) rfl (fun hp => absurd hp (by decide))) (by decide) ?_
 refine zg (zl rfl) (by decide) ?_
 refine zd ?_
 refine zn ?_
 exact ⟨_, (zS (ze rfl)), rfl, E⟩
theorem zaF (w : World) {p : Nat} (Bp : Blk w p kj (Tab.C Tab.z)) : Calls PP yV #[.pointer (some ⟨p, 0, none⟩)] w fun e w' => ∃ v, e = .returned v ∧ (v = .bool false ∧ Ext w w') := by
 refine zw (n := 12) ue rfl rfl (by simp) ?_
 have E := Ext.refl w
 refine zb ?_
 refine za ?_
 refine zg (zl rfl) (by decide) ?_
 refine zd ?_
 refine zb ?_
 refine za ?_
 refine zg (zr rfl) (by decide) ?_
 refine zg (does_nep0 ux rfl rfl) (by decide) ?_
 refine zg (zB rfl) (by decide) ?_
 refine zD (j := 2) (pol := true) rfl rfl rfl (by decide) (fun hg => zr rfl) (by decide) ?_
 refine zD (j := 2) (pol := true) rfl rfl rfl (by decide) (fun hg => zH (zq hg)) (by decide) ?_
 refine zD (j := 2) (pol := true) rfl rfl rfl (by decide) (fun hg => zi zaa (zq hg) (o' := 1) rfl) (by decide) ?_
 refine zD (j := 2) (pol := true) rfl rfl rfl (by decide) (fun hg => zm vM (zq hg) (Bp.cell (Tab.get_at_ _))) (by decide) ?_
 refine zD (j := 2) (pol := true) rfl rfl rfl (by decide) (fun hg => does_nem0 vK (zq hg) rfl) (by decide) ?_
 refine zg (xe rfl (fun hp => (zq (xF hp)))) (by decide) ?_
 refine zg (zl rfl) (by decide) ?_
 refine zd ?_
 refine zn ?_
 exact ⟨_, (zS (ze rfl)), rfl, E⟩
def Dead (w : World) (a : Option Addr) : Prop := a = none ∨ ∃ p, a = some ⟨p, 0, none⟩ ∧ Blk w p kj (Tab.C Tab.z)
theorem jb (w : World) {a : Option Addr} (D : Dead w a) : Calls PP yV #[.pointer a] w fun e w' => ∃ v, e = .returned v ∧ (v = .bool false ∧ Ext w w') := by
 rcases D with rfl | ⟨p, rfl, B⟩
 ·exact zbc w
 ·exact zaF w B
theorem formula_Table_Not_dead (w : World) {a : Option Addr} (i : Int) (D : Dead w a) : Calls PP vV #[.pointer a, .int .i64 i] w fun e w' => ∃ v, e = .returned v ∧ (v = .tuple #[.int .i64 0, .int .i64 1] ∧ Ext w w') := by
 refine zw (n := 31) j8 rfl rfl (by simp) ?_
 have E := Ext.refl w
 refine zb ?_
 refine za ?_
 refine zg (zf rfl) (by decide) ?_
 refine zg (zf rfl) (by decide) ?_
 refine zd ?_
 refine zb ?_
 refine zF ?_
 refine zb ?_
 refine za ?_
 refine zg (zr rfl) (by decide) ?_
 refine zu (zo xZ) (by decide) (jb _ D) ?_
 rintro _ w1 ⟨rfl, h1⟩
 replace E := E.thenExt h1
 refine zg (xk rfl) (by decide) ?_
 refine zg (zl rfl) (by decide) ?_
 refine zd ?_
 refine vI rfl ?_
 refine zb ?_
 refine za ?_
 refine zg (zf rfl) (by decide) ?_
 refine zg (zf rfl) (by decide) ?_
 refine zd ?_
 refine zn ?_
 exact ⟨_, (zU (ze rfl) (ze rfl)), rfl, E⟩
theorem zaz (w : World) {p : Nat} {N : List Nd} {A : Nat → Prop} (T : TabAt w p N A) : Calls PP vV #[.pointer (some ⟨p, 0, none⟩), .int .i64 (-1)] w fun e w' => ∃ v, e = .returned v ∧ (v = .tuple #[.int .i64 0, .int .i64 31] ∧ Ext w w') := by
 refine zw (n := 31) j8 rfl rfl (by simp) ?_
 have E := Ext.refl w
 refine zb ?_
 refine za ?_
 refine zg (zf rfl) (by decide) ?_
 refine zg (zf rfl) (by decide) ?_
 refine zd ?_
 refine zb ?_
 refine zF ?_
 refine zb ?_
 refine za ?_
 refine zg (zr rfl) (by decide) ?_
 refine zu (zo xZ) (by decide) (yL _ T) ?_
 rintro _ w1 ⟨rfl, h1⟩
 replace T := T.ext h1
 replace E := E.thenExt h1
 refine zg (xk rfl) (by decide) ?_
 refine zg (zl rfl) (by decide) ?_
 refine zd ?_
 refine uH rfl ?_
 refine zb ?_
 refine za ?_
 refine zg (zr rfl) (by decide) ?_
 refine zg (zh rfl) (by decide) ?_
 refine zu (zo xW) (by decide) (xX _ _ T) ?_
 rintro _ w2 ⟨rfl, h2⟩
 replace T := T.ext h2
 replace E := E.thenExt h2
 refine zg (xk rfl) (by decide) ?_
 refine zg (zl rfl) (by decide) ?_
 refine zd ?_
 refine vI (c := _) (congrArg Value.bool (show (!yR N (-1)) = true by simp [yR])) ?_
 refine zb ?_
 refine za ?_
 refine zg (zf rfl) (by decide) ?_
 refine zg (zf rfl) (by decide) ?_
 refine zd ?_
 refine zn ?_
 exact ⟨_, (zU (ze rfl) (ze rfl)), rfl, E⟩
end Go.Proofs.YtjebgcoknpcadaaGreatDoor
end
section
namespace Go.Proofs.YtjebgcoknpcadaaGreatDoor
open Go.RowKit
namespace Gw
structure OA where
 holds : World → (Nat → Prop) → Prop
 loc : ∀ {S : Nat → Prop} {w w' : World} {F : Nat → Prop}, holds w F → Chg S w w' → (∀ i, F i → ¬ S i) → holds w' F
 lt : ∀ {w : World} {F : Nat → Prop}, holds w F → ∀ i, F i → i < w.heap.size
def Sep (w : World) : (Nat → Prop) → List OA → Prop
 | _, [] => True
 | U, a :: L => ∃ F, a.holds w F ∧ (∀ i, F i → U i) ∧ Sep w (fun i => U i ∧ ¬ F i) L
theorem Sep.mono {w : World} : ∀ {L : List OA} {U V : Nat → Prop}, Sep w U L → (∀ i, U i → V i) → Sep w V L
 | [], _, _, _, _ => trivial
 | _ :: _, _, _, ⟨F, h, hF, hL⟩, hv => ⟨F, h, fun i hi => hv i (hF i hi), hL.mono fun i hi => ⟨hv i hi.1, hi.2⟩⟩
theorem Sep.chg {S : Nat → Prop} {w w' : World} (hc : Chg S w w') : ∀ {L : List OA} {U : Nat → Prop}, Sep w U L → (∀ i, U i → ¬ S i) → Sep w' U L
 | [], _, _, _ => trivial
 | a :: _, _, ⟨F, h, hF, hL⟩, hs => ⟨F, a.loc h hc (fun i hi => hs i (hF i hi)), hF, Sep.chg hc hL fun i hi => hs i hi.1⟩
theorem Sep.front {w : World} : ∀ {L : List OA} {U : Nat → Prop} (k : Nat) {a : OA}, Sep w U L → L[k]? = some a → Sep w U (a :: L.eraseIdx k)
 | [], _, _, _, _, h => by simp at h
 | _ :: _, _, 0, _, h, e => by simp at e; subst e; simpa using h
 | b :: L, U, k + 1, a, ⟨F, h, hF, hL⟩, e => by
  obtain ⟨G, g, hG, hR⟩ := hL.front k (by simpa using e)
  refine ⟨G, g, fun i hi => (hG i hi).1, F, h, fun i hi => ⟨hF i hi, fun hg => (hG i hg).2 hi⟩, ?_⟩
  exact hR.mono fun i hi => ⟨⟨hi.1.1, hi.2⟩, hi.1.2⟩
theorem Sep.split {w : World} : ∀ {P R : List OA} {U : Nat → Prop}, Sep w U (P ++ R) → ∃ A, (∀ i, A i → U i ∧ i < w.heap.size) ∧ Sep w A P ∧ Sep w (fun i => U i ∧ ¬ A i) R
 | [], _, _, h => ⟨fun _ => False, fun _ x => x.elim, trivial, h.mono fun i hi => ⟨hi, fun x => x⟩⟩
 | a :: P, R, U, ⟨F, h, hF, hL⟩ => by
  obtain ⟨A, hA, hP, hR⟩ := Sep.split (P := P) (R := R) hL
  refine ⟨fun i => F i ∨ A i, fun i hi => hi.elim (fun hi => ⟨hF i hi, a.lt h i hi⟩) (fun hi => ⟨(hA i hi).1.1, (hA i hi).2⟩), ⟨F, h, fun i hi => .inl hi, hP.mono fun i hi => ⟨.inr hi, (hA i hi).1.2⟩⟩, ?_⟩
  exact hR.mono fun i hi => ⟨hi.1.1, fun h => h.elim hi.1.2 hi.2⟩
theorem Sep.join {w : World} : ∀ {P R : List OA} {A B U : Nat → Prop}, Sep w A P → Sep w B R → (∀ i, A i → U i) → (∀ i, B i → U i) → (∀ i, A i → ¬ B i) → Sep w U (P ++ R)
 | [], _, _, _, _, _, h, _, hB, _ => h.mono hB
 | _ :: _, _, _, _, _, ⟨F, h, hF, hL⟩, hR, hA, hB, hd => ⟨F, h, fun i hi => hA i (hF i hi), Sep.join hL hR (fun i hi => ⟨hA i hi.1, hi.2⟩) (fun i hi => ⟨hB i hi, fun hf => hd i (hF i hf) hi⟩) (fun i hi => hd i hi.1)⟩
def Frz (w : World) (X : Nat → Prop) (Z : List OA) : Prop := ∀ z ∈ Z, ∃ F, z.holds w F ∧ ∀ i, F i → ¬ X i
structure Oth where
 blk : Nat → Prop
 wat : List (Nat × Obj)
 ok : ∀ d ∈ wat, blk d.1
instance : CoeFun Oth (fun _ => Nat → Prop) := ⟨Oth.blk⟩
def Wat (w : World) (N : Oth) : Prop := ∀ d ∈ N.wat, Ob w d.1 d.2
theorem Wat.chg {S : Nat → Prop} {w w' : World} {N : Oth} (h : Wat w N) (hc : Chg S w w') (hs : ∀ i, S i → ¬ N i) : Wat w' N := fun d hd => (h d hd).chg hc (fun q => hs _ q (N.ok d hd))
def Oth.or (N : Oth) (F : Nat → Prop) : Oth := ⟨fun i => N i ∨ F i, N.wat, fun d hd => .inl (N.ok d hd)⟩
def Oth.loop (N : Oth) (B : Nat) (o1 o2 : Obj) : Oth := ⟨fun i => N i ∨ (i = B ∨ i = B + 1), (B, o1) :: (B + 1, o2) :: N.wat, fun d hd => by
 rcases List.mem_cons.1 hd with rfl | hd
 ·exact .inr (.inl rfl)
 rcases List.mem_cons.1 hd with rfl | hd
 ·exact .inr (.inr rfl)
 ·exact .inl (N.ok d hd)⟩
def Oth.done (N : Oth) (B : Nat) : Oth := ⟨fun i => N i ∨ (i = B ∨ i = B + 1), (B, .deferred (some [])) :: N.wat, fun d hd => by
 rcases List.mem_cons.1 hd with rfl | hd
 ·exact .inr (.inl rfl)
 ·exact .inl (N.ok d hd)⟩
def St (A : Nat → Prop) (N : Oth) (w0 w : World) (L Z : List OA) : Prop :=
 ∃ U, (∀ i, U i → (A i ∨ w0.heap.size ≤ i) ∧ i < w.heap.size ∧ ¬ N i) ∧ (∀ i, N i → i < w.heap.size) ∧ Chg A w0 w ∧ Sep w U L ∧ Frz w (fun i => U i ∨ N i) Z ∧ Wat w N
section
variable {A : Nat → Prop} {N : Oth} {w0 w w' : World} {L Z : List OA}
theorem St.frame (h : St A N w0 w L Z) : Chg A w0 w := h.elim fun _ h => h.2.2.1
theorem St.size (h : St A N w0 w L Z) : w0.heap.size ≤ w.heap.size := h.frame.size
theorem Frz.chg {S X Y : Nat → Prop} (h : Frz w X Z) (hc : Chg S w w') (hs : ∀ i, S i → X i) (hv : ∀ i, Y i → X i ∨ w.heap.size ≤ i) : Frz w' Y Z := fun z hz => by
 obtain ⟨F, g, hF⟩ := h z hz
 exact ⟨F, z.loc g hc (fun i hi hsi => hF i hi (hs i hsi)), fun i hi hv' => (hv i hv').elim (hF i hi) (fun q => by have := z.lt g i hi; omega)⟩
theorem St.ext (h : St A N w0 w L Z) (hc : Ext w w') : St A N w0 w' L Z := by
 obtain ⟨U, hU, hN, hA, hL, hZ, hW⟩ := h
 exact ⟨U, fun i hi => ⟨(hU i hi).1, Nat.lt_of_lt_of_le (hU i hi).2.1 hc.size, (hU i hi).2.2⟩, fun i hi => Nat.lt_of_lt_of_le (hN i hi) hc.size, hA.thenExt hc, Sep.chg hc hL (fun _ _ x => x), hZ.chg hc (fun _ x => x.elim) (fun _ hi => .inl hi), hW.chg hc (fun _ x => x.elim)⟩
theorem St.front (h : St A N w0 w L Z) (k : Nat) {a : OA} {L' : List OA} (e : L[k]? = some a := by rfl) (e' : a :: L.eraseIdx k = L' := by rfl) : St A N w0 w L' Z := by
 subst e'
 obtain ⟨U, hU, hN, hA, hL, hZ, hW⟩ := h
 exact ⟨U, hU, hN, hA, hL.front k e, hZ, hW⟩
theorem St.own (h : St A N w0 w L Z) (k : Nat) {a : OA} (e : L[k]? = some a) : ∃ F, a.holds w F := by
 obtain ⟨U, hU, hN, hA, hL, hZ, hW⟩ := h
 obtain ⟨F, hF, _⟩ := hL.front k e
 exact ⟨F, hF⟩
theorem St.frz (h : St A N w0 w L Z) (k : Nat) {a : OA} (e : Z[k]? = some a) : ∃ F, a.holds w F := by
 obtain ⟨U, hU, hN, hA, hL, hZ, hW⟩ := h
 obtain ⟨F, hF, _⟩ := hZ a (List.mem_of_getElem? e)
 exact ⟨F, hF⟩
theorem St.upd (h : St A N w0 w L Z) (k : Nat) {a b : OA} {L' : List OA} (hk : ∀ F, a.holds w F → ∃ G, b.holds w' G ∧ (∀ i, G i → F i ∨ w.heap.size ≤ i) ∧ Chg F w w') (e : L[k]? = some a := by rfl) (e' : b :: L.eraseIdx k = L' := by rfl) : St A N w0 w' L' Z := by
 subst e'
 obtain ⟨U, hU, hN, hA, hL, hZ, hW⟩ := h
 obtain ⟨F, g, hF, hR⟩ := hL.front k e
 obtain ⟨G, g', hG, hc⟩ := hk F g
 refine ⟨fun i => U i ∨ (G i ∧ w.heap.size ≤ i), fun i hi => ?_, fun i hi => Nat.lt_of_lt_of_le (hN i hi) hc.size, hA.thenChg hc (fun i hi hf => ?_), ⟨G, g', fun i hi => (hG i hi).imp (hF i) (fun q => ⟨hi, q⟩), ?_⟩, hZ.chg hc (fun i hi => .inl (hF i hi)) (fun i hi => ?_), hW.chg hc (fun i hi => (hU i (hF i hi)).2.2)⟩
 ·rcases hi with hi | hi
  ·exact ⟨(hU i hi).1, Nat.lt_of_lt_of_le (hU i hi).2.1 hc.size, (hU i hi).2.2⟩
  ·exact ⟨.inr (Nat.le_trans hA.size hi.2), b.lt g' i hi.1, fun hn => absurd (hN i hn) (by omega)⟩
 ·exact ((hU i (hF i hf)).1).elim id (fun q => absurd hi (by omega))
 ·exact (Sep.chg hc hR fun i hi => hi.2).mono fun i hi => ⟨.inl hi.1, fun hg => (hG i hg).elim hi.2 (fun q => absurd (hU i hi.1).2.1 (by omega))⟩
 ·rcases hi with (hi | hi) | hi
  ·exact .inl (.inl hi)
  ·exact .inr hi.2
  ·exact .inl (.inr hi)
theorem St.add (h : St A N w0 w L Z) {b : OA} {G : Nat → Prop} (hc : Ext w w') (hb : b.holds w' G) (hG : ∀ i, G i → w.heap.size ≤ i) : St A N w0 w' (b :: L) Z := by
 obtain ⟨U, hU, hN, hA, hL, hZ, hW⟩ := h
 refine ⟨fun i => U i ∨ G i, fun i hi => ?_, fun i hi => Nat.lt_of_lt_of_le (hN i hi) hc.size, hA.thenExt hc, ⟨G, hb, fun i hi => .inr hi, ?_⟩, hZ.chg hc (fun _ x => x.elim) (fun i hi => ?_), hW.chg hc (fun _ x => x.elim)⟩
 ·rcases hi with hi | hi
  ·exact ⟨(hU i hi).1, Nat.lt_of_lt_of_le (hU i hi).2.1 hc.size, (hU i hi).2.2⟩
  ·exact ⟨.inr (Nat.le_trans hA.size (hG i hi)), b.lt hb i hi, fun hn => absurd (hN i hn) (by have := hG i hi; omega)⟩
 ·exact (Sep.chg hc hL fun _ _ x => x).mono fun i hi => ⟨.inl hi, fun hg => absurd (hU i hi).2.1 (by have := hG i hg; omega)⟩
 ·rcases hi with (hi | hi) | hi
  ·exact .inl (.inl hi)
  ·exact .inr (hG i hi)
  ·exact .inl (.inr hi)
theorem St.addZ (h : St A N w0 w L Z) {b : OA} {G : Nat → Prop} (hc : Ext w w') (hb : b.holds w' G) (hG : ∀ i, G i → w.heap.size ≤ i) : St A N w0 w' L (b :: Z) := by
 have h' := h.ext hc
 obtain ⟨U, hU, hN, hA, hL, hZ, hW⟩ := h
 refine ⟨U, fun i hi => ⟨(hU i hi).1, Nat.lt_of_lt_of_le (hU i hi).2.1 hc.size, (hU i hi).2.2⟩, fun i hi => Nat.lt_of_lt_of_le (hN i hi) hc.size, hA.thenExt hc, Sep.chg hc hL (fun _ _ x => x), fun z hz => ?_, hW.chg hc (fun _ x => x.elim)⟩
 rcases List.mem_cons.1 hz with rfl | hz
 ·refine ⟨G, hb, fun i hi q => ?_⟩
  have := hG i hi
  rcases q with q | q
  ·exact absurd (hU i q).2.1 (by omega)
  ·exact absurd (hN i q) (by omega)
 ·exact (hZ.chg hc (fun _ x => x.elim) (fun _ hi => .inl hi)) z hz
theorem St.drop (h : St A N w0 w L Z) (k : Nat) {a : OA} {L' : List OA} (e : L[k]? = some a := by rfl) (e' : L.eraseIdx k = L' := by rfl) : St A N w0 w L' Z := by
 subst e'
 obtain ⟨U, hU, hN, hA, hL, hZ, hW⟩ := h
 obtain ⟨F, g, hF, hR⟩ := hL.front k e
 exact ⟨U, hU, hN, hA, hR.mono fun i hi => hi.1, hZ, hW⟩
theorem St.freeze (h : St A N w0 w L Z) (k : Nat) {a b : OA} {L' : List OA} (hab : ∀ F, a.holds w F → b.holds w F) (e : L[k]? = some a := by rfl) (e' : L.eraseIdx k = L' := by rfl) : St A N w0 w L' (b :: Z) := by
 subst e'
 obtain ⟨U, hU, hN, hA, hL, hZ, hW⟩ := h
 obtain ⟨F, g, hF, hR⟩ := hL.front k e
 refine ⟨fun i => U i ∧ ¬ F i, fun i hi => hU i hi.1, hN, hA, hR, fun z hz => ?_, hW⟩
 rcases List.mem_cons.1 hz with rfl | hz
 ·exact ⟨F, hab F g, fun i hi q => q.elim (fun q => q.2 hi) (fun q => (hU i (hF i hi)).2.2 q)⟩
 ·obtain ⟨G, g', hG⟩ := hZ z hz
  exact ⟨G, g', fun i hi q => hG i hi (q.imp (·.1) id)⟩
theorem St.part (h : St A N w0 w L Z) (k : Nat) {a b : OA} (hab : ∀ F, a.holds w F → ∃ G, b.holds w G ∧ ∀ i, G i → F i) (e : Z[k]? = some a := by rfl) : St A N w0 w L (b :: Z) := by
 obtain ⟨U, hU, hN, hA, hL, hZ, hW⟩ := h
 refine ⟨U, hU, hN, hA, hL, fun z hz => ?_, hW⟩
 rcases List.mem_cons.1 hz with rfl | hz
 ·obtain ⟨F, g, hF⟩ := hZ a (List.mem_of_getElem? e)
  obtain ⟨G, g', hG⟩ := hab F g
  exact ⟨G, g', fun i hi => hF i (hG i hi)⟩
 ·exact hZ z hz
theorem St.say (h : St A N w0 w L Z) {b : OA} (hb : b.holds w (fun _ => False)) : St A N w0 w L (b :: Z) := by
 obtain ⟨U, hU, hN, hA, hL, hZ, hW⟩ := h
 refine ⟨U, hU, hN, hA, hL, fun z hz => ?_, hW⟩
 rcases List.mem_cons.1 hz with rfl | hz
 ·exact ⟨_, hb, fun _ x => x.elim⟩
 ·exact hZ z hz
theorem St.pickZ (h : St A N w0 w L Z) {Z' : List OA} (hz : ∀ z ∈ Z', z ∈ Z) : St A N w0 w L Z' := by
 obtain ⟨U, hU, hN, hA, hL, hZ, hW⟩ := h
 exact ⟨U, hU, hN, hA, hL, fun z q => hZ z (hz z q), hW⟩
theorem St.more (h : St A N w0 w L Z) {M : Nat → Prop} (hc : Ext w w') (hM : ∀ i, M i → w.heap.size ≤ i ∧ i < w'.heap.size) : St A (N.or M) w0 w' L Z := by
 obtain ⟨U, hU, hN, hA, hL, hZ, hW⟩ := h
 refine ⟨U, fun i hi => ⟨(hU i hi).1, Nat.lt_of_lt_of_le (hU i hi).2.1 hc.size, fun q => q.elim (hU i hi).2.2 (fun q => absurd (hU i hi).2.1 (by have := (hM i q).1; omega))⟩, fun i hi => hi.elim (fun q => Nat.lt_of_lt_of_le (hN i q) hc.size) (fun q => (hM i q).2), hA.thenExt hc, Sep.chg hc hL (fun _ _ x => x), hZ.chg hc (fun _ x => x.elim) (fun i hi => ?_), hW.chg hc (fun _ x => x.elim)⟩
 rcases hi with hi | hi | hi
 ·exact .inl (.inl hi)
 ·exact .inl (.inr hi)
 ·exact .inr (hM i hi).1
theorem St.others (h : St A N w0 w L Z) {M : Nat → Prop} {N' : Oth} (hc : Chg M w w') (hM : ∀ i, M i → N i ∧ w0.heap.size ≤ i) (hN' : ∀ i, N' i → N i) (hw : Wat w' N') : St A N' w0 w' L Z := by
 obtain ⟨U, hU, hN, hA, hL, hZ, hW⟩ := h
 exact ⟨U, fun i hi => ⟨(hU i hi).1, Nat.lt_of_lt_of_le (hU i hi).2.1 hc.size, fun q => (hU i hi).2.2 (hN' i q)⟩, fun i hi => Nat.lt_of_lt_of_le (hN i (hN' i hi)) hc.size, hA.thenChg hc (fun i hi hm => absurd (hM i hm).2 (by omega)), Sep.chg hc hL (fun i hi q => (hU i hi).2.2 (hM i q).1), hZ.chg hc (fun i hi => .inr (hM i hi).1) (fun _ hi => .inl (hi.imp id (hN' _))), hw⟩
theorem St.less (h : St A N w0 w L Z) {M : Oth} (hM : ∀ i, M i → N i) (hw : Wat w M) : St A M w0 w L Z := h.others (Chg.refl (fun _ => False) w) (fun _ x => x.elim) hM hw
theorem St.wats (h : St A N w0 w L Z) : Wat w N := by
 obtain ⟨U, hU, hN, hA, hL, hZ, hW⟩ := h
 exact hW
theorem St.othlt (h : St A N w0 w L Z) : ∀ i, N i → i < w.heap.size := by
 obtain ⟨U, hU, hN, hA, hL, hZ, hW⟩ := h
 exact hN
def sel (Z : List OA) (l : List Nat) : List OA := l.filterMap fun k => Z[k]?
theorem sel_mem {Z : List OA} {l : List Nat} : ∀ z ∈ sel Z l, z ∈ Z := fun z hz => by
 obtain ⟨k, _, hk⟩ := List.mem_filterMap.1 hz
 exact List.mem_of_getElem? hk
theorem St.zs (h : St A N w0 w L Z) (l : List Nat) {Z' : List OA} (e : sel Z l = Z' := by rfl) : St A N w0 w L Z' := e ▸ h.pickZ sel_mem
theorem St.sub (h : St A N w0 w L Z) (l : List Nat) (P R : List OA) {Zc : List OA} (e : L = P ++ R := by rfl) (ez : sel Z l = Zc := by rfl) : ∃ B M, St B M w w P Zc ∧ ∀ w' P' Z' L' Z'', St B M w w' P' Z' → P' ++ R = L' → Z' ++ Z = Z'' → St A N w0 w' L' Z'' := by
 subst e ez
 obtain ⟨U, hU, hN, hA, hL, hZ, hW⟩ := h
 obtain ⟨B, hB, hP, hR⟩ := hL.split
 refine ⟨B, ⟨fun i => (U i ∧ ¬ B i) ∨ N i, N.wat, fun d hd => .inr (N.ok d hd)⟩, ⟨B, fun i hi => ⟨.inl hi, (hB i hi).2, fun q => q.elim (fun q => q.2 hi) (hU i (hB i hi).1).2.2⟩, fun i hi => hi.elim (fun q => (hU i q.1).2.1) (hN i), Chg.refl _ _, hP, fun z hz => ?_, hW⟩, ?_⟩
 ·obtain ⟨F, g, hF⟩ := hZ z (sel_mem z hz)
  exact ⟨F, g, fun i hi hb => hF i hi (hb.elim (fun q => .inl (hB i q).1) (fun q => q.imp (·.1) id))⟩
 ·rintro w' P' Z' L' Z'' ⟨V, hV, hM, hc, hP', hZ', hW'⟩ rfl rfl
  have hR' := Sep.chg hc hR fun i hi => hi.2
  refine ⟨fun i => V i ∨ (U i ∧ ¬ B i), fun i hi => ?_, fun i hi => Nat.lt_of_lt_of_le (hN i hi) hc.size, hA.thenChg hc (fun i hi hb => ?_), ?_, fun z hz => ?_, hW.chg hc (fun i hi => (hU i (hB i hi).1).2.2)⟩
  ·rcases hi with hi | hi
   ·exact ⟨((hV i hi).1).elim (fun q => (hU i (hB i q).1).1) (fun q => .inr (Nat.le_trans hA.size q)), (hV i hi).2.1, fun q => (hV i hi).2.2 (.inr q)⟩
   ·exact ⟨(hU i hi.1).1, Nat.lt_of_lt_of_le (hU i hi.1).2.1 hc.size, (hU i hi.1).2.2⟩
  ·exact ((hU i (hB i hb).1).1).elim id (fun q => absurd hi (by omega))
  ·refine Sep.join hP' hR' (fun i hi => .inl hi) (fun i hi => .inr hi) fun i hi q => ?_
   exact (hV i hi).2.2 (.inl q)
  ·rcases List.mem_append.1 hz with hz | hz
   ·obtain ⟨F, g, hF⟩ := hZ' z hz
    refine ⟨F, g, fun i hi q => hF i hi ?_⟩
    rcases q with (q | q) | q
    ·exact .inl q
    ·exact .inr (.inl q)
    ·exact .inr (.inr q)
   ·obtain ⟨F, g, hF⟩ := hZ z hz
    refine ⟨F, z.loc g hc (fun i hi hb => hF i hi (.inl (hB i hb).1)), fun i hi q => ?_⟩
    rcases q with (q | q) | q
    ·exact ((hV i q).1).elim (fun b => hF i hi (.inl (hB i b).1)) (fun p => absurd (z.lt g i hi) (by omega))
    ·exact hF i hi (.inl q.1)
    ·exact hF i hi (.inr q)
end
-- pieces
def oB (b : Nat) (t : TypeId) (l : List Value) : OA where
 holds := fun w F => Blk w b t l ∧ ∀ i, F i ↔ i = b
 loc := fun h hc hs => ⟨h.1.chg hc (hs b ((h.2 b).2 rfl)), h.2⟩
 lt := fun h i hi => by rw [(h.2 i).1 hi]; exact h.1.lt
def oS (e k : Nat) {α : Type} (C : α → List Value) (s : SlV) (l : List α) : OA where
 holds := fun w F => (Own w 0 e k s (l.map C) ∧ l.length ≤ 140737488355328) ∧ ∀ i, F i ↔ s.fp i
 loc := fun h hc hs => ⟨⟨h.1.1.keep hc (fun i hi => hs i ((h.2 i).2 hi)), h.1.2⟩, h.2⟩
 lt := fun h i hi => h.1.1.lt i ((h.2 i).1 hi)
def fS (k : Nat) {α : Type} (C : α → List Value) (s : SlV) (l : List α) : OA where
 holds := fun w F => (Rd w k s (l.map C) ∧ l.length ≤ 140737488355328) ∧ ∀ i, F i ↔ s.fp i
 loc := fun h hc hs => ⟨⟨h.1.1.keep hc (fun i hi => hs i ((h.2 i).2 hi)), h.1.2⟩, h.2⟩
 lt := fun h i hi => h.1.1.lt i ((h.2 i).1 hi)
def oM (m : Nat) {α β : Type} (C : α → Value) (D : β → Value) (l : List (α × β)) : OA where
 holds := fun w F => MapB w m C D l ∧ ∀ i, F i ↔ i = m
 loc := fun h hc hs => ⟨h.1.chg hc (hs m ((h.2 m).2 rfl)), h.2⟩
 lt := fun h i hi => by rw [(h.2 i).1 hi]; exact h.1.lt
section
variable {A : Nat → Prop} {N : Oth} {w0 w w' : World} {L Z : List OA}
theorem St.blk (h : St A N w0 w L Z) (k : Nat) {b t : Nat} {l : List Value} (e : L[k]? = some (oB b t l) := by rfl) : Blk w b t l := (h.own k e).elim fun _ h => h.1
theorem St.blkZ (h : St A N w0 w L Z) (k : Nat) {b t : Nat} {l : List Value} (e : Z[k]? = some (oB b t l) := by rfl) : Blk w b t l := (h.frz k e).elim fun _ h => h.1
theorem St.sl (h : St A N w0 w L Z) (n : Nat) {e k : Nat} {α : Type} {C : α → List Value} {s : SlV} {l : List α} (q : L[n]? = some (oS e k C s l) := by rfl) : Own w 0 e k s (l.map C) := (h.own n q).elim fun _ h => h.1.1
theorem St.lenO (h : St A N w0 w L Z) (n : Nat) {e k : Nat} {α : Type} {C : α → List Value} {s : SlV} {l : List α} (q : L[n]? = some (oS e k C s l) := by rfl) : l.length ≤ 140737488355328 := (h.own n q).elim fun _ h => h.1.2
theorem St.len (h : St A N w0 w L Z) (n : Nat) {k : Nat} {α : Type} {C : α → List Value} {s : SlV} {l : List α} (q : Z[n]? = some (fS k C s l) := by rfl) : l.length ≤ 140737488355328 := (h.frz n q).elim fun _ h => h.1.2
theorem St.rdO (h : St A N w0 w L Z) (n : Nat) {e k : Nat} {α : Type} {C : α → List Value} {s : SlV} {l : List α} (q : L[n]? = some (oS e k C s l) := by rfl) : Rd w k s (l.map C) := (h.sl n q).toRd
theorem St.rd (h : St A N w0 w L Z) (n : Nat) {k : Nat} {α : Type} {C : α → List Value} {s : SlV} {l : List α} (q : Z[n]? = some (fS k C s l) := by rfl) : Rd w k s (l.map C) := (h.frz n q).elim fun _ h => h.1.1
theorem St.map (h : St A N w0 w L Z) (k : Nat) {m : Nat} {α β : Type} {C : α → Value} {D : β → Value} {l : List (α × β)} (e : L[k]? = some (oM m C D l) := by rfl) : MapB w m C D l := (h.own k e).elim fun _ h => h.1
theorem St.new (h : St A N w0 w L Z) {b t : Nat} {l : List Value} (hn : New w w' b t l) : St A N w0 w' (oB b t l :: L) Z :=
 h.add (b := oB b t l) (G := (· = b)) hn.ext ⟨hn.blk, fun _ => Iff.rfl⟩ (fun i hi => by rw [hi, hn.at_]; exact Nat.le_refl _)
theorem St.store (h : St A N w0 w L Z) (k : Nat) {b t : Nat} {l l' : List Value} {L' : List OA} (hb : Blk w' b t l') (hc : Chg (· = b) w w') (e : L[k]? = some (oB b t l) := by rfl) (e' : oB b t l' :: L.eraseIdx k = L' := by rfl) : St A N w0 w' L' Z :=
 h.upd k (a := oB b t l) (b := oB b t l') (fun F hF => ⟨F, ⟨hb, hF.2⟩, fun i hi => .inl hi, hc.mono fun i _ hi => (hF.2 i).2 hi⟩) e e'
theorem St.push (h : St A N w0 w L Z) (n : Nat) {e k : Nat} {α : Type} {C : α → List Value} {s s' : SlV} {l l' : List α} {L' : List OA} (ho : Own w' 0 e k s' (l'.map C)) (hl : l'.length ≤ 140737488355328) (hc : Chg s.fp w w') (hg : ∀ i, s'.fp i → s.fp i ∨ w.heap.size ≤ i) (q : L[n]? = some (oS e k C s l) := by rfl) (q' : oS e k C s' l' :: L.eraseIdx n = L' := by rfl) : St A N w0 w' L' Z :=
 h.upd n (a := oS e k C s l) (b := oS e k C s' l') (fun F hF => ⟨s'.fp, ⟨⟨ho, hl⟩, fun _ => Iff.rfl⟩, fun i hi => (hg i hi).imp (fun x => (hF.2 i).2 x) id, hc.mono fun i _ hi => (hF.2 i).2 hi⟩) q q'
theorem St.mapSet (h : St A N w0 w L Z) (k : Nat) {m : Nat} {α β : Type} {C : α → Value} {D : β → Value} {l l' : List (α × β)} {L' : List OA} (hm : MapStep w w' m C D l') (e : L[k]? = some (oM m C D l) := by rfl) (e' : oM m C D l' :: L.eraseIdx k = L' := by rfl) : St A N w0 w' L' Z :=
 h.upd k (a := oM m C D l) (b := oM m C D l') (fun F hF => ⟨F, ⟨hm.1, hF.2⟩, fun i hi => .inl hi, hm.2.1.mono fun i _ hi => (hF.2 i).2 hi⟩) e e'
theorem St.nil (h : St A N w0 w L Z) (e k : Nat) {α : Type} (C : α → List Value) : St A N w0 w (oS e k C SlV.nil [] :: L) Z :=
 h.add (b := oS e k C SlV.nil []) (G := SlV.nil.fp) (Ext.refl w) ⟨⟨by simpa using Own.nil w 0 e k, by simp⟩, fun _ => Iff.rfl⟩ (fun i hi => absurd rfl hi.1)
theorem St.nilZ (h : St A N w0 w L Z) (k : Nat) {α : Type} (C : α → List Value) : St A N w0 w L (fS k C SlV.nil [] :: Z) :=
 h.say (b := fS k C SlV.nil []) ⟨⟨by simpa using Rd.nil w k, by simp⟩, fun i => ⟨fun x => x.elim, fun x => absurd rfl x.1⟩⟩
theorem St.frzS (h : St A N w0 w L Z) (n : Nat) {e k : Nat} {α : Type} {C : α → List Value} {s : SlV} {l : List α} {L' : List OA} (q : L[n]? = some (oS e k C s l) := by rfl) (q' : L.eraseIdx n = L' := by rfl) : St A N w0 w L' (fS k C s l :: Z) :=
 h.freeze n (a := oS e k C s l) (fun _ hF => ⟨⟨hF.1.1.toRd, hF.1.2⟩, hF.2⟩) q q'
theorem St.frzB (h : St A N w0 w L Z) (n : Nat) {b t : Nat} {l : List Value} {L' : List OA} (q : L[n]? = some (oB b t l) := by rfl) (q' : L.eraseIdx n = L' := by rfl) : St A N w0 w L' (oB b t l :: Z) :=
 h.freeze n (a := oB b t l) (fun _ hF => hF) q q'
inductive Lend (L Z : List OA) : List OA → Prop
 | nil : Lend L Z []
 | z {a : OA} {l : List OA} (k : Nat) (e : Z[k]? = some a) (h : Lend L Z l) : Lend L Z (a :: l)
 | o {a : OA} {l : List OA} (k : Nat) (e : L[k]? = some a) (h : Lend L Z l) : Lend L Z (a :: l)
 | s {α : Type} {l : List OA} {e k' : Nat} {C : α → List Value} {s : SlV} {x : List α} (k : Nat) (q : L[k]? = some (oS e k' C s x)) (h : Lend L Z l) : Lend L Z (fS k' C s x :: l)
theorem Lend.mem {U B : Nat → Prop} (hL : Sep w (fun i => U i ∧ ¬ B i) L) (hZ : Frz w (fun i => U i ∨ N i) Z) (hB : ∀ i, B i → U i) (hN : ∀ i, U i → ¬ N i) : ∀ {l : List OA}, Lend L Z l → ∀ z ∈ l, ∃ F, z.holds w F ∧ ∀ i, F i → ¬ (B i ∨ N i)
 | _, .nil => fun _ h => by simp at h
 | _, .z k e h => fun z hz => by
  rcases List.mem_cons.1 hz with rfl | hz
  ·obtain ⟨F, g, hF⟩ := hZ _ (List.mem_of_getElem? e)
   exact ⟨F, g, fun i hi q => hF i hi (q.imp (hB i) id)⟩
  ·exact Lend.mem hL hZ hB hN h z hz
 | _, .o k e h => fun z hz => by
  rcases List.mem_cons.1 hz with rfl | hz
  ·obtain ⟨F, g, hF, _⟩ := hL.front k e
   exact ⟨F, g, fun i hi q => q.elim (hF i hi).2 (hN i (hF i hi).1)⟩
  ·exact Lend.mem hL hZ hB hN h z hz
 | _, .s k e h => fun z hz => by
  rcases List.mem_cons.1 hz with rfl | hz
  ·obtain ⟨F, g, hF, _⟩ := hL.front k e
   exact ⟨F, ⟨⟨g.1.1.toRd, g.1.2⟩, g.2⟩, fun i hi q => q.elim (hF i hi).2 (hN i (hF i hi).1)⟩
  ·exact Lend.mem hL hZ hB hN h z hz
theorem St.call (h : St A N w0 w L Z) (P R : List OA) {Zc : List OA} (hl : Lend R Z Zc) (e : L = P ++ R := by rfl) : ∃ B M, St B M w w P Zc ∧ ∀ w' P' Z' L', St B M w w' P' Z' → P' ++ R = L' → St A N w0 w' L' Z := by
 subst e
 obtain ⟨U, hU, hN, hA, hL, hZ, hW⟩ := h
 obtain ⟨B, hB, hP, hR⟩ := hL.split
 have hUN : ∀ i, U i → ¬ N i := fun i hi => (hU i hi).2.2
 refine ⟨B, N, ⟨B, fun i hi => ⟨.inl hi, (hB i hi).2, hUN i (hB i hi).1⟩, hN, Chg.refl _ _, hP, Lend.mem hR hZ (fun i hi => (hB i hi).1) hUN hl, hW⟩, ?_⟩
 rintro w' P' Z' L' ⟨V, hV, hM, hc, hP', hZ', hW'⟩ rfl
 have hR' := Sep.chg hc hR fun i hi => hi.2
 refine ⟨fun i => V i ∨ (U i ∧ ¬ B i), fun i hi => ?_, hM, hA.thenChg hc (fun i hi hb => ?_), ?_, fun z hz => ?_, hW'⟩
 ·rcases hi with hi | hi
  ·exact ⟨((hV i hi).1).elim (fun q => (hU i (hB i q).1).1) (fun q => .inr (Nat.le_trans hA.size q)), (hV i hi).2⟩
  ·exact ⟨(hU i hi.1).1, Nat.lt_of_lt_of_le (hU i hi.1).2.1 hc.size, (hU i hi.1).2.2⟩
 ·exact ((hU i (hB i hb).1).1).elim id (fun q => absurd hi (by omega))
 ·refine Sep.join hP' hR' (fun i hi => .inl hi) (fun i hi => .inr hi) fun i hi q => ?_
  exact ((hV i hi).1).elim q.2 (fun p => absurd (hU i q.1).2.1 (by omega))
 ·obtain ⟨F, g, hF⟩ := hZ z hz
  refine ⟨F, z.loc g hc (fun i hi hb => hF i hi (.inl (hB i hb).1)), fun i hi q => ?_⟩
  rcases q with (q | q) | q
  ·exact ((hV i q).1).elim (fun b => hF i hi (.inl (hB i b).1)) (fun p => absurd (z.lt g i hi) (by omega))
  ·exact hF i hi (.inl q.1)
  ·exact hF i hi (.inr q)
theorem St.lend (h : St A N w0 w L Z) {Zc : List OA} (hl : Lend L Z Zc) : ∃ M, St (fun _ => False) M w w [] Zc := by
 obtain ⟨U, hU, hN, hA, hL, hZ, hW⟩ := h
 exact ⟨N, fun _ => False, fun _ x => x.elim, hN, Chg.refl _ _, trivial, Lend.mem (B := fun _ => False) (hL.mono fun i hi => ⟨hi, fun x => x⟩) hZ (fun _ x => x.elim) (fun i hi => (hU i hi).2.2) hl, hW⟩
theorem quiet {P : Program} {g : FuncId} {args : Array Value} {M : Oth} {R : Value → World → Prop} {v0 : Value} (h : Calls P g args w fun e w' => ∃ v, e = .returned v ∧ R v w') (hR : ∀ v w', R v w' → v = v0 ∧ ∃ P' Z', St (fun _ => False) M w w' P' Z') : Calls P g args w fun e w' => ∃ v, e = .returned v ∧ (v = v0 ∧ Ext w w') :=
 CallsIn.mono (F := fen none) (n := 0) (callsIn_wide.2 h) (by rintro e w' ⟨v, rfl, hv⟩; obtain ⟨h1, P', Z', h2⟩ := hR v w' hv; exact ⟨v, rfl, h1, h2.frame⟩) |> callsIn_wide.1
end
end Gw
end Go.Proofs.YtjebgcoknpcadaaGreatDoor
end
section
namespace Go.Proofs.YtjebgcoknpcadaaGreatDoor
open Go.RowKit
namespace Gw
def chk {α : Type} (b : Bool) (x : Option α) : Option α := if b then x else none
def inb (i : Int) (n : Nat) : Bool := decide (0 ≤ i) && decide (i < n)
def at_ {α : Type} (d : α) (l : List α) (i : Int) : α := l.getD i.toNat d
theorem zp {α β : Type} {x : Option α} {f : α → Option β} {r : β} (h : x.bind f = some r) : ∃ a, x = some a ∧ f a = some r := by
 cases x with
 | none => cases h
 | some a => exact ⟨a, rfl, h⟩
theorem xK {α : Type} {b : Bool} {x : Option α} {r : α} (h : chk b x = some r) : b = true ∧ x = some r := by
 unfold chk at h; split at h
 ·exact ⟨‹_›, h⟩
 ·cases h
theorem if_t {α : Type} {c : Bool} {x y r : α} (hc : c = true) (h : (if c then x else y) = r) : x = r := by rw [if_pos hc] at h; exact h
theorem if_f {α : Type} {c : Bool} {x y r : α} (hc : c = false) (h : (if c then x else y) = r) : y = r := by rw [hc] at h; exact h
theorem xv {i : Int} {n : Nat} (h : inb i n = true) : 0 ≤ i ∧ i < n := by simpa [inb] using h
theorem yg {α : Type} (d : α) {l : List α} {i : Int} (h : 0 ≤ i ∧ i < l.length) : l[i.toNat]? = some (at_ d l i) := by
 have hl : i.toNat < l.length := by omega
 simp [at_, List.getElem?_eq_getElem hl, List.getD_eq_getElem?_getD]
inductive Stp (σ ρ : Type) where
 | go (s : σ)
 | brk (s : σ)
 | ret (r : ρ)
def forN {σ ρ : Type} (b : Int → σ → Option (Stp σ ρ)) : Nat → Int → σ → Option (σ ⊕ ρ)
 | 0, _, s => some (.inl s)
 | n + 1, i, s => (b i s).bind fun
  | .go s' => forN b n (i + 1) s'
  | .brk s' => some (.inl s')
  | .ret r => some (.inr r)
def forS {σ : Type} (b : Int → σ → Option σ) : Nat → Int → σ → Option σ
 | 0, _, s => some s
 | n + 1, i, s => (b i s).bind fun s' => forS b n (i + 1) s'
def forE {α σ ρ : Type} (b : α → σ → Option (Stp σ ρ)) : List α → σ → Option (σ ⊕ ρ)
 | [], s => some (.inl s)
 | x :: l, s => (b x s).bind fun
  | .go s' => forE b l s'
  | .brk s' => some (.inl s')
  | .ret r => some (.inr r)
def iter {σ ρ : Type} (b : σ → Option (Stp σ ρ)) : Nat → σ → Option (σ ⊕ ρ)
 | 0, _ => none
 | n + 1, s => (b s).bind fun
  | .go s' => iter b n s'
  | .brk s' => some (.inl s')
  | .ret r => some (.inr r)
theorem zaG {σ ρ : Type} {b : Int → σ → Option (Stp σ ρ)} {i : Int} {s : σ} {o : σ ⊕ ρ} (h : forN b 0 i s = some o) : o = .inl s := by
 simp only [forN] at h; exact (Option.some.inj h).symm
def nxt {σ ρ : Type} (g : σ → Option (σ ⊕ ρ)) (o : σ ⊕ ρ) : Stp σ ρ → Prop
 | .go s => g s = some o
 | .brk s => o = .inl s
 | .ret r => o = .inr r
theorem zay {σ ρ : Type} {b : Int → σ → Option (Stp σ ρ)} {n : Nat} {i : Int} {s : σ} {o : σ ⊕ ρ} (h : forN b (n + 1) i s = some o) : ∃ q, b i s = some q ∧ nxt (forN b n (i + 1)) o q := by
 simp only [forN] at h
 obtain ⟨q, h1, h2⟩ := zp h
 refine ⟨q, h1, ?_⟩
 cases q with
 | go s => exact h2
 | brk s => exact (Option.some.inj h2).symm
 | ret r => exact (Option.some.inj h2).symm
theorem forE_0 {α σ ρ : Type} {b : α → σ → Option (Stp σ ρ)} {s : σ} {o : σ ⊕ ρ} (h : forE b [] s = some o) : o = .inl s := by
 simp only [forE] at h; exact (Option.some.inj h).symm
theorem forE_s {α σ ρ : Type} {b : α → σ → Option (Stp σ ρ)} {x : α} {l : List α} {s : σ} {o : σ ⊕ ρ} (h : forE b (x :: l) s = some o) : ∃ q, b x s = some q ∧ nxt (forE b l) o q := by
 simp only [forE] at h
 obtain ⟨q, h1, h2⟩ := zp h
 refine ⟨q, h1, ?_⟩
 cases q with
 | go s => exact h2
 | brk s => exact (Option.some.inj h2).symm
 | ret r => exact (Option.some.inj h2).symm
theorem iter_s {σ ρ : Type} {b : σ → Option (Stp σ ρ)} {n : Nat} {s : σ} {o : σ ⊕ ρ} (h : iter b (n + 1) s = some o) : ∃ q, b s = some q ∧ nxt (iter b n) o q := by
 simp only [iter] at h
 obtain ⟨q, h1, h2⟩ := zp h
 refine ⟨q, h1, ?_⟩
 cases q with
 | go s => exact h2
 | brk s => exact (Option.some.inj h2).symm
 | ret r => exact (Option.some.inj h2).symm
theorem forS_s {σ : Type} {b : Int → σ → Option σ} {n : Nat} {i : Int} {s o : σ} (h : forS b (n + 1) i s = some o) : ∃ q, b i s = some q ∧ forS b n (i + 1) q = some o := by
 simp only [forS] at h
 exact zp h
theorem forS_0 {σ : Type} {b : Int → σ → Option σ} {i : Int} {s o : σ} (h : forS b 0 i s = some o) : o = s := by
 simp only [forS] at h; exact (Option.some.inj h).symm
def aft {σ ρ : Type} (k : σ → Option ρ) : σ ⊕ ρ → Option ρ
 | .inl s => k s
 | .inr r => some r
theorem uV {σ ρ : Type} {k : σ → Option ρ} {x r : ρ} (h : aft k (.inr x) = some r) : x = r := Option.some.inj h
section
variable {P : Program} {rd : Option Nat} {n : Nat} {dm : List Nat} {Q : Post} {f : Fr} {w : World}
def rounds (P : Program) (rd : Option Nat) (n : Nat) (dm : List Nat) (c : Code) (Q : Post) : Nat → Fr → World → Prop
 | 0, _, _ => False
 | m + 1, f, w => wc P rd n dm c (thenP (fun dm' f' w' => dm' = dm ∧ rounds P rd n dm c Q m f' w') Q) f w
theorem vv {c : Code} {m : Nat} (h : wc P rd n dm c (thenP (fun dm' f' w' => dm' = dm ∧ rounds P rd n dm c Q m f' w') Q) f w) : rounds P rd n dm c Q (m + 1) f w := h
theorem wc_rounds {c : Code} (m : Nat) (h : rounds P rd n dm c Q m f w) : wc P rd n dm (.loop c) Q f w :=
 wc_loop (fun m f w => rounds P rd n dm c Q m f w) (fun m => m) m h fun m f w hm => by
  cases m with
  | zero => exact hm.elim
  | succ m =>
   refine wc_mono hm fun dm' e f' w' q => ?_
   cases e with
   | normal => exact ⟨q.1, m, q.2, Nat.lt_succ_self m⟩
   | _ => exact q
theorem yT {x : Code} (ds : List Nat) (I : Fr → World → Prop) (h : wc P rd n dm x (thenP (fun dm' f' u' => dm' = dm ∧ Dif ds f f' ∧ I f' u') Q) f w) (hy : ∀ g u, I (mask ds g f) u → Q dm .normal (mask ds g f) u) : wc P rd n dm x Q f w :=
 wc_mono h fun dm' e f' u' q => by
  cases e with
  | normal => obtain ⟨rfl, ⟨g, rfl⟩, h2⟩ := q; exact hy g _ h2
  | _ => exact q
end
end Gw
end Go.Proofs.YtjebgcoknpcadaaGreatDoor
end
section
namespace Go.Proofs.YtjebgcoknpcadaaGreatDoor
open Go.RowKit
namespace Gw
def obPost2 (dm : List Nat) (D : Draw) (L : Nat → Bool) (i : Nat) (d : Option Tmp) (f : Fr) (w : World) : Post := fun dm' e f' w' => e = .normal ∧ dm' = dm ∧ D.T (plus L i) w' ∧ D.Le L w w' ∧ match d with
 | some d => ∃ v, f' = upd f d v ∧ D.V i v w'
 | none => f' = f ∧ ∀ v, D.V i v w'
theorem ob2 {dm : List Nat} {D : Draw} {L : Nat → Bool} {i : Nat} {d : Tmp} {f : Fr} {w w' : World} {v : Value} (hT : D.T (plus L i) w') (hL : D.Le L w w') (hV : D.V i v w') : obPost2 dm D L i (some d) f w dm .normal (upd f d v) w' := ⟨rfl, rfl, hT, hL, v, rfl, hV⟩
theorem ob0 {dm : List Nat} {D : Draw} {L : Nat → Bool} {i : Nat} {f : Fr} {w w' : World} (hT : D.T (plus L i) w') (hL : D.Le L w w') (hV : ∀ v, D.V i v w') : obPost2 dm D L i none f w dm .normal f w' := ⟨rfl, rfl, hT, hL, rfl, hV⟩
def Owe2 (P : Program) (rd : Option Nat) (n : Nat) (dm : List Nat) (ops : Array Oper) (ds : List Nat) (D : Draw) (f : Fr) (i : Nat) (o : Oper) : Prop :=
 ∀ (L : Nat → Bool) (g : Fr) (w : World), L i = false → D.T L w → givens ops D g w (yP o) (wl P rd n dm ops [o] (obPost2 dm D L i o.dst (mask ds g f) w) (mask ds g f) w)
def Owes2 (P : Program) (rd : Option Nat) (n : Nat) (dm : List Nat) (ops : Array Oper) (ds : List Nat) (D : Draw) (f : Fr) : List Oper → Nat → Prop
 | [], _ => True
 | o :: l, i => Owe2 P rd n dm ops ds D f i o ∧ Owes2 P rd n dm ops ds D f l (i + 1)
def drawB2 (ops : Array Oper) (m : Nat) : Bool :=
 decide (((ops.toList.take m).filterMap (·.dst)).Nodup) &&
 ops.toList.zipIdx.all (fun q => q.1.after.toList.all fun e => !Region.binds .any e || decide (e.on < q.2)) &&
 ops.toList.zipIdx.all (fun q => decide (q.2 < m) || (List.range q.2).all fun i => ((Region.before ops).getD q.2 0).testBit i) &&
 decide (m ≤ ops.size)
def overV (D : Draw) (g : Fr) (w : World) (j : Nat) (d : Option Tmp) : Prop := match d with
 | some d => D.V j (g d) w
 | none => ∀ v, D.V j v w
theorem overV.get {D : Draw} {g : Fr} {w : World} {j : Nat} {d : Option Tmp} (h : overV D g w j d) : D.V j (g (d.getD 0)) w := by
 cases d with
 | none => exact h _
 | some d => exact h
section
variable {P : Program} {rd : Option Nat} {n m : Nat} {dm : List Nat} {ops : Array Oper} {Q : Post} {f : Fr} {w : World}
theorem owes2_at {ds : List Nat} {D : Draw} : ∀ (l : List Oper) (i : Nat), Owes2 P rd n dm ops ds D f l i → ∀ j o, l[j]? = some o → Owe2 P rd n dm ops ds D f (i + j) o
 | [], _, _, j, o, hj => by simp at hj
 | o :: l, i, h, 0, o', hj => by simp at hj; subst hj; exact h.1
 | o :: l, i, h, j + 1, o', hj => by
  have := owes2_at l (i + 1) h.2 j o' (by simpa using hj)
  rwa [show i + 1 + j = i + (j + 1) by omega] at this
theorem wc_draw2 {id : Nat} {l : List Oper} (m : Nat) (D : Draw) (hm : P.follows .mixedOrders = true) (hB : drawB2 l.toArray m = true)
  (hst : ∀ L i v w w', L i = true → D.Le L w w' → D.V i v w → D.V i v w') (hT : D.T (fun _ => false) { w with drawn := w.drawn + 1 })
  (ho : Owes2 P rd n dm l.toArray ((l.take m).filterMap (·.dst)) D f (l.take m) 0)
  (hq : ∀ L g w, (∀ j, L j = decide (j < m)) → D.T L w → allV D g w (l.take m) 0 (wl P rd n dm l.toArray (l.drop m) Q (mask ((l.take m).filterMap (·.dst)) g f) w)) : wc P rd n dm (.region id l.toArray true) Q f w := by
 intro a ha
 refine wpIn_region_any hm ?_
 simp only [drawB2, Bool.and_eq_true, decide_eq_true_eq, List.all_eq_true] at hB
 obtain ⟨⟨⟨hnd, hback⟩, htail⟩, hml⟩ := hB
 simp only [List.size_toArray] at hml
 generalize hds : (l.take m).filterMap (·.dst) = ds at *
 have hb : Back l.toArray := by
  intro i o hi e he hbd
  have := hback (o, i) (by
   rw [List.mem_zipIdx_iff_getElem?]
   simpa using hi) e (by simpa using he)
  simp only [hbd, Bool.not_true, Bool.false_or, decide_eq_true_eq] at this
  exact this
 have hord : ∀ k, m ≤ k → k < l.toArray.size → ∀ listed : Array Bool, listed.size = l.toArray.size → k ∈ Region.ready .any l.toArray listed → Closed l.toArray listed → ∀ j, j < k → listed.getD j false = true := by
  intro k hmk hk listed hs hr hc j hj
  have hkl : k < l.length := by simpa using hk
  have h1 := htail (l[k], k) (by
   rw [List.mem_zipIdx_iff_getElem?]
   simp)
  simp only [Bool.or_eq_true, decide_eq_true_eq] at h1
  rcases h1 with h1 | h1
  ·omega
  ·rw [List.all_eq_true] at h1
   have h2 := h1 j (by simpa using hj)
   rw [mem_ready] at hr
   obtain ⟨_, o, ho', hall⟩ := hr
   refine uR hc [] #[] rfl (by simp) (by simp) l.toArray.toList (by simp) k hk j ?_ ?_
   ·unfold Region.before at h2
    rw [← Array.foldl_toList] at h2
    exact h2
   ·rw [ho']
    simpa using hall
 have hmd : ∀ j o, (l.take m)[j]? = some o → j < m ∧ l.toArray[j]? = some o ∧ ∀ d, o.dst = some d → d ∈ ds := by
  intro j o hj
  have hjm : j < m := by
   have := (List.getElem?_eq_some_iff.1 hj).1
   simp at this; omega
  have hjo : l[j]? = some o := by rw [List.getElem?_take] at hj; simpa [hjm] using hj
  exact ⟨hjm, by simpa using hjo, fun d hd => by rw [← hds]; exact List.mem_filterMap.2 ⟨o, List.mem_of_getElem? hj, hd⟩⟩
 have hinj : ∀ (i j : Nat) (oi oj : Oper) (d : Nat), (l.take m)[i]? = some oi → (l.take m)[j]? = some oj → oi.dst = some d → oj.dst = some d → i = j := by
  have hgen : ∀ (L : List Oper), (L.filterMap (·.dst)).Nodup → ∀ (i j : Nat) (oi oj : Oper) (d : Nat), L[i]? = some oi → L[j]? = some oj → oi.dst = some d → oj.dst = some d → i = j := by
   intro L
   induction L with
   | nil => intro _ i j oi oj d h; simp at h
   | cons o L ih =>
    intro hn i j oi oj d hi hj hdi hdj
    have hn' : (L.filterMap (·.dst)).Nodup := by
     rw [List.filterMap_cons] at hn
     split at hn
     ·exact hn
     ·exact (List.nodup_cons.1 hn).2
    have hno : ∀ (k : Nat) (ok : Oper) (dd : Nat), L[k]? = some ok → o.dst = some dd → ok.dst ≠ some dd := by
     intro k ok dd hk hod hkd
     rw [List.filterMap_cons, hod] at hn
     exact (List.nodup_cons.1 hn).1 (List.mem_filterMap.2 ⟨ok, List.mem_of_getElem? hk, hkd⟩)
    cases i with
    | zero =>
     cases j with
     | zero => rfl
     | succ j => simp at hi; subst hi; exact absurd hdj (hno j oj d (by simpa using hj) hdi)
    | succ i =>
     cases j with
     | zero => simp at hj; subst hj; exact absurd hdi (hno i oi d (by simpa using hi) hdj)
     | succ j => rw [ih hn' i j oi oj d (by simpa using hi) (by simpa using hj) hdi hdj]
  exact hgen _ (by rw [hds]; exact hnd)
 have main : ∀ (fuel : Nat) (listed : Array Bool) (g : Fr) (a : Act) (w : World), listed.size = l.length → fuel + cnt listed l.length = l.length → Closed l.toArray listed → (∀ j, m ≤ j → j < l.length → listed.getD j false = false) →
   Is n dm a (mask ds g f) → D.T (fun j => listed.getD j false) w → (∀ j o, (l.take m)[j]? = some o → listed.getD j false = true → overV D g w j o.dst) → wpAnyIn (fen rd) 0 P .any l.toArray (lift n Q) fuel listed a w := by
  intro fuel
  induction fuel with
  | zero =>
   intro listed g a w hs hcnt hc hno ha hT hV
   have hall := zaQ listed l.length (by omega)
   have hm' : m = l.length := by
    by_cases h : m < l.length
    ·have := hno m (Nat.le_refl _) h
     rw [hall m h] at this
     cases this
    ·omega
   have hfin := uc (l.take m) 0 (fun j o hj => by rw [Nat.zero_add]; exact (hV j o hj (hall j (by have := (hmd j o hj).1; omega))).get) (hq _ g w (fun j => by
    by_cases hj : j < l.length
    ·rw [hall j hj, decide_eq_true (by omega)]
    ·rw [v6 listed j (by omega), decide_eq_false (by omega)]) hT)
   rw [List.drop_eq_nil_of_le (by omega)] at hfin
   refine ⟨?_, ?_⟩
   ·refine List.eq_nil_iff_forall_not_mem.2 fun i hi => ?_
    obtain ⟨h1, h2⟩ := vZ (ops := l.toArray) (by simpa using hs) hi
    rw [hall i (by simpa using h1)] at h2
    cases h2
   ·exact hfin a ha
  | succ fuel ih =>
   intro listed g a w hs hcnt hc hno ha hT hV
   have hs' : listed.size = l.toArray.size := by simpa using hs
   refine ⟨fun hr => ?_, fun i hi => ?_⟩
   ·have hall := ready_nil hb hs' hr
    have := jE listed l.length (fun j hj => hall j (by simpa using hj))
    omega
   ·obtain ⟨h1, h2⟩ := vZ hs' hi
    have h1' : i < l.length := by simpa using h1
    by_cases him : i < m
    ·have hio : (l.take m)[i]? = some l[i] := by
      rw [List.getElem?_take, if_pos him]
      exact List.getElem?_eq_getElem h1'
     obtain ⟨_, hio', hdds⟩ := hmd i _ hio
     have howe := owes2_at _ 0 ho i _ hio (fun j => listed.getD j false) g w (by rw [Nat.zero_add]; exact h2) hT
     rw [Nat.zero_add] at howe
     have hready := hi
     rw [mem_ready] at hready
     obtain ⟨_, o, hoo, hall⟩ := hready
     rw [hio'] at hoo
     cases hoo
     have hwl := jr (ops := l.toArray) (yP l[i]) (fun j hj => by
      unfold yP at hj
      obtain ⟨e, he, rfl⟩ := List.mem_map.1 hj
      obtain ⟨he1, he2⟩ := List.mem_filter.1 he
      have hbd : Region.binds .any e = true := by
       unfold Region.binds
       cases hg : e.ground <;> rw [hg] at he2 <;> simp at he2 ⊢
      have hlt := hb i _ hio' e (by simpa using he1) hbd
      have hlst := hall e (by simpa using he1) hbd
      have hjm : e.on < m := by omega
      have hjo : (l.take m)[e.on]? = some l[e.on] := by
       rw [List.getElem?_take, if_pos hjm]
       exact List.getElem?_eq_getElem (by omega)
      have := (hV e.on _ hjo hlst).get
      unfold yx
      obtain ⟨_, hj2, _⟩ := hmd _ _ hjo
      rw [hj2]
      simp only [Option.bind_some]
      exact this) howe
     refine zag hio' hwl (fun dm e f' w' q => q.1) ?_ ha
     rintro dm' a' f' w' ha' ⟨_, rfl, hT', hL', hV'⟩
     rw [zaT listed i (by omega)] at hT'
     cases hd : l[i].dst with
     | none =>
      rw [hd] at hV'
      obtain ⟨rfl, hV'⟩ := hV'
      refine ih _ g a' w' (by simpa using hs) ?_ (hc.set hs' hi) ?_ ha' hT' ?_
      ·rw [kA listed i (by omega) h2, if_pos h1']; omega
      ·intro j hmj hjl
       rw [yA _ _ _ (by omega), if_neg (by omega)]
       exact hno j hmj hjl
      ·intro j oj hj hlj
       rw [yA _ _ _ (by omega)] at hlj
       by_cases hij : i = j
       ·subst hij
        rw [hio] at hj
        cases hj
        rw [hd]
        exact hV'
       ·rw [if_neg hij] at hlj
        have hvj := hV j oj hj hlj
        cases hdj : oj.dst with
        | none => rw [hdj] at hvj; exact fun v => hst _ j _ _ _ hlj hL' (hvj v)
        | some dj => rw [hdj] at hvj; exact hst _ j _ _ _ hlj hL' hvj
     | some d =>
     rw [hd] at hV'
     obtain ⟨v, rfl, hV'⟩ := hV'
     have hdds := hdds d hd
     have hmask : upd (mask ds g f) d v = mask ds (upd g d v) f := by
      funext k
      by_cases hk : k = d
      ·subst hk
       rw [upd_same, xN hdds, upd_same]
      ·rw [xT _ _ _ _ hk]
       by_cases hkd : k ∈ ds
       ·rw [xN hkd, xN hkd, xT _ _ _ _ hk]
       ·rw [xI hkd, xI hkd]
     rw [hmask] at ha'
     refine ih _ (upd g d v) a' w' (by simpa using hs) ?_ (hc.set hs' hi) ?_ ha' hT' ?_
     ·rw [kA listed i (by omega) h2, if_pos h1']; omega
     ·intro j hmj hjl
      rw [yA _ _ _ (by omega), if_neg (by omega)]
      exact hno j hmj hjl
     ·intro j oj hj hlj
      rw [yA _ _ _ (by omega)] at hlj
      by_cases hij : i = j
      ·subst hij
       rw [hio] at hj
       cases hj
       rw [hd]
       show D.V i (upd g d v d) _
       rw [upd_same]
       exact hV'
      ·rw [if_neg hij] at hlj
       have hvj := hV j oj hj hlj
       cases hdj : oj.dst with
       | none => rw [hdj] at hvj; exact fun v => hst _ j _ _ _ hlj hL' (hvj v)
       | some dj =>
        rw [hdj] at hvj
        have hne : dj ≠ d := fun e => hij (hinj i j _ oj d hio hj hd (by rw [hdj, e]))
        show D.V j (upd g d v dj) _
        rw [xT _ _ _ _ hne]
        exact hst _ j _ _ _ hlj hL' hvj
    ·have hallj := hord i (by omega) h1 listed hs' hi hc
     have him' : i = m := by
      by_cases h : m < i
      ·have := hno m (Nat.le_refl _) (by omega)
       rw [hallj m h] at this
       cases this
      ·omega
     subst him'
     have hfin := uc (l.take i) 0 (fun j o hj => by rw [Nat.zero_add]; exact (hV j o hj (hallj j (by have := (hmd j o hj).1; omega))).get) (hq _ g w (fun j => by
      by_cases hj : j < i
      ·rw [hallj j hj, decide_eq_true hj]
      ·rw [decide_eq_false hj]
       by_cases hjl : j < l.length
       ·exact hno j (by omega) hjl
       ·exact v6 listed j (by omega)) hT)
     have hfa := hfin a ha
     have hcn : cnt listed l.length = i := by
      have hz : ∀ k, i ≤ k → k ≤ l.length → cnt listed k = i := by
       intro k
       induction k with
       | zero => intro h _; rw [show i = 0 by omega]; rfl
       | succ k ihk =>
        intro h1 h2
        by_cases hk : i ≤ k
        ·rw [jJ, ihk hk (by omega), hno k hk (by omega)]; simp
        ·have : k + 1 = i := by omega
         rw [this]
         exact jE listed i hallj
      exact hz _ (by omega) (Nat.le_refl _)
     have htl := any_tail (rd := rd) (P := P) (m := i) (R := lift n Q) hb hord (fuel + 1) i listed a w (Nat.le_refl _) hs' hc (fun j hj => ⟨(fun h => by
      refine Nat.lt_of_not_le fun hij => ?_
      rw [hno j hij (by simpa using hj)] at h
      cases h), hallj j⟩) (by simp; omega) hfa
     exact htl.2 i hi
 have h0 : Is n dm a (mask ds f f) := by
  have : mask ds f f = f := by funext k; unfold mask; cases ds.elem k <;> rfl
  rw [this]; exact ha
 have hz : cnt (Array.replicate l.toArray.size false) l.length = 0 := by
  unfold cnt
  rw [List.length_eq_zero_iff]
  refine List.filter_eq_nil_iff.2 fun j hj => ?_
  rw [xM]
  simp
 refine main _ _ f a _ (by simp) (by rw [hz]; simp) ?_ (by intro j _ _; rw [xM]) h0 (by rw [show (fun j => (Array.replicate l.toArray.size false).getD j false) = fun _ => false from funext fun j => xM _ j]; exact hT) ?_
 ·intro j o _ h; rw [xM] at h; cases h
 ·intro j o _ h; rw [xM] at h; cases h
end
end Gw
end Go.Proofs.YtjebgcoknpcadaaGreatDoor
end
section
namespace Go.Proofs.YtjebgcoknpcadaaGreatDoor
open Go.RowKit
namespace Gw
def FC (x : FnV) : List Value := [x.v]
def SC (s : ByteArray) : List Value := [.string s]
def ic (k : IntKind) (n : Int) : List Value := [.int k n]
theorem x6 {i : Nat} {a b : Value} {l l' : List (Nat × Value)} (h : a = b) (hl : l = l') : (i, a) :: l = (i, b) :: l' := by rw [h, hl]
theorem jv.get {w : World} {b o i : Nat} {l : List Value} {v : Value} (h : jv w b o l) (hl : l[i]? = some v) : w.cell? ⟨b, o + i, none⟩ = some v := h _ _ hl
section
variable {P : Program} {rd : Option Nat} {n : Nat} {dm : List Nat} {ops : Array Oper} {Q : Post} {f : Fr} {w : World} {rest : List Oper} {ty : TypeId} {pos : String} {af : Array Edge}
theorem flat_len {α : Type} {C : α → List Value} {k : Nat} : ∀ {l : List α}, (∀ a ∈ l, (C a).length = k) → ((l.map C).flatten).length = l.length * k
 | [], _ => by simp
 | a :: l, h => by
  have := flat_len (C := C) (l := l) fun b hb => h b (by simp [hb])
  simp only [List.map_cons, List.flatten_cons, List.length_append, List.length_cons, h a (by simp), this, Nat.add_mul]
  omega
theorem xh {d : Option Tmp} {gd : Option (Nat × Bool)} {t : Nat} {pl : List (Nat × Nat)} {z out : List Value} {parts : Array (Nat × Operand)} {vs : List (Nat × Value)} (hb : BuT P t pl z) (hv : parts.toList.map (fun q => (q.1, evF f q.2)) = vs) (hf : Bld pl z vs out) : Does P ⟨d, .build t parts, ty, pos, af, gd⟩ f w (.agg out.toArray) w :=
 xB hb (hv ▸ hf)
theorem j1 {α : Type} {C : α → List Value} {l : List α} {vs : List Value} {dd : Tmp} {gd : Option (Nat × Bool)} {t e k len : Nat} {parts : Array (Nat × Operand)} (ht : yu P t e k) (hz : ∃ z, (P.info? e).bind (·.zero) = some z)
  (hv : parts.toList.map (fun q => (q.1, evF f q.2)) = vs.zipIdx.map (fun q => (q.2, q.1))) (hr : vs.map (fun v => v.cells.toList) = l.map C) (hk : ∀ a ∈ l, (C a).length = k) (h24 : len * k ≤ 16777216 ∧ len ≤ 16777216) (hlen : l.length = len) :
  ∃ (s : SlV) (w' : World), Does P ⟨some dd, .buildSlice t len parts, ty, pos, af, gd⟩ f w s.v w' ∧ Ext w w' ∧ Own w' 0 e k s (l.map C) ∧ ∀ i, s.fp i → i = w.heap.size := by
 have hk' : ∀ r ∈ l.map C, r.length = k := by
  intro r hr; obtain ⟨a, ha, rfl⟩ := List.mem_map.1 hr; exact hk a ha
 obtain ⟨w', h1, hn⟩ := does_buildSlice (P := P) (f := f) (w := w) (dd := dd) (ty := ty) (pos := pos) (af := af) (gd := gd) ht hz hv hr hk' (by simpa using hlen) h24.1
 refine ⟨_, w', h1, hn.ext, ⟨.inr ⟨_, len, (l.map C).flatten.toArray, ?_, Nat.zero_le _, hn.blk, ?_, ?_, ?_⟩, hk'⟩, fun i hi => hi.2⟩
 ·simp [hlen]
 ·simp [hlen]
 ·simp [flat_len hk, hlen]
 ·simp [flat_len hk, List.take_of_length_le]
theorem xx {α : Type} {C : α → List Value} {l : List α} {vs : List Value} {dd : Tmp} {t e k len : Nat} {parts : Array (Nat × Operand)} (ht : yu P t e k) (hz : ∃ z, (P.info? e).bind (·.zero) = some z)
  (hv : parts.toList.map (fun q => (q.1, evF f q.2)) = vs.zipIdx.map (fun q => (q.2, q.1))) (hr : vs.map (fun v => v.cells.toList) = l.map C) (hk : ∀ a ∈ l, (C a).length = k) (h24 : len * k ≤ 16777216 ∧ len ≤ 16777216) (hlen : l.length = len) (hd : dd < n)
  (h : ∀ b w' (s : SlV), (Own w' 0 e k s (l.map C) ∧ ∀ i, s.fp i → i = b) → (Ext w w' ∧ w.heap.size ≤ b) → wl P rd n dm ops rest Q (upd f dd s.v) w') : wl P rd n dm ops (⟨some dd, .buildSlice t len parts, ty, pos, af, none⟩ :: rest) Q f w := by
 obtain ⟨s, w', h1, h2, h3, h4⟩ := j1 (P := P) (f := f) (w := w) (dd := dd) (ty := ty) (pos := pos) (af := af) (gd := none) ht hz hv hr hk h24 hlen
 exact zg h1 hd (h w.heap.size w' s ⟨h3, h4⟩ ⟨h2, Nat.le_refl _⟩)
theorem does_allocN {dd : Tmp} {gd : Option (Nat × Bool)} {t : TypeId} {l : List Value} (hz : ka P t l) : ∃ w', Does P ⟨some dd, .alloc t, ty, pos, af, gd⟩ f w (.pointer (some ⟨w.heap.size, 0, none⟩)) w' ∧ New w w' w.heap.size t l := by
 obtain ⟨v, hv, rfl⟩ := hz
 refine ⟨w.alloc (.cells v.cells t), ?_, ⟨rfl, by simp⟩⟩
 cases hq : P.info? t with
 | none => simp [hq] at hv
 | some i =>
  have hi : i.zero = some v := by simpa [hq] using hv
  simp [Does, execOp, Instr.alloc, zeroValue, typeInfo, hq, hi, newVar, newRow]
theorem newc {P : Program} {g : FuncId} {args : Array Value} {w : World} {R V : Value → World → Prop} (h : Calls P g args w fun e w' => ∃ v, e = .returned v ∧ R v w') (hR : ∀ v w', R v w' → Ext w w' ∧ V v w') : Calls P g args w fun e w' => ∃ v, e = .returned v ∧ Ext w w' ∧ V v w' :=
 CallsIn.mono (F := fen none) (n := 0) (callsIn_wide.2 h) (by rintro e w' ⟨v, rfl, hv⟩; exact ⟨v, rfl, (hR v w' hv).1, (hR v w' hv).2⟩) |> callsIn_wide.1
theorem yK {α : Type} {C : α → List Value} {dd : Tmp} {t e k bytes : Nat} {x y : Operand} {s r : SlV} {l m : List α} (ht : yu P t e k) (he : vU P e k bytes) (hx : evF f x = s.v) (hy : evF f y = r.v) (hs : Own w 0 e k s (l.map C)) (hr : Rd w k r (m.map C)) (hne : m ≠ [])
  (h1 : ∀ a ∈ m, ∀ v ∈ C a, v.oneCell' = true) (hm : (l.length + m.length) * bytes ≤ 140737488355328) (hm2 : l.length + m.length ≤ 140737488355328) (hd : dd < n)
  (h : ∀ (s' : SlV) w', Own w' 0 e k s' ((l ++ m).map C) → Chg s.fp w w' → (∀ i, s'.fp i → s.fp i ∨ w.heap.size ≤ i) → wl P rd n dm ops rest Q (upd f dd s'.v) w') : wl P rd n dm ops (⟨some dd, .call ⟨.builtin .append, #[x, y], #[t, t]⟩, ty, pos, af, none⟩ :: rest) Q f w := by
 refine wl_append (news := m.map C) ht he hx hy hs hr.sl (by simpa using hne) ?_ (by simpa using hm) (by simpa using hm2) (Nat.zero_le _) hd fun s' w' ho hc hg => h s' w' (by simpa using ho) hc hg
 intro r hr v hv
 obtain ⟨a, ha, rfl⟩ := List.mem_map.1 hr
 exact h1 a ha v hv
theorem does_append0 {dd : Option Tmp} {gd : Option (Nat × Bool)} {t e k : Nat} {x y : Operand} {s r : SlV} (ht : yu P t e k) (hx : evF f x = s.v) (hy : evF f y = r.v) (hs : s.n ≤ s.c) (hr : r.n = 0) : Does P ⟨dd, .call ⟨.builtin .append, #[x, y], #[t, t]⟩, ty, pos, af, gd⟩ f w s.v w := by
 obtain ⟨sp, sn, sc⟩ := s
 obtain ⟨rp, rn, rc⟩ := r
 simp only at hs hr
 subst hr
 unfold Does execOp
 simp only [resolve, invoke, builtin, Sem.run_bind, Sem.run_pure, Result.andThen_ok, List.map_toArray, List.map_cons, List.map_nil, hx, hy, SlV.eq]
 have hl : ∀ a : Addr, (loadCells a 0).run P w = .ok #[] w := fun a => rfl
 cases rp with
 | none => cases sp <;> simp [Builtin.append_, run_underlying ht.1, run_sizeOf ht.2, Builtin.lenOf, Builtin.firstCells, hs, storeCells]
 | some a => cases sp <;> simp [Builtin.append_, run_underlying ht.1, run_sizeOf ht.2, Builtin.lenOf, Builtin.firstCells, hs, storeCells, hl]
theorem wl_appendm {α : Type} {C : α → List Value} {dd : Tmp} {t e k bytes : Nat} {x y : Operand} {s r : SlV} {l m : List α} (ht : yu P t e k) (he : vU P e k bytes) (hx : evF f x = s.v) (hy : evF f y = r.v) (hs : Own w 0 e k s (l.map C)) (hr : Rd w k r (m.map C))
  (h1 : ∀ a, ∀ v ∈ C a, v.oneCell' = true) (hm : (l.length + m.length) * bytes ≤ 140737488355328) (hm2 : l.length + m.length ≤ 140737488355328) (hd : dd < n)
  (h : ∀ (s' : SlV) w', Own w' 0 e k s' ((l ++ m).map C) → Chg s.fp w w' → (∀ i, s'.fp i → s.fp i ∨ w.heap.size ≤ i) → wl P rd n dm ops rest Q (upd f dd s'.v) w') : wl P rd n dm ops (⟨some dd, .call ⟨.builtin .append, #[x, y], #[t, t]⟩, ty, pos, af, none⟩ :: rest) Q f w := by
 by_cases hne : m = []
 ·subst hne
  refine zg (does_append0 ht hx hy hs.room (by have := hr.sl.len; simpa using this)) hd ?_
  exact h s w (by simpa using hs) (Chg.refl _ _) (fun i hi => .inl hi)
 ·exact yK ht he hx hy hs hr hne (fun a _ => h1 a) hm hm2 hd h
theorem set_flat {α : Type} {C : α → List Value} {a : α} {v : Value} (hv : C a = [v]) : ∀ (l : List α) (j : Nat), (∀ b ∈ l, (C b).length = 1) → j < l.length → ((l.set j a).map C).flatten = ((l.map C).flatten).set j v
 | [], _, _, hj => by simp at hj
 | b :: l, j, hb, hj => by
  obtain ⟨u, hu⟩ : ∃ u, C b = [u] := by
   match hq : C b, hb b (by simp) with
   | [u], _ => exact ⟨u, rfl⟩
  cases j with
  | zero => simp [hv, hu]
  | succ j => simp only [List.set_cons_succ, List.map_cons, List.flatten_cons, hu, List.singleton_append, set_flat hv l j (fun c hc => hb c (by simp [hc])) (by simpa using hj)]
theorem wl_store1 {α : Type} {C : α → List Value} {t e : Nat} {x y : Operand} {s : SlV} {l : List α} {a : α} {v : Value} {i : Int} (ht : OneT P t) (hx : evF f x = .pointer (some ⟨s.blk, s.off + i.toNat * 1, none⟩)) (hy : evF f y = v) (hs : Own w 0 e 1 s (l.map C)) (hi : 0 ≤ i ∧ i < l.length) (hv : C a = [v]) (h1 : v.oneCell' = true)
  (h : ∀ w', Own w' 0 e 1 s ((l.set i.toNat a).map C) → Chg s.fp w w' → wl P rd n dm ops rest Q f w') : wl P rd n dm ops (⟨none, .store t x y, ty, pos, af, none⟩ :: rest) Q f w := by
 have hrow : ∀ r ∈ ((l.set i.toNat a).map C), r.length = 1 := by
  intro r hr
  obtain ⟨b, hb, rfl⟩ := List.mem_map.1 hr
  rcases List.mem_or_eq_of_mem_set hb with hb | rfl
  ·exact hs.row _ (List.mem_map.2 ⟨b, hb, rfl⟩)
  ·rw [hv]; rfl
 have hone : ∀ b ∈ l, (C b).length = 1 := fun b hb => hs.row _ (List.mem_map.2 ⟨b, hb, rfl⟩)
 have hfl : ∀ {l : List α}, (∀ b ∈ l, (C b).length = 1) → ((l.map C).flatten).length = l.length := fun h => by have := flat_len (k := 1) h; simpa using this
 have hset := set_flat hv l i.toNat hone (by omega)
 have hsz : ((l.set i.toNat a).map C).flatten.length = l.length := by rw [hset, List.length_set]; exact hfl hone
 have hll := hfl hone
 rcases hs.own with ⟨_, hn⟩ | ⟨g, cap, cur, rfl, hlo, hg, hnc, hcs, htk⟩
 ·simp at hn; subst hn; simp at hi; omega
 ·have hlt : i.toNat < cur.toList.length := by
   simp at hnc hcs; simp; omega
  have hx' : evF f x = .pointer (some ⟨g, i.toNat, none⟩) := by rw [hx]; simp [SlV.blk, SlV.off]
  refine xi (l := cur.toList) (l' := cur.toList.set i.toNat v) ht hx' hy (by show w.heap[g]? = _; simpa using hg) hlt h1 rfl fun w' hb hc _ => ?_
  refine h w' ⟨.inr ⟨g, cap, (cur.toList.set i.toNat v).toArray, by simp, hlo, hb, by simpa using hnc, by simpa using hcs, ?_⟩, hrow⟩ (hc.mono fun j _ hj => ⟨by simp, by rw [hj]; rfl⟩)
  rw [hset, ← htk]
  simp [List.take_set]
theorem add_addr' (b o k : Nat) : (⟨b, o, none⟩ : Addr).add k = ⟨b, o + k, none⟩ := by unfold Addr.add; split <;> simp_all
theorem does_sliceG {d : Option Tmp} {gd : Option (Nat × Bool)} {t e k l h m : Nat} {x : Operand} {lo hi mx : Option Operand} {s : SlV} (ht : yu P t e k) (hx : evF f x = s.v) (hb : (Instr.sliceBounds true s.n s.c (lo.map (evF f)) (hi.map (evF f)) (mx.map (evF f))).run P w = .ok (l, h, m) w) :
  Does P ⟨d, .slice t x lo hi mx, ty, pos, af, gd⟩ f w (⟨if m = l then s.p else s.p.map (·.add (l * k)), h - l, m - l⟩ : SlV).v w := by
 have he : P.elem t = e := by unfold Program.elem; rw [ht.1]
 unfold Does execOp
 simp only [hx, SlV.eq, Sem.run_bind, run_sliceAt_slice (P := P) w t _ _ _ _ (by rw [he]; exact ht.1)]
 simp only [Instr.slice, Sem.run_bind, run_underlying ht.1, Result.andThen_ok, hb, run_sizeOf ht.2, Sem.run_pure]
theorem bounds_hi {n c : Nat} {kd : IntKind} {i : Int} (h0 : 0 ≤ i) (h1 : i ≤ c) : (Instr.sliceBounds true n c none (some (.int kd i)) none).run P w = .ok (0, i.toNat, c) w := by
 simp [Instr.sliceBounds, run_sliceBound, h0, h1]
theorem bounds_lo {n c : Nat} {kd : IntKind} {i : Int} (h0 : 0 ≤ i) (h1 : i ≤ n) : (Instr.sliceBounds true n c (some (.int kd i)) none none).run P w = .ok (i.toNat, n, c) w := by
 simp [Instr.sliceBounds, run_sliceBound, h0, h1]
theorem does_pre {α : Type} {C : α → List Value} {d : Option Tmp} {gd : Option (Nat × Bool)} {t e k : Nat} {x y : Operand} {s : SlV} {l : List α} {kd : IntKind} {i : Int} (ht : yu P t e k) (hx : evF f x = s.v) (hy : evF f y = .int kd i) (hs : Own w 0 e k s (l.map C)) (hi : 0 ≤ i ∧ i ≤ l.length) :
  Does P ⟨d, .slice t x none (some y) none, ty, pos, af, gd⟩ f w (⟨s.p, i.toNat, s.c⟩ : SlV).v w := by
 have hn := hs.sl.len
 rw [List.length_map] at hn
 have := hs.room
 refine (does_sliceG (l := 0) (h := i.toNat) (m := s.c) ht hx (by simp only [Option.map_none, Option.map_some, hy]; exact bounds_hi hi.1 (by omega))).val ?_
 cases hp : s.p <;> simp [SlV.eq, hp, Addr.add]
theorem Own.preL {α : Type} {C : α → List Value} {e k : Nat} {s : SlV} {l : List α} {i : Int} (hs : Own w 0 e k s (l.map C)) (hi : 0 ≤ i ∧ i ≤ l.length) {c : Nat} (hc : i.toNat ≤ c) (hc2 : c ≤ s.c) : Own w 0 e k ⟨s.p, i.toNat, c⟩ ((l.take i.toNat).map C) := by
 rw [List.map_take]
 exact hs.pre (by simp; omega) hc hc2
theorem Own.clip {α : Type} {C : α → List Value} {e k : Nat} {s : SlV} {l : List α} {i : Int} (hs : Own w 0 e k s (l.map C)) (hi : 0 ≤ i ∧ i ≤ l.length) : i.toNat ≤ s.c := by
 have hn := hs.sl.len
 have := hs.room
 rw [List.length_map] at hn
 omega
theorem does_suf {α : Type} {C : α → List Value} {d : Option Tmp} {gd : Option (Nat × Bool)} {t e k : Nat} {x y : Operand} {s : SlV} {l : List α} {kd : IntKind} {i : Int} (ht : yu P t e k) (hx : evF f x = s.v) (hy : evF f y = .int kd i) (hs : Rd w k s (l.map C)) (hi : 0 ≤ i ∧ i ≤ l.length) :
  Does P ⟨d, .slice t x (some y) none none, ty, pos, af, gd⟩ f w (⟨if s.c = i.toNat then s.p else s.p.map (·.add (i.toNat * k)), s.n - i.toNat, s.c - i.toNat⟩ : SlV).v w := by
 have hn := hs.sl.len
 rw [List.length_map] at hn
 exact does_sliceG (l := i.toNat) (h := s.n) (m := s.c) ht hx (by simp only [Option.map_none, Option.map_some, hy]; exact bounds_lo hi.1 (by omega))
theorem Rd.suf {α : Type} {C : α → List Value} {k : Nat} {s : SlV} {l : List α} {i : Int} (hs : Rd w k s (l.map C)) (hi : 0 ≤ i ∧ i ≤ l.length) : Rd w k ⟨if s.c = i.toNat then s.p else s.p.map (·.add (i.toNat * k)), s.n - i.toNat, s.c - i.toNat⟩ ((l.drop i.toNat).map C) ∧ ∀ j, SlV.fp ⟨if s.c = i.toNat then s.p else s.p.map (·.add (i.toNat * k)), s.n - i.toNat, s.c - i.toNat⟩ j → s.fp j := by
 have hn := hs.sl.len
 rw [List.length_map] at hn
 have hfp : ∀ j, SlV.fp ⟨if s.c = i.toNat then s.p else s.p.map (·.add (i.toNat * k)), s.n - i.toNat, s.c - i.toNat⟩ j → s.fp j := by
  rintro j ⟨h1, rfl⟩
  cases hp : s.p with
  | none => simp [hp] at h1
  | some a =>
   refine ⟨by simp [hp], ?_⟩
   simp only [SlV.blk, hp]
   by_cases hc : s.c = i.toNat
   ·simp [hc]
   ·simp only [hc, if_false, Option.map_some]; unfold Addr.add; split <;> rfl
 refine ⟨⟨⟨by simp [hn], fun r hr => ?_, fun j r hj => ?_⟩, fun j hj => hs.lt j (hfp j hj), by have := hs.room; simp only; omega⟩, hfp⟩
 ·obtain ⟨a, ha, rfl⟩ := List.mem_map.1 hr
  exact hs.sl.row _ (List.mem_map.2 ⟨a, List.mem_of_mem_drop ha, rfl⟩)
 ·have hj' : (l.map C)[i.toNat + j]? = some r := by
   rw [List.getElem?_map] at hj ⊢
   rw [List.getElem?_drop] at hj
   exact hj
  obtain ⟨hp, hc⟩ := hs.sl.cells _ _ hj'
  have hlt : i.toNat + j < l.length := by
   have := (List.getElem?_eq_some_iff.1 hj').1; simpa using this
  have hne : ¬ s.c = i.toNat := by have := hs.room; omega
  have e1 : (SlV.mk (if s.c = i.toNat then s.p else s.p.map (·.add (i.toNat * k))) (s.n - i.toNat) (s.c - i.toNat)).p = some ⟨s.blk, s.off + i.toNat * k, none⟩ := by
   simp only [hne, if_false, hp, Option.map_some]; rw [add_addr']
  have e2 : SlV.blk (SlV.mk (if s.c = i.toNat then s.p else s.p.map (·.add (i.toNat * k))) (s.n - i.toNat) (s.c - i.toNat)) = s.blk := by
   unfold SlV.blk at *; rw [e1]
  have e3 : SlV.off (SlV.mk (if s.c = i.toNat then s.p else s.p.map (·.add (i.toNat * k))) (s.n - i.toNat) (s.c - i.toNat)) = s.off + i.toNat * k := by
   unfold SlV.off at *; rw [e1]
  rw [e2, e3]
  refine ⟨e1, ?_⟩
  rw [Nat.add_assoc, ← Nat.add_mul]
  exact hc
end
section
variable {A : Nat → Prop} {N : Oth} {w0 w w' : World} {L Z : List OA}
theorem St.lit (h : St A N w0 w L Z) {α : Type} {C : α → List Value} {l : List α} {e k b : Nat} {s : SlV} (ho : Own w' 0 e k s (l.map C) ∧ ∀ i, s.fp i → i = b) (hx : Ext w w' ∧ w.heap.size ≤ b) (hl : l.length ≤ 140737488355328) : St A N w0 w' (oS e k C s l :: L) Z :=
 h.add (b := oS e k C s l) (G := s.fp) hx.1 ⟨⟨ho.1, hl⟩, fun _ => Iff.rfl⟩ (fun i hi => by rw [ho.2 i hi]; exact hx.2)
theorem St.away (h : St A N w0 w L Z) (n : Nat) {e k : Nat} {α : Type} {C : α → List Value} {s : SlV} {l : List α} {L' : List OA} (q : L[n]? = some (oS e k C s l) := by rfl) (q' : L.eraseIdx n = L' := by rfl) {v : World} (hc : Chg s.fp w v) : St A (N.or s.fp) w0 v L' Z := by
 subst q'
 obtain ⟨U, hU, hN, hA, hL, hZ, hW⟩ := h
 obtain ⟨F, hF, hFU, hR⟩ := hL.front n q
 have hlt : ∀ i, s.fp i → U i := fun i hi => hFU i ((hF.2 i).2 hi)
 refine ⟨fun i => U i ∧ ¬ F i, fun i hi => ⟨(hU i hi.1).1, Nat.lt_of_lt_of_le (hU i hi.1).2.1 hc.size, fun q => q.elim (hU i hi.1).2.2 (fun q => hi.2 ((hF.2 i).2 q))⟩, fun i hi => Nat.lt_of_lt_of_le (hi.elim (hN i) (fun q => (hU i (hlt i q)).2.1)) hc.size, hA.thenChg hc (fun i hi hs => ((hU i (hlt i hs)).1).elim id (fun q => absurd hi (by omega))), Sep.chg hc hR (fun i hi hs => hi.2 ((hF.2 i).2 hs)), fun z hz => ?_, Wat.chg (N := N) hW hc (fun i hi => (hU i (hlt i hi)).2.2)⟩
 obtain ⟨G, g, hG⟩ := hZ z hz
 refine ⟨G, z.loc g hc (fun i hi hs => hG i hi (.inl (hlt i hs))), fun i hi q => hG i hi ?_⟩
 rcases q with q | q | q
 ·exact .inl q.1
 ·exact .inr q
 ·exact .inl (hlt i q)
theorem St.addS (h : St A N w0 w L Z) (hc : Ext w w') {k : Nat} {α : Type} {C : α → List Value} {s : SlV} {l : List α} (hr : Rd w' k s (l.map C)) (hl : l.length ≤ 140737488355328) (hf : ∀ i, s.fp i → w.heap.size ≤ i) : St A N w0 w' L (fS k C s l :: Z) :=
 h.addZ (b := fS k C s l) (G := s.fp) hc ⟨⟨hr, hl⟩, fun _ => Iff.rfl⟩ hf
def NewZ (w w' : World) (Zs : List OA) : Prop := ∀ z ∈ Zs, ∃ F, z.holds w' F ∧ ∀ i, F i → w.heap.size ≤ i
theorem NewZ.nil : NewZ w w' [] := fun _ h => by simp at h
theorem NewZ.s {k : Nat} {α : Type} {C : α → List Value} {s : SlV} {l : List α} {Zs : List OA} (hr : Rd w' k s (l.map C)) (hl : l.length ≤ 140737488355328) (hf : ∀ i, s.fp i → w.heap.size ≤ i) (h : NewZ w w' Zs) : NewZ w w' (fS k C s l :: Zs) := fun z hz => by
 rcases List.mem_cons.1 hz with rfl | hz
 ·exact ⟨s.fp, ⟨⟨hr, hl⟩, fun _ => Iff.rfl⟩, hf⟩
 ·exact h z hz
theorem NewZ.b {b t : Nat} {l : List Value} {Zs : List OA} (hb : Blk w' b t l) (hl : w.heap.size ≤ b) (h : NewZ w w' Zs) : NewZ w w' (oB b t l :: Zs) := fun z hz => by
 rcases List.mem_cons.1 hz with rfl | hz
 ·exact ⟨(· = b), ⟨hb, fun _ => Iff.rfl⟩, fun i hi => by rw [hi]; exact hl⟩
 ·exact h z hz
theorem St.addZs (h : St A N w0 w L Z) (hc : Ext w w') {Zs Z' : List OA} (hz : NewZ w w' Zs) (e : Zs ++ Z = Z' := by rfl) : St A N w0 w' L Z' := by
 subst e
 obtain ⟨U, hU, hN, hA, hL, hZ, hW⟩ := h
 refine ⟨U, fun i hi => ⟨(hU i hi).1, Nat.lt_of_lt_of_le (hU i hi).2.1 hc.size, (hU i hi).2.2⟩, fun i hi => Nat.lt_of_lt_of_le (hN i hi) hc.size, hA.thenExt hc, Sep.chg hc hL (fun _ _ x => x), fun z hz' => ?_, hW.chg hc (fun _ x => x.elim)⟩
 rcases List.mem_append.1 hz' with hz' | hz'
 ·obtain ⟨F, g, hF⟩ := hz z hz'
  refine ⟨F, g, fun i hi q => ?_⟩
  have := hF i hi
  rcases q with q | q
  ·exact absurd (hU i q).2.1 (by omega)
  ·exact absurd (hN i q) (by omega)
 ·exact (hZ.chg hc (fun _ x => x.elim) (fun _ hi => .inl hi)) z hz'
theorem St.newAt (h : St A N w0 w L Z) (hc : Ext w w') {b t : Nat} {l : List Value} (hb : Blk w' b t l) (hl : w.heap.size ≤ b) : St A N w0 w' (oB b t l :: L) Z :=
 h.add (b := oB b t l) (G := (· = b)) hc ⟨hb, fun _ => Iff.rfl⟩ (fun i hi => by rw [hi]; exact hl)
theorem St.awayB (h : St A N w0 w L Z) (n : Nat) {b t : Nat} {l : List Value} {L' : List OA} (q : L[n]? = some (oB b t l) := by rfl) (q' : L.eraseIdx n = L' := by rfl) {v : World} (hc : Chg (· = b) w v) : St A (N.or (· = b)) w0 v L' Z := by
 subst q'
 obtain ⟨U, hU, hN, hA, hL, hZ, hW⟩ := h
 obtain ⟨F, hF, hFU, hR⟩ := hL.front n q
 have hlt : U b := hFU b ((hF.2 b).2 rfl)
 refine ⟨fun i => U i ∧ ¬ F i, fun i hi => ⟨(hU i hi.1).1, Nat.lt_of_lt_of_le (hU i hi.1).2.1 hc.size, fun q => q.elim (hU i hi.1).2.2 (fun q => hi.2 ((hF.2 i).2 q))⟩, fun i hi => Nat.lt_of_lt_of_le (hi.elim (hN i) (fun q => by rw [q]; exact (hU b hlt).2.1)) hc.size, hA.thenChg hc (fun i hi hs => by rw [hs] at hi ⊢; exact ((hU b hlt).1).elim id (fun q => absurd hi (by omega))), Sep.chg hc hR (fun i hi hs => hi.2 ((hF.2 i).2 hs)), fun z hz => ?_, Wat.chg (N := N) hW hc (fun i hi => by rw [hi]; exact (hU b hlt).2.2)⟩
 obtain ⟨G, g, hG⟩ := hZ z hz
 refine ⟨G, z.loc g hc (fun i hi hs => hG i hi (.inl (by rw [hs]; exact hlt))), fun i hi q => hG i hi ?_⟩
 rcases q with q | q | q
 ·exact .inl q.1
 ·exact .inr q
 ·exact .inl (by rw [q]; exact hlt)
end
end Gw
end Go.Proofs.YtjebgcoknpcadaaGreatDoor
end
section
namespace Go.Proofs.YtjebgcoknpcadaaGreatDoor
open Go.RowKit
namespace Gw
def ws (P : Program) (rd : Option Nat) (n : Nat) (dm : List Nat) (l : List Oper) (lo : Nat) (Q : Post) (f : Fr) (w : World) : Prop :=
 ∀ (a : Act) (listed : Array Bool), Is n dm a f → listed.size = l.length → Closed l.toArray listed → (∀ j, j < l.length → (listed.getD j false = true ↔ j < lo)) → wpAnyIn (fen rd) 0 P .any l.toArray (lift n Q) (l.length - lo) listed a w
def drawS (ops : Array Oper) (m : Nat) : Bool :=
 (ops.toList.take m).all (fun o => o.dst.isSome) &&
 decide (((ops.toList.take m).filterMap (·.dst)).Nodup) &&
 ops.toList.zipIdx.all (fun q => q.1.after.toList.all fun e => !Region.binds .any e || decide (e.on < q.2)) &&
 ops.toList.zipIdx.all (fun q => decide (q.2 < m) || (List.range m).all fun i => ((Region.before ops).getD q.2 0).testBit i) &&
 decide (m ≤ ops.size)
def chainS (ops : Array Oper) (lo hi : Nat) : Bool :=
 ops.toList.zipIdx.all (fun q => q.1.after.toList.all fun e => !Region.binds .any e || decide (e.on < q.2)) &&
 ops.toList.zipIdx.all (fun q => decide (q.2 < lo) || (List.range (min q.2 hi)).all fun i => ((Region.before ops).getD q.2 0).testBit i) &&
 decide (hi ≤ ops.size)
theorem cnt_pre (listed : Array Bool) (m n : Nat) (hmn : m ≤ n) (h1 : ∀ j, j < m → listed.getD j false = true) (h2 : ∀ j, m ≤ j → j < n → listed.getD j false = false) : cnt listed n = m := by
 have hz : ∀ k, m ≤ k → k ≤ n → cnt listed k = m := by
  intro k
  induction k with
  | zero => intro h _; rw [show m = 0 by omega]; rfl
  | succ k ihk =>
   intro h3 h4
   by_cases hk : m ≤ k
   ·rw [jJ, ihk hk (by omega), h2 k hk (by omega)]; simp
   ·have : k + 1 = m := by omega
    rw [this]
    exact jE listed m h1
 exact hz n hmn (Nat.le_refl _)
section
variable {P : Program} {rd : Option Nat} {n m : Nat} {dm : List Nat} {ops : Array Oper} {Q : Post} {f : Fr} {w : World}
theorem wc_ws {id : Nat} {l : List Oper} (hm : P.follows .mixedOrders = true) (h : ∀ w', Ext w w' → ws P rd n dm l 0 Q f w') : wc P rd n dm (.region id l.toArray true) Q f w := by
 intro a ha
 refine wpIn_region_any hm ?_
 have := h _ (Ext.drawn w) a (Array.replicate l.toArray.size false) ha (by simp) (by intro j o _ h; rw [xM] at h; cases h) (by intro j _; rw [xM]; simp)
 simpa using this
theorem back_of {l : List Oper} (hback : ∀ q ∈ l.toArray.toList.zipIdx, (q.1.after.toList.all fun e => !Region.binds .any e || decide (e.on < q.2)) = true) : Back l.toArray := by
 intro i o hi e he hbd
 have := List.all_eq_true.1 (hback (o, i) (by
  rw [List.mem_zipIdx_iff_getElem?]
  simpa using hi)) e (by simpa using he)
 simp only [hbd, Bool.not_true, Bool.false_or, decide_eq_true_eq] at this
 exact this
theorem ord_of {l : List Oper} {k j : Nat} (hk : k < l.length) (h2 : ((Region.before l.toArray).getD k 0).testBit j = true) {listed : Array Bool} (hr : k ∈ Region.ready .any l.toArray listed) (hc : Closed l.toArray listed) : listed.getD j false = true := by
 rw [mem_ready] at hr
 obtain ⟨_, o, ho', hall⟩ := hr
 refine uR hc [] #[] rfl (by simp) (by simp) l.toArray.toList (by simp) k (by simpa using hk) j ?_ ?_
 ·unfold Region.before at h2
  rw [← Array.foldl_toList] at h2
  exact h2
 ·rw [ho']
  simpa using hall
theorem kk {l : List Oper} (lo hi : Nat) (hB : chainS l.toArray lo hi = true) (hlh : lo ≤ hi) (h : wl P rd n dm l.toArray ((l.take hi).drop lo) (fun dm' e f' w' => e = .normal ∧ ws P rd n dm' l hi Q f' w') f w) : ws P rd n dm l lo Q f w := by
 simp only [chainS, Bool.and_eq_true, decide_eq_true_eq] at hB
 obtain ⟨⟨hback, htail⟩, hhi⟩ := hB
 rw [List.all_eq_true] at hback htail
 simp only [List.size_toArray] at hhi
 have hb : Back l.toArray := back_of hback
 have hord : ∀ k, lo ≤ k → k < l.length → ∀ listed : Array Bool, k ∈ Region.ready .any l.toArray listed → Closed l.toArray listed → ∀ j, j < k → j < hi → listed.getD j false = true := by
  intro k hmk hk listed hr hc j hj hjh
  have h1 := htail (l[k], k) (by
   rw [List.mem_zipIdx_iff_getElem?]
   simp)
  simp only [Bool.or_eq_true, decide_eq_true_eq] at h1
  rcases h1 with h1 | h1
  ·omega
  ·rw [List.all_eq_true] at h1
   exact ord_of hk (h1 j (by simp; omega)) hr hc
 intro a listed ha hs hc hl
 have hR := h a ha
 clear h
 have main : ∀ (fuel k : Nat) (listed : Array Bool) (a : Act) (w : World), lo ≤ k → k ≤ hi → listed.size = l.length → Closed l.toArray listed → (∀ j, j < l.length → (listed.getD j false = true ↔ j < k)) → fuel + k = hi →
   wpListIn (fen rd) 0 P l.toArray (lift n (fun dm' e f' w' => e = .normal ∧ ws P rd n dm' l hi Q f' w')) ((l.take hi).drop k) a w → wpAnyIn (fen rd) 0 P .any l.toArray (lift n Q) (l.length - k) listed a w := by
  intro fuel
  induction fuel with
  | zero =>
   intro k listed a w hlk hkh hs hc hl hf h
   have : k = hi := by omega
   subst this
   rw [List.drop_eq_nil_of_le (by simp; omega)] at h
   obtain ⟨dm', f', ha', _, hws⟩ := h
   exact hws a listed ha' hs hc hl
  | succ fuel ih =>
   intro k listed a w hlk hkh hs hc hl hf h
   have hs' : listed.size = l.toArray.size := by simpa using hs
   have hkl : k < l.length := by omega
   have hd : (l.take hi).drop k = l[k] :: (l.take hi).drop (k + 1) := by
    rw [List.drop_eq_getElem_cons (by simp; omega)]
    simp
   rw [hd] at h
   rw [show l.length - k = (l.length - (k + 1)) + 1 by omega]
   refine ⟨fun hr => ?_, fun i hi' => ?_⟩
   ·have := ready_nil hb hs' hr k (by simpa using hkl)
    rw [hl k hkl] at this
    omega
   ·obtain ⟨h1, h2⟩ := vZ hs' hi'
    have h1' : i < l.length := by simpa using h1
    have hge : k ≤ i := by
     refine Nat.le_of_not_lt fun hlt => ?_
     rw [(hl i h1').2 hlt] at h2
     cases h2
    have hik : i = k := by
     by_cases hki : k < i
     ·have := hord i (by omega) h1' listed hi' hc k hki (by omega)
      rw [hl k hkl] at this
      omega
     ·omega
    subst hik
    have h' := wpOp_of_wpList (i := i) (o := l[i]) (by simp) h
    have hr' : ∀ e a w, lift n (fun dm' e f' w' => e = .normal ∧ ws P rd n dm' l hi Q f' w') e a w → e = .normal := by
     rintro e a w ⟨_, _, _, he, _⟩; exact he
    unfold wpOpIn at h' ⊢
    rw [show l.toArray[i]? = some l[i] by simp] at h' ⊢
    have hstep : ∀ a' w', wpListIn (fen rd) 0 P l.toArray (lift n (fun dm' e f' w' => e = .normal ∧ ws P rd n dm' l hi Q f' w')) ((l.take hi).drop (i + 1)) a' w' → wpAnyIn (fen rd) 0 P .any l.toArray (lift n Q) (l.length - (i + 1)) (listed.setIfInBounds i true) a' w' := by
     intro a' w' h''
     refine ih (i + 1) _ a' w' (by omega) (by omega) (by simpa using hs) (hc.set hs' hi') (fun j hj => ?_) (by omega) h''
     rw [yA _ _ _ (by omega)]
     by_cases hij : i = j
     ·subst hij; simp
     ·rw [if_neg hij, hl j hj]
      omega
    show if _ then _ else _
    have h' : if _ then _ else _ := h'
    split at h'
    ·rename_i hw
     rw [if_pos hw]
     exact upon_mono2 hstep (fun e a w he q => absurd (hr' e a w q) he) h'
    ·rename_i hw
     rw [if_neg hw]
     exact ⟨h'.1, hstep _ _ h'.2⟩
 exact main (hi - lo) lo listed a w (Nat.le_refl _) hlh hs hc hl (by omega) hR
theorem zap {l : List Oper} (lo : Nat) (hB : chainS l.toArray lo l.length = true) (hlo : lo ≤ l.length) (h : wl P rd n dm l.toArray (l.drop lo) Q f w) : ws P rd n dm l lo Q f w := by
 simp only [chainS, Bool.and_eq_true, decide_eq_true_eq] at hB
 obtain ⟨⟨hback, htail⟩, hhi⟩ := hB
 rw [List.all_eq_true] at hback htail
 have hb : Back l.toArray := back_of hback
 have hord : ∀ k, lo ≤ k → k < l.toArray.size → ∀ listed : Array Bool, listed.size = l.toArray.size → k ∈ Region.ready .any l.toArray listed → Closed l.toArray listed → ∀ j, j < k → listed.getD j false = true := by
  intro k hmk hk listed _ hr hc j hj
  have hkl : k < l.length := by simpa using hk
  have h1 := htail (l[k], k) (by
   rw [List.mem_zipIdx_iff_getElem?]
   simp)
  simp only [Bool.or_eq_true, decide_eq_true_eq] at h1
  rcases h1 with h1 | h1
  ·omega
  ·rw [List.all_eq_true] at h1
   exact ord_of hkl (h1 j (by simp; omega)) hr hc
 intro a listed ha hs hc hl
 exact any_tail (rd := rd) (P := P) (m := lo) (R := lift n Q) hb hord (l.length - lo) lo listed a w (Nat.le_refl _) (by simpa using hs) hc (by simpa using hl) (by simp; omega) (h a ha)
theorem ws_draw {l : List Oper} (lo m : Nat) (D : Draw) (hB : drawS l.toArray m = true) (hlm : lo ≤ m)
  (hst : ∀ L i v w w', L i = true → D.Le L w w' → D.V i v w → D.V i v w') (hT : D.T (fun j => decide (j < lo)) w) (hV0 : ∀ j o, j < lo → l[j]? = some o → D.V j (f (o.dst.getD 0)) w)
  (ho : Owes P rd n dm l.toArray ((l.take m).filterMap (·.dst)) D f (l.take m) 0)
  (hq : ∀ L g w, (∀ j, L j = decide (j < m)) → D.T L w → allV D g w (l.take m) 0 (ws P rd n dm l m Q (mask ((l.take m).filterMap (·.dst)) g f) w)) : ws P rd n dm l lo Q f w := by
 intro a listed0 ha hs0 hc0 hl0
 simp only [drawS, Bool.and_eq_true, decide_eq_true_eq, List.all_eq_true] at hB
 obtain ⟨⟨⟨⟨hsome, hnd⟩, hback⟩, htail⟩, hml⟩ := hB
 simp only [List.size_toArray] at hml
 generalize hds : (l.take m).filterMap (·.dst) = ds at *
 have hb : Back l.toArray := by
  intro i o hi e he hbd
  have := hback (o, i) (by
   rw [List.mem_zipIdx_iff_getElem?]
   simpa using hi) e (by simpa using he)
  simp only [hbd, Bool.not_true, Bool.false_or, decide_eq_true_eq] at this
  exact this
 have hord : ∀ k, m ≤ k → k < l.toArray.size → ∀ listed : Array Bool, listed.size = l.toArray.size → k ∈ Region.ready .any l.toArray listed → Closed l.toArray listed → ∀ j, j < m → listed.getD j false = true := by
  intro k hmk hk listed hs hr hc j hj
  have hkl : k < l.length := by simpa using hk
  have h1 := htail (l[k], k) (by
   rw [List.mem_zipIdx_iff_getElem?]
   simp)
  simp only [Bool.or_eq_true, decide_eq_true_eq] at h1
  rcases h1 with h1 | h1
  ·omega
  ·rw [List.all_eq_true] at h1
   have h2 := h1 j (by simpa using hj)
   rw [mem_ready] at hr
   obtain ⟨_, o, ho', hall⟩ := hr
   refine uR hc [] #[] rfl (by simp) (by simp) l.toArray.toList (by simp) k hk j ?_ ?_
   ·unfold Region.before at h2
    rw [← Array.foldl_toList] at h2
    exact h2
   ·rw [ho']
    simpa using hall
 have hmd : ∀ j o, (l.take m)[j]? = some o → j < m ∧ l.toArray[j]? = some o ∧ ∃ d, o.dst = some d ∧ d ∈ ds := by
  intro j o hj
  have hjm : j < m := by
   have := (List.getElem?_eq_some_iff.1 hj).1
   simp at this; omega
  have hjo : l[j]? = some o := by rw [List.getElem?_take] at hj; simpa [hjm] using hj
  have hso := hsome o (List.mem_of_getElem? hj)
  cases hd : o.dst with
  | none => rw [hd] at hso; simp at hso
  | some d => exact ⟨hjm, by simpa using hjo, d, rfl, by rw [← hds]; exact List.mem_filterMap.2 ⟨o, List.mem_of_getElem? hj, hd⟩⟩
 have hinj : ∀ (i j : Nat) (oi oj : Oper) (d : Nat), (l.take m)[i]? = some oi → (l.take m)[j]? = some oj → oi.dst = some d → oj.dst = some d → i = j := by
  have hgen : ∀ (L : List Oper), (L.filterMap (·.dst)).Nodup → ∀ (i j : Nat) (oi oj : Oper) (d : Nat), L[i]? = some oi → L[j]? = some oj → oi.dst = some d → oj.dst = some d → i = j := by
   intro L
   induction L with
   | nil => intro _ i j oi oj d h; simp at h
   | cons o L ih =>
    intro hn i j oi oj d hi hj hdi hdj
    have hn' : (L.filterMap (·.dst)).Nodup := by
     rw [List.filterMap_cons] at hn
     split at hn
     ·exact hn
     ·exact (List.nodup_cons.1 hn).2
    have hno : ∀ (k : Nat) (ok : Oper) (dd : Nat), L[k]? = some ok → o.dst = some dd → ok.dst ≠ some dd := by
     intro k ok dd hk hod hkd
     rw [List.filterMap_cons, hod] at hn
     exact (List.nodup_cons.1 hn).1 (List.mem_filterMap.2 ⟨ok, List.mem_of_getElem? hk, hkd⟩)
    cases i with
    | zero =>
     cases j with
     | zero => rfl
     | succ j => simp at hi; subst hi; exact absurd hdj (hno j oj d (by simpa using hj) hdi)
    | succ i =>
     cases j with
     | zero => simp at hj; subst hj; exact absurd hdi (hno i oi d (by simpa using hi) hdj)
     | succ j => rw [ih hn' i j oi oj d (by simpa using hi) (by simpa using hj) hdi hdj]
  exact hgen _ (by rw [hds]; exact hnd)
 have main : ∀ (fuel : Nat) (listed : Array Bool) (g : Fr) (a : Act) (w : World), listed.size = l.length → fuel + cnt listed l.length = l.length → Closed l.toArray listed → (∀ j, m ≤ j → j < l.length → listed.getD j false = false) →
   Is n dm a (mask ds g f) → D.T (fun j => listed.getD j false) w → (∀ j o, (l.take m)[j]? = some o → listed.getD j false = true → D.V j (g (o.dst.getD 0)) w) → wpAnyIn (fen rd) 0 P .any l.toArray (lift n Q) fuel listed a w := by
  intro fuel
  induction fuel with
  | zero =>
   intro listed g a w hs hcnt hc hno ha hT hV
   have hall := zaQ listed l.length (by omega)
   have hm' : m = l.length := by
    by_cases h : m < l.length
    ·have := hno m (Nat.le_refl _) h
     rw [hall m h] at this
     cases this
    ·omega
   have hfin := uc (l.take m) 0 (fun j o hj => by rw [Nat.zero_add]; exact hV j o hj (hall j (by have := (hmd j o hj).1; omega))) (hq _ g w (fun j => by
    by_cases hj : j < l.length
    ·rw [hall j hj, decide_eq_true (by omega)]
    ·rw [v6 listed j (by omega), decide_eq_false (by omega)]) hT)
   have hf0 := hfin a listed ha hs hc (fun j hj => ⟨fun _ => by omega, fun _ => hall j hj⟩)
   rw [show l.length - m = 0 by omega] at hf0
   exact hf0
  | succ fuel ih =>
   intro listed g a w hs hcnt hc hno ha hT hV
   have hs' : listed.size = l.toArray.size := by simpa using hs
   refine ⟨fun hr => ?_, fun i hi => ?_⟩
   ·have hall := ready_nil hb hs' hr
    have := jE listed l.length (fun j hj => hall j (by simpa using hj))
    omega
   ·obtain ⟨h1, h2⟩ := vZ hs' hi
    have h1' : i < l.length := by simpa using h1
    by_cases him : i < m
    ·have hio : (l.take m)[i]? = some l[i] := by
      rw [List.getElem?_take, if_pos him]
      exact List.getElem?_eq_getElem h1'
     obtain ⟨_, hio', d, hd, hdds⟩ := hmd i _ hio
     have howe := owes_at _ 0 ho i _ hio (fun j => listed.getD j false) g w (by rw [Nat.zero_add]; exact h2) hT
     rw [Nat.zero_add] at howe
     have hready := hi
     rw [mem_ready] at hready
     obtain ⟨_, o, hoo, hall⟩ := hready
     rw [hio'] at hoo
     cases hoo
     have hwl := jr (ops := l.toArray) (yP l[i]) (fun j hj => by
      unfold yP at hj
      obtain ⟨e, he, rfl⟩ := List.mem_map.1 hj
      obtain ⟨he1, he2⟩ := List.mem_filter.1 he
      have hbd : Region.binds .any e = true := by
       unfold Region.binds
       cases hg : e.ground <;> rw [hg] at he2 <;> simp at he2 ⊢
      have hlt := hb i _ hio' e (by simpa using he1) hbd
      have hlst := hall e (by simpa using he1) hbd
      have hjm : e.on < m := by omega
      have hjo : (l.take m)[e.on]? = some l[e.on] := by
       rw [List.getElem?_take, if_pos hjm]
       exact List.getElem?_eq_getElem (by omega)
      have := hV e.on _ hjo hlst
      unfold yx
      obtain ⟨_, hj2, dj, hdj, _⟩ := hmd _ _ hjo
      rw [hj2]
      simp only [Option.bind_some]
      exact this) howe
     rw [hd] at hwl
     refine zag hio' hwl (fun dm e f' w' q => q.1) ?_ ha
     rintro dm' a' f' w' ha' ⟨_, rfl, hT', hL', v, rfl, hV'⟩
     have hmask : upd (mask ds g f) d v = mask ds (upd g d v) f := by
      funext k
      by_cases hk : k = d
      ·subst hk
       rw [upd_same, xN hdds, upd_same]
      ·rw [xT _ _ _ _ hk]
       by_cases hkd : k ∈ ds
       ·rw [xN hkd, xN hkd, xT _ _ _ _ hk]
       ·rw [xI hkd, xI hkd]
     simp only [Option.getD_some] at ha'
     rw [hmask] at ha'
     rw [zaT listed i (by omega)] at hT'
     refine ih _ (upd g d v) a' w' (by simpa using hs) ?_ (hc.set hs' hi) ?_ ha' hT' ?_
     ·rw [kA listed i (by omega) h2, if_pos h1']; omega
     ·intro j hmj hjl
      rw [yA _ _ _ (by omega), if_neg (by omega)]
      exact hno j hmj hjl
     ·intro j oj hj hlj
      obtain ⟨_, _, dj, hdj, _⟩ := hmd j oj hj
      rw [yA _ _ _ (by omega)] at hlj
      by_cases hij : i = j
      ·subst hij
       rw [hio] at hj
       cases hj
       rw [hd]
       simp only [Option.getD_some, upd_same]
       exact hV'
      ·rw [if_neg hij] at hlj
       have hne : dj ≠ d := fun e => hij (hinj i j _ oj d hio hj hd (by rw [hdj, e]))
       have := hst _ j _ _ _ hlj hL' (hV j oj hj hlj)
       rw [hdj] at this ⊢
       simp only [Option.getD_some] at this ⊢
       rw [xT _ _ _ _ hne]
       exact this
    ·have hallj := hord i (by omega) h1 listed hs' hi hc
     have hfin := uc (l.take m) 0 (fun j o hj => by rw [Nat.zero_add]; exact hV j o hj (hallj j (by have := (hmd j o hj).1; omega))) (hq _ g w (fun j => by
      by_cases hj : j < m
      ·rw [hallj j hj, decide_eq_true hj]
      ·rw [decide_eq_false hj]
       by_cases hjl : j < l.length
       ·exact hno j (by omega) hjl
       ·exact v6 listed j (by omega)) hT)
     have hf0 := hfin a listed ha hs hc (fun j hj => ⟨(fun h => by
      refine Nat.lt_of_not_le fun hij => ?_
      rw [hno j hij hj] at h
      cases h), hallj j⟩)
     have hcn := cnt_pre listed m l.length (by omega) hallj hno
     rw [show l.length - m = fuel + 1 by omega] at hf0
     exact hf0.2 i hi
 have h0 : Is n dm a (mask ds f f) := by
  have : mask ds f f = f := by funext k; unfold mask; cases ds.elem k <;> rfl
  rw [this]; exact ha
 have hlm' : lo ≤ l.length := by omega
 have hz := cnt_pre listed0 lo l.length hlm' (fun j hj => (hl0 j (by omega)).2 hj) (fun j h1 h2 => by
  cases h : listed0.getD j false with
  | false => rfl
  | true => have := (hl0 j h2).1 h; omega)
 refine main _ listed0 f a w hs0 (by rw [hz]; omega) hc0 (fun j h1 h2 => ?_) h0 ?_ ?_
 ·cases h : listed0.getD j false with
  | false => rfl
  | true => have := (hl0 j h2).1 h; omega
 ·have he : (fun j => listed0.getD j false) = fun j => decide (j < lo) := by
   funext j
   by_cases hj : j < l.length
   ·cases h : listed0.getD j false with
    | true => rw [decide_eq_true ((hl0 j hj).1 h)]
    | false =>
     refine (decide_eq_false fun h' => ?_).symm
     rw [(hl0 j hj).2 h'] at h; cases h
   ·rw [v6 _ _ (by omega), decide_eq_false (by omega)]
  rw [he]; exact hT
 ·intro j o hj hlj
  obtain ⟨hjm, hjo, _⟩ := hmd j o hj
  exact hV0 j o ((hl0 j (by omega)).1 hlj) (by simpa using hjo)
def needsS (ops : Array Oper) (lo m n : Nat) (sm : List Nat) : Bool :=
 let ds := (ops.toList.take m).filterMap (·.dst)
 sm.all (fun k => decide (lo ≤ k) && decide (k < m)) && (ops.toList.take m).zipIdx.all fun q => decide (q.2 < lo) || (let o := q.1
  (o.op.operands.toList.all fun x => match x with
   | .tmp t => !ds.elem t || (yP o).any fun j => (((ops[j]?).bind (·.dst)) == some t) && (sm.elem q.2 || !sm.elem j)
   | _ => true) &&
  (match o.guard with
   | none => true
   | some (j, _) => (yP o).elem j && (((ops[j]?).bind (·.dst)).any fun t => decide (t < n)) && !sm.elem j) &&
  (match o.op with | .select .. => false | _ => true) &&
  (match o.dst with | some d => decide (d < n) | none => false))
theorem vW {l : List Oper} {V : Veil} (lo m : Nat) (sm : List Nat) (hB : drawS l.toArray m = true) (hlm : lo ≤ m) (hN : needsS l.toArray lo m n sm = true)
  (hst : ∀ i v w w', sm.elem i = true → Ext w w' → V i v w → V i v w')
  (h : wm P l.toArray w V sm (vp l.toArray sm) ((l.take m).drop lo) lo (fun f' => ∀ g w', Ext w w' → (∀ i, sm.elem i = true → i < m → V i (g (yx l.toArray i)) w') → ws P rd n dm l m Q (mask (vp l.toArray sm) g f') w') f) : ws P rd n dm l lo Q f w := by
 obtain ⟨F0, hF0', hFK, hF'⟩ := wm_vals _ _ _ h
 simp only [needsS, Bool.and_eq_true] at hN
 obtain ⟨hsm, hN⟩ := hN
 have hB' := hB
 simp only [drawS, Bool.and_eq_true, decide_eq_true_eq, List.all_eq_true] at hB
 obtain ⟨⟨⟨⟨hsome, hnd⟩, hback⟩, htail⟩, hml⟩ := hB
 simp only [List.size_toArray] at hml
 have hlen : (l.take m).length = m := by simp; omega
 have hlen' : lo + ((l.take m).drop lo).length = m := by rw [List.length_drop, hlen]; omega
 rw [hlen'] at hFK
 obtain ⟨F, hF0, hFm, hF, hFlo⟩ : ∃ F : Nat → Fr, F 0 = f ∧ F m = F0 m ∧ (∀ (k : Nat) (o : Oper), lo ≤ k → (l.take m)[k]? = some o →
   (sm.elem k = true → (∀ g, SOp P l.toArray w o (mask (vp l.toArray sm) g (F k)) (fun w => givs l.toArray V sm g w o) (V k)) ∧ F (k + 1) = F k) ∧ (sm.elem k = false → ∃ v, SOp P l.toArray w o (F k) (fun _ => True) (fun v' _ => v' = v) ∧ F (k + 1) = upd (F k) (o.dst.getD 0) v)) ∧ ∀ k, k ≤ lo → F k = f := by
  refine ⟨fun k => if k ≤ lo then f else F0 k, by simp, ?_, ?_, fun k hk => if_pos hk⟩
  ·show (if m ≤ lo then f else F0 m) = F0 m
   split
   ·rw [show m = lo by omega, hF0']
   ·rfl
  ·intro k o hlk hk
   have hk0 : (if k ≤ lo then f else F0 k) = F0 k := by
    split
    ·rw [show k = lo by omega, hF0']
    ·rfl
   have hk1 : (if k + 1 ≤ lo then f else F0 (k + 1)) = F0 (k + 1) := if_neg (by omega)
   simp only [hk0, hk1]
   have := hF' (k - lo) o (by rw [List.getElem?_drop, show lo + (k - lo) = k by omega]; exact hk)
   rw [show lo + (k - lo) = k by omega] at this
   exact this
 rw [← hFm] at hFK
 generalize hss : vp l.toArray sm = ss at *
 let U : Veil := fun i v w => if sm.elem i = true then V i v w else ∀ o, (l.take m)[i]? = some o → v = F (i + 1) (o.dst.getD 0)
 have hdist : ∀ (i j : Nat) (oi oj : Oper) (d : Nat), (l.take m)[i]? = some oi → (l.take m)[j]? = some oj → oi.dst = some d → oj.dst = some d → i = j := by
  have hgen : ∀ (L : List Oper), (L.filterMap (·.dst)).Nodup → ∀ (i j : Nat) (oi oj : Oper) (d : Nat), L[i]? = some oi → L[j]? = some oj → oi.dst = some d → oj.dst = some d → i = j := by
   intro L
   induction L with
   | nil => intro _ i j oi oj d h; simp at h
   | cons o L ih =>
    intro hn i j oi oj d hi hj hdi hdj
    have hn' : (L.filterMap (·.dst)).Nodup := by
     rw [List.filterMap_cons] at hn
     split at hn
     ·exact hn
     ·exact (List.nodup_cons.1 hn).2
    have hno : ∀ (k : Nat) (ok : Oper) (dd : Nat), L[k]? = some ok → o.dst = some dd → ok.dst ≠ some dd := by
     intro k ok dd hk hod hkd
     rw [List.filterMap_cons, hod] at hn
     exact (List.nodup_cons.1 hn).1 (List.mem_filterMap.2 ⟨ok, List.mem_of_getElem? hk, hkd⟩)
    cases i with
    | zero =>
     cases j with
     | zero => rfl
     | succ j => simp at hi; subst hi; exact absurd hdj (hno j oj d (by simpa using hj) hdi)
    | succ i =>
     cases j with
     | zero => simp at hj; subst hj; exact absurd hdi (hno i oi d (by simpa using hi) hdj)
     | succ j => rw [ih hn' i j oi oj d (by simpa using hi) (by simpa using hj) hdi hdj]
  exact hgen _ hnd
 have hdst : ∀ (i : Nat) (o : Oper), (l.take m)[i]? = some o → ∃ d, o.dst = some d := by
  intro i o hi
  have := hsome o (List.mem_of_getElem? hi)
  cases hd : o.dst with
  | none => rw [hd] at this; simp at this
  | some d => exact ⟨d, rfl⟩
 have hat : ∀ (i : Nat) (o : Oper), (l.take m)[i]? = some o → i < m ∧ l.toArray[i]? = some o := by
  intro i o hi
  have him : i < m := by have := (List.getElem?_eq_some_iff.1 hi).1; omega
  exact ⟨him, by rw [List.getElem?_take, if_pos him] at hi; simpa using hi⟩
 have hsmd : ∀ k ∈ sm, ∃ o, (l.take m)[k]? = some o ∧ o.dst = some (yx l.toArray k) := by
  intro k hk
  have hkm : k < m := by have := List.all_eq_true.1 hsm k hk; simp only [Bool.and_eq_true, decide_eq_true_eq] at this; omega
  have hkl : k < (l.take m).length := by omega
  obtain ⟨d, hd⟩ := hdst k _ (List.getElem?_eq_getElem hkl)
  refine ⟨_, List.getElem?_eq_getElem hkl, ?_⟩
  have := (hat k _ (List.getElem?_eq_getElem hkl)).2
  unfold yx
  rw [this, Option.bind_some, hd]; rfl
 -- one step of the run keeps the slots of other operations
 have hstep : ∀ (k : Nat) (o : Oper) (d : Nat), (l.take m)[k]? = some o → (∀ dk, o.dst = some dk → d ≠ dk) → F (k + 1) d = F k d := by
  intro k o d hk hne
  obtain ⟨dk, hdk⟩ := hdst k o hk
  by_cases hlk : k < lo
  ·rw [hFlo (k + 1) (by omega), hFlo k (by omega)]
  replace hlk : lo ≤ k := by omega
  cases hs : sm.elem k with
  | true => rw [((hF k o hlk hk).1 hs).2]
  | false =>
   obtain ⟨v, _, hFk⟩ := (hF k o hlk hk).2 hs
   rw [hFk, hdk]
   exact xT _ _ _ _ (hne dk hdk)
 have hkeep : ∀ (k i : Nat) (o : Oper) (d : Nat), (l.take m)[i]? = some o → o.dst = some d → i < k → k ≤ m → F k d = F (i + 1) d := by
  intro k
  induction k with
  | zero => intro i o d _ _ h; omega
  | succ k ih =>
   intro i o d hi hd hik hkm
   by_cases hik' : i = k
   ·subst hik'; rfl
   ·have hkl : k < (l.take m).length := by omega
    rw [hstep k _ d (List.getElem?_eq_getElem hkl) (fun dk hdk e => by subst e; exact hik' (hdist i k o _ d hi (List.getElem?_eq_getElem hkl) hd hdk))]
    exact ih i o d hi hd (by omega) (by omega)
 have hout : ∀ (k d : Nat), k ≤ m → d ∉ (l.take m).filterMap (·.dst) → F k d = f d := by
  intro k
  induction k with
  | zero => intro d _ _; rw [hF0]
  | succ k ih =>
   intro d hkm hd
   have hkl : k < (l.take m).length := by omega
   rw [hstep k _ d (List.getElem?_eq_getElem hkl) (fun dk hdk e => by subst e; exact hd (List.mem_filterMap.2 ⟨_, List.getElem_mem hkl, hdk⟩))]
   exact ih d (by omega) hd
 have hssd : ∀ (j : Nat) (oj : Oper) (t : Nat), (l.take m)[j]? = some oj → oj.dst = some t → (t ∈ ss ↔ ∃ k, sm.elem k = true ∧ yx l.toArray k = t) := by
  intro j oj t _ _
  rw [← hss]
  unfold vp
  simp
 -- in the frame of a run, a slot that an operation of V's makes is g's; a quiet one's is the run's
 have hslot : ∀ (i : Nat) (o : Oper) (g : Fr) (w' : World), (l.take m)[i]? = some o → (∀ j ∈ yP o, U j (g (yx l.toArray j)) w') → ∀ (j : Nat) (oj : Oper) (t : Nat), j ∈ yP o → l.toArray[j]? = some oj → oj.dst = some t →
   (sm.elem j = false → mask ((l.take m).filterMap (·.dst)) g f t = F i t) ∧ mask ((l.take m).filterMap (·.dst)) g f t = g t ∧ j < i := by
  intro i o g w' hi hneed j oj t hj hoj hdj
  have hji : j < i := by
   unfold yP at hj
   obtain ⟨e, he, rfl⟩ := List.mem_map.1 hj
   obtain ⟨he1, he2⟩ := List.mem_filter.1 he
   have hbd : Region.binds .any e = true := by
    unfold Region.binds
    cases hg : e.ground <;> rw [hg] at he2 <;> simp at he2 ⊢
   have := hback (o, i) (by rw [List.mem_zipIdx_iff_getElem?]; simpa using (hat i o hi).2) e (by simpa using he1)
   simp only [hbd, Bool.not_true, Bool.false_or, decide_eq_true_eq] at this
   exact this
  have him := (hat i o hi).1
  have hjm : (l.take m)[j]? = some oj := by
   rw [List.getElem?_take, if_pos (by omega)]
   simpa using hoj
  have ht : t ∈ (l.take m).filterMap (·.dst) := List.mem_filterMap.2 ⟨oj, List.mem_of_getElem? hjm, hdj⟩
  have hda : yx l.toArray j = t := by simp [yx, hoj, hdj]
  refine ⟨fun hs => ?_, xN ht, hji⟩
  rw [xN ht, hkeep i j oj t hjm hdj hji (by omega)]
  have := hneed j hj
  simp only [U, hs, Bool.false_eq_true, if_false] at this
  have := this oj hjm
  rw [hda, hdj] at this
  exact this
 have hsmlo : ∀ k, k < lo → sm.elem k = false := fun k hk => by
  cases h : sm.elem k with
  | false => rfl
  | true =>
   have := List.all_eq_true.1 hsm k (by simpa using h)
   simp only [Bool.and_eq_true, decide_eq_true_eq] at this
   omega
 refine ws_draw lo m ⟨fun L w' => Ext w w' ∧ ∀ i, i < lo → L i = true, fun _ => Ext, U⟩ hB' hlm (fun L i v w1 w2 _ hl hv => ?_) ⟨Ext.refl w, fun i hi => by simpa using hi⟩ (fun j o hj ho => ?_) ?_ ?_
 ·simp only [U] at hv ⊢
  split
  ·rename_i hs; rw [if_pos hs] at hv; exact hst i v w1 w2 hs hl hv
  ·rename_i hs; rw [if_neg hs] at hv; exact hv
 ·simp only [U, hsmlo j hj, Bool.false_eq_true, if_false]
  intro o' ho'
  rw [hFlo (j + 1) (by omega)]
  have := (hat j o' ho').2
  rw [List.getElem?_toArray] at this
  rw [ho] at this; cases this; rfl
 ·-- each operation
  have howe : ∀ (L : List Oper) (k : Nat), (∀ j o, L[j]? = some o → (l.take m)[k + j]? = some o) → Owes P rd n dm l.toArray ((l.take m).filterMap (·.dst)) ⟨fun L w' => Ext w w' ∧ ∀ i, i < lo → L i = true, fun _ => Ext, U⟩ f L k := by
   intro L
   induction L with
   | nil => intro k _; trivial
   | cons o L ih =>
    intro k hL
    refine ⟨?_, ih (k + 1) (fun j o' hj => by
     have := hL (j + 1) o' (by simpa using hj)
     rwa [show k + (j + 1) = k + 1 + j by omega] at this)⟩
    have hk : (l.take m)[k]? = some o := hL 0 o rfl
    obtain ⟨hkm, hko⟩ := hat k o hk
    obtain ⟨d, hd⟩ := hdst k o hk
    intro Ls g w1 hLi hTw
    have hlk : lo ≤ k := by
     refine Nat.le_of_not_lt fun h => ?_
     rw [hTw.2 k h] at hLi; cases hLi
    refine (show ∀ (p : Prop), ((∀ j ∈ yP o, U j (g (yx l.toArray j)) w1) → p) → givens l.toArray ⟨fun L w' => Ext w w' ∧ ∀ i, i < lo → L i = true, fun _ => Ext, U⟩ g w1 (yP o) p from ?_) _ ?_
    ·intro p
     generalize yP o = nl
     induction nl with
     | nil => intro hp; exact hp (by simp)
     | cons j nl ihn =>
      intro hp hj
      exact ihn (fun h' => hp (fun j' hj' => by
       rcases List.mem_cons.1 hj' with rfl | hj'
       ·exact hj
       ·exact h' j' hj'))
    intro hneed
    have hNo := List.all_eq_true.1 hN (o, k) (by rw [List.mem_zipIdx_iff_getElem?]; simpa using hk)
    simp only [Bool.or_eq_true, decide_eq_true_eq] at hNo
    replace hNo := hNo.resolve_left (by omega)
    simp only [Bool.and_eq_true] at hNo
    obtain ⟨⟨⟨hops, hgd⟩, hsel⟩, hdn⟩ := hNo
    rw [hd] at hdn
    simp only [decide_eq_true_eq] at hdn
    have hsel' : ∀ cs b, o.op ≠ .select cs b := by
     intro cs b e
     rw [e] at hsel
     cases hsel
    have hsl := hslot k o g w1 hk hneed
    -- the frame that the proof of this operation has seen
    have hfr : ∀ fr : Fr, (fr = F k ∧ sm.elem k = false ∨ fr = mask ss g (F k) ∧ sm.elem k = true) → ∀ x ∈ o.op.operands, evF fr x = evF (mask ((l.take m).filterMap (·.dst)) g f) x := by
     intro fr hfr x hx
     cases x with
     | tmp t =>
      have h0 := List.all_eq_true.1 hops (.tmp t) (by simpa using hx)
      simp only [Bool.or_eq_true] at h0
      show fr t = mask _ g f t
      by_cases ht : t ∈ (l.take m).filterMap (·.dst)
      ·rcases h0 with h1 | h1
       ·simp at h1
        obtain ⟨x, hx1, hx2⟩ := List.mem_filterMap.1 ht
        exact absurd hx2 (h1 x hx1)
       ·obtain ⟨j, hj, hjt⟩ := List.any_eq_true.1 h1
        simp only [Bool.and_eq_true, beq_iff_eq] at hjt
        obtain ⟨hjt, hjq⟩ := hjt
        cases hoj : l.toArray[j]? with
        | none => rw [hoj] at hjt; simp at hjt
        | some oj =>
         rw [hoj] at hjt
         have hdj : oj.dst = some t := by simpa using hjt
         obtain ⟨q1, q2, q3⟩ := hsl j oj t hj hoj hdj
         rcases hfr with ⟨rfl, hs⟩ | ⟨rfl, hs⟩
         ·rw [hs] at hjq
          simp only [Bool.false_or, Bool.not_eq_true'] at hjq
          exact (q1 hjq).symm
         ·have hda : yx l.toArray j = t := by simp [yx, hoj, hdj]
          by_cases hjs : sm.elem j = true
          ·rw [q2]
           refine xN ?_
           rw [← hss]; unfold vp
           exact List.mem_map.2 ⟨j, by simpa using hjs, hda⟩
          ·have hjs' : sm.elem j = false := by simpa using hjs
           rw [q1 hjs']
           refine xI ?_
           rw [← hss]; unfold vp
           intro hmem
           obtain ⟨k', hk', hdk'⟩ := List.mem_map.1 hmem
           have hjm : (l.take m)[j]? = some oj := by
            rw [List.getElem?_take, if_pos (by omega)]
            simpa using hoj
           obtain ⟨ok, hok, hdk⟩ := hsmd k' hk'
           rw [hdk'] at hdk
           have := hdist k' j ok oj t hok hjm hdk hdj
           subst this
           rw [show sm.elem k' = true by simpa using hk'] at hjs'
           cases hjs' 
      ·rw [xI ht]
       rcases hfr with ⟨rfl, hs⟩ | ⟨rfl, hs⟩
       ·exact hout k t (by omega) ht
       ·rw [xI, hout k t (by omega) ht]
        rw [← hss]; unfold vp
        intro hmem
        obtain ⟨k', hk', hdk'⟩ := List.mem_map.1 hmem
        obtain ⟨ok, hok, hdk⟩ := hsmd k' hk'
        rw [hdk'] at hdk
        exact ht (List.mem_filterMap.2 ⟨ok, List.mem_of_getElem? hok, hdk⟩)
     | _ => rfl
    -- the operation, on the frame at hand
    have hgiv : givs l.toArray V sm g w1 o := fun j hj hs => by
     have := hneed j hj
     simp only [U, hs, if_true] at this
     exact this
    obtain ⟨fr, H, R, hso, hfrx, hH, hR⟩ : ∃ (fr : Fr) (H : World → Prop) (R : Value → World → Prop), SOp P l.toArray w o fr H R ∧ (fr = F k ∧ sm.elem k = false ∨ fr = mask ss g (F k) ∧ sm.elem k = true) ∧ H w1 ∧ (∀ v w', R v w' → U k v w') := by
     cases hs : sm.elem k with
     | true => exact ⟨_, _, _, ((hF k o hlk hk).1 hs).1 g, .inr ⟨rfl, rfl⟩, hgiv, fun v w' hv => by simp only [U, hs, if_true]; exact hv⟩
     | false =>
      obtain ⟨v, hv, hFk⟩ := (hF k o hlk hk).2 hs
      refine ⟨_, _, _, hv, .inl ⟨rfl, rfl⟩, trivial, fun v' w' e => ?_⟩
      simp only [U, hs, Bool.false_eq_true, if_false]
      intro o' ho'
      rw [hk] at ho'
      cases ho'
      rw [hFk, e, upd_same]
    have hoper := hfr fr hfrx
    have hfin : ∀ v w', Ext w1 w' → R v w' → obPost dm ⟨fun L w' => Ext w w' ∧ ∀ i, i < lo → L i = true, fun _ => Ext, U⟩ Ls k (o.dst.getD 0) (mask ((l.take m).filterMap (·.dst)) g f) w1 dm .normal (upd (mask ((l.take m).filterMap (·.dst)) g f) (o.dst.getD 0) v) w' :=
     fun v w' hx hv => ob (D := ⟨fun L w' => Ext w w' ∧ ∀ i, i < lo → L i = true, fun _ => Ext, U⟩) ⟨hTw.1.trans hx, fun i hi => by unfold plus; rw [hTw.2 i hi]; simp⟩ hx (hR v w' hv)
    obtain ⟨od, oop, oty, opos, oaf, ogd⟩ := o
    simp only at hd
    subst hd
    simp only [Option.getD_some] at hfin
    intro a ha
    cases ogd with
    | none =>
     have q := srun_congr hsel' hoper (show SRun P w _ fr H R from hso)
     refine wpListIn_plain rfl fun K' hK => ?_
     refine wl_of_srun q hTw.1 hH ha _ _ fun v w' hx hv => hK _ _ ?_
     exact ⟨_, _, ha.put hdn v, hfin v w' hx hv⟩
    | some gp =>
     obtain ⟨j, pol⟩ := gp
     obtain ⟨c, t, ht, hjs, hqy, hqn⟩ := hso
     simp only [Bool.and_eq_true, Bool.not_eq_true'] at hgd
     obtain ⟨⟨hjn, hjd⟩, hjq⟩ := hgd
     cases hoj : l.toArray[j]? with
     | none => rw [hoj] at hjs; simp at hjs
     | some oj =>
      rw [hoj] at hjd
      simp only [Option.bind_some, Option.any_eq_true] at hjd
      obtain ⟨dj, hdj, hdjn⟩ := hjd
      obtain ⟨q1, q2, q3⟩ := hsl j oj dj (by simpa using hjn) hoj hdj
      have hda : yx l.toArray j = dj := by simp [yx, hoj, hdj]
      have hfd : fr dj = mask ((l.take m).filterMap (·.dst)) g f dj := by
       rcases hfrx with ⟨rfl, _⟩ | ⟨rfl, _⟩
       ·exact (q1 hjq).symm
       ·rw [q1 hjq]
        refine xI ?_
        rw [← hss]; unfold vp
        intro hmem
        obtain ⟨k', hk', hdk'⟩ := List.mem_map.1 hmem
        obtain ⟨ok, hok, hdk⟩ := hsmd k' hk'
        rw [hdk'] at hdk
        have hjm : (l.take m)[j]? = some oj := by
         rw [List.getElem?_take, if_pos (by omega)]
         simpa using hoj
        have := hdist k' j ok oj dj hok hjm hdk hdj
        subst this
        rw [show sm.elem k' = true by simpa using hk'] at hjq
        cases hjq
      rw [hda, hfd] at ht
      refine wpListIn_step fun K' hK => ?_
      rw [kN ha rfl hoj hdj ht (by simpa using hdjn)]
      cases hc : (c && (t == pol)) with
      | true =>
       rw [if_pos rfl]
       have q := srun_congr hsel' hoper (hqy hc)
       refine wl_of_srun q hTw.1 hH ha _ _ fun v w' hx hv => hK _ _ ?_
       exact ⟨_, _, ha.put hdn v, hfin v w' hx hv⟩
      | false =>
       rw [if_neg (by simp)]
       have := hfin undef w1 (Ext.refl w1) (hqn hc w1)
       exact ⟨fun _ _ => trivial, hK _ _ ⟨_, _, ha.put hdn undef, this⟩⟩
  exact howe _ 0 (fun j o hj => by rw [Nat.zero_add]; exact hj)
 ·-- the tail
  intro Ls g w1 _ hTw
  have hall : ∀ (L : List Oper) (k : Nat) (p : Prop), ((∀ j o, L[j]? = some o → U (k + j) (g (o.dst.getD 0)) w1) → p) → allV ⟨fun L w' => Ext w w' ∧ ∀ i, i < lo → L i = true, fun _ => Ext, U⟩ g w1 L k p := by
   intro L
   induction L with
   | nil => intro k p hp; exact hp (by intro j o h; simp at h)
   | cons o L ih =>
    intro k p hp hv
    refine ih (k + 1) p fun h' => hp fun j o' hj => ?_
    cases j with
    | zero => simp at hj; subst hj; exact hv
    | succ j =>
     have := h' j o' (by simpa using hj)
     rwa [show k + 1 + j = k + (j + 1) by omega] at this
  refine hall _ 0 _ fun hv => ?_
  have heq : mask ((l.take m).filterMap (·.dst)) g f = mask ss g (F m) := by
   funext t
   by_cases ht : t ∈ (l.take m).filterMap (·.dst)
   ·rw [xN ht]
    obtain ⟨o, ho, hd⟩ := List.mem_filterMap.1 ht
    obtain ⟨i, hi⟩ := List.getElem?_of_mem ho
    have hiv := hv i o hi
    rw [Nat.zero_add, hd] at hiv
    simp only [Option.getD_some] at hiv
    cases hs : sm.elem i with
    | true =>
     refine (xN ?_).symm
     rw [← hss]; unfold vp
     refine List.mem_map.2 ⟨i, by simpa using hs, ?_⟩
     unfold yx
     rw [(hat i o hi).2, Option.bind_some, hd]; rfl
    | false =>
     simp only [U, hs, Bool.false_eq_true, if_false] at hiv
     have := hiv o hi
     rw [hd] at this
     simp only [Option.getD_some] at this
     rw [this, xI, ← hkeep m i o t hi hd (hat i o hi).1 (Nat.le_refl _)]
     rw [← hss]; unfold vp
     intro hmem
     obtain ⟨k', hk', hdk'⟩ := List.mem_map.1 hmem
     obtain ⟨ok, hok, hdk⟩ := hsmd k' hk'
     rw [hdk'] at hdk
     have := hdist k' i ok o t hok hi hdk hd
     subst this
     rw [show sm.elem k' = true by simpa using hk'] at hs
     cases hs
   ·rw [xI ht, xI, hout m t (Nat.le_refl _) ht]
    rw [← hss]; unfold vp
    intro hmem
    obtain ⟨k', hk', hdk'⟩ := List.mem_map.1 hmem
    obtain ⟨ok, hok, hdk⟩ := hsmd k' hk'
    rw [hdk'] at hdk
    exact ht (List.mem_filterMap.2 ⟨ok, List.mem_of_getElem? hok, hdk⟩)
  rw [heq]
  refine hFK g w1 hTw.1 fun i hs him => ?_
  obtain ⟨o, ho, hd⟩ := hsmd i (by simpa using hs)
  have := hv i o ho
  rw [Nat.zero_add, hd] at this
  simp only [Option.getD_some, U, hs, if_true] at this
  exact this
end
end Gw
end Go.Proofs.YtjebgcoknpcadaaGreatDoor
end
section
namespace Go.Proofs.YtjebgcoknpcadaaGreatDoor
open Go.RowKit
namespace Gw
section
variable {A : Nat → Prop} {N : Oth} {w0 w w' : World} {L Z : List OA}
theorem St.take {B : Nat} (h : St A (N.done B) w0 w L Z) (hB : w0.heap.size ≤ B ∧ ¬ N B ∧ ¬ N (B + 1)) : Ob w B (.deferred (some [])) ∧ ∀ w', Chg (· = B) w w' → St A N w0 w' L Z := by
 have hw := h.wats
 refine ⟨hw (B, .deferred (some [])) (by simp [Oth.done]), fun w' hc => h.others hc (fun i hi => ⟨?_, by rw [hi]; exact hB.1⟩) (fun i hi => .inl hi) fun d hd => ?_⟩
 ·rw [hi]; exact .inr (.inl rfl)
 ·exact (hw d (List.mem_cons_of_mem _ hd)).chg hc (fun (q : d.1 = B) => hB.2.1 (q ▸ N.ok d hd))
def bodyQ {σ ρ γ γ' : Type} (A : Nat → Prop) (w0 : World) (L : σ → γ → List OA) (Lr : ρ → γ' → List OA) (Z : List OA) (br : Bool) (bid : Nat) (N' : Oth) (q : Stp σ ρ) : Post := fun _ e _ w => match e with
 | .normal => ∃ s', q = .go s' ∧ ∃ c, St A N' w0 w (L s' c) Z
 | .ret => ∃ r, q = .ret r ∧ ∃ c, St A N' w0 w (Lr r c) Z
 | .exit id => br = true ∧ id = bid ∧ ∃ s', q = .brk s' ∧ ∃ c, St A N' w0 w (L s' c) Z
 | _ => False
end
section
variable {P : Program} {n : Nat} {dm : List Nat} {Q : Post} {f : Fr} {w : World}
theorem j5 {g : Operand} {p : Tmp} {assign body : Code} {k : FuncId} {fi ca : Array Value} {Inv : World → Prop} {α σ ρ γ γ' : Type} {enc : α → Value} {xs : List α} {bd : α → σ → Option (Stp σ ρ)} {o : σ ⊕ ρ} {s0 : σ} {A : Nat → Prop} {N : Oth} {w0 : World} {L : σ → γ → List OA} {Lr : ρ → γ' → List OA} {Z : List OA} (c0 : γ) (br : Bool) (bid : Nat)
  (hg : evF f g = .func (.func k) fi ca) (hk : zE P k) (hs : Gives P k (fun y => fi.toList ++ [y] ++ ca.toList) Inv (xs.map fun x => [enc x])) (hp : p < n)
  (hInv : ∀ N' s c W, St A N' w0 W (L s c) Z → Inv W) (S : St A N w0 w (L s0 c0) Z) (e : forE bd xs s0 = some o)
  (hr : ∀ x s c q N' rd u, bd x s = some q → St A N' w0 u (L s c) Z → wc P rd n [] assign (thenP (fun dm' f1 w1 => dm' = [] ∧ St A N' w0 w1 (L s c) Z ∧ ∀ N' w2, St A N' w0 w2 (L s c) Z → wc P rd n [] body (bodyQ A w0 L Lr Z br bid N' q) f1 w2) (fun _ _ _ _ => False)) (upd f p (enc x)) u)
  (hdone : ∀ s c B W, o = .inl s → St A (N.done B) w0 W (L s c) Z → (w0.heap.size ≤ B ∧ ¬ N B ∧ ¬ N (B + 1)) → Q (B :: dm) .normal f W)
  (hret : ∀ r c B W, o = .inr r → St A (N.done B) w0 W (Lr r c) Z → (w0.heap.size ≤ B ∧ ¬ N B ∧ ¬ N (B + 1)) → Q (B :: dm) .ret f W)
  (hbrk : br = true → ∀ s c B W, o = .inl s → St A (N.done B) w0 W (L s c) Z → (w0.heap.size ≤ B ∧ ¬ N B ∧ ¬ N (B + 1)) → Q (B :: dm) (.exit bid) f W) :
  wc P none n dm (.rangeFunc g #[p] assign body) Q f w := by
 have hB0 : ∀ B, w.heap.size = B → w0.heap.size ≤ B ∧ ¬ N B ∧ ¬ N (B + 1) := fun B hB => ⟨hB ▸ S.size, fun q => absurd (S.othlt _ q) (by omega), fun q => absurd (S.othlt _ q) (by omega)⟩
 generalize hB : w.heap.size = B at *
 have hBB := hB0 B rfl
 -- what holds between rounds
 let NB : Oth := N.or (fun i => i = B ∨ i = B + 1)
 have drop2 : ∀ {o1 o2 : Obj} {W : World} {LL : List OA}, St A (N.loop B o1 o2) w0 W LL Z → St A NB w0 W LL Z := fun h => h.less (fun i hi => hi) (fun d hd => h.wats d (List.mem_cons_of_mem _ (List.mem_cons_of_mem _ hd)))
 have watch : ∀ {W W' : World} {LL : List OA} {o1 o2 : Obj}, St A NB w0 W LL Z → Chg (· = B + 1) W W' → Ob W' B o1 → Ob W' (B + 1) o2 → St A (N.loop B o1 o2) w0 W' LL Z := by
  intro W W' LL o1 o2 h hc h1 h2
  refine h.others hc (fun i hi => ⟨by rw [hi]; exact .inr (.inr rfl), by rw [hi]; omega⟩) (fun i hi => hi) fun d hd => ?_
  rcases List.mem_cons.1 hd with rfl | hd
  ·exact h1
  rcases List.mem_cons.1 hd with rfl | hd
  ·exact h2
  ·exact (h.wats d hd).chg hc (fun (q : d.1 = B + 1) => hBB.2.2 (q ▸ N.ok d hd))
 have turn : ∀ {W W' : World} {LL : List OA}, St A NB w0 W LL Z → Chg (· = B + 1) W W' → St A NB w0 W' LL Z := by
  intro W W' LL h hc
  refine h.others hc (fun i hi => ⟨by rw [hi]; exact .inr (.inr rfl), by rw [hi]; omega⟩) (fun i hi => hi) fun d hd => ?_
  exact (h.wats d hd).chg hc (fun (q : d.1 = B + 1) => hBB.2.2 (q ▸ N.ok d hd))
 have over : ∀ {W : World} {LL : List OA}, St A NB w0 W LL Z → Ob W B (.deferred (some [])) → St A (N.done B) w0 W LL Z := by
  intro W LL h h1
  refine h.less (fun i hi => hi) fun d hd => ?_
  rcases List.mem_cons.1 hd with rfl | hd
  ·exact h1
  ·exact h.wats d hd
 refine wc_range (ps := [p]) B hB hg hk hs (by simpa using hp) (by simp)
  (fun i W => ∃ s, forE bd (xs.drop i) s = some o ∧ ∃ c, St A NB w0 W (L s c) Z)
  (fun c W => match c with | .ret => ∃ r, o = .inr r ∧ ∃ c, St A NB w0 W (Lr r c) Z | .exit id => br = true ∧ id = bid ∧ ∃ s, o = .inl s ∧ ∃ c, St A NB w0 W (L s c) Z | _ => False)
  (fun i W ⟨s, _, c, h⟩ => hInv _ _ _ _ h) (fun i W W' ⟨s, h1, c, h2⟩ hc => ⟨s, h1, c, turn h2 hc⟩) ?_ ?_ ?_ ?_ ?_
 ·intro c W W' h hc
  cases c with
  | ret => obtain ⟨r, h1, c, h2⟩ := h; exact ⟨r, h1, c, turn h2 hc⟩
  | exit id => obtain ⟨hb, h0, s, h1, c, h2⟩ := h; exact ⟨hb, h0, s, h1, c, turn h2 hc⟩
  | _ => exact h
 ·intro w' hx hlt
  refine ⟨s0, by simpa using e, c0, ?_⟩
  exact S.more hx (fun i hi => by rcases hi with rfl | rfl <;> constructor <;> omega)
 ·rintro i x W o1 o2 hxi ⟨s, he, c, h⟩ h1 h2
  rw [List.getElem?_map] at hxi
  cases hq : xs[i]? with
  | none => rw [hq] at hxi; cases hxi
  | some x0 =>
   rw [hq] at hxi
   obtain rfl := Option.some.inj hxi
   have hlt : i < xs.length := (List.getElem?_eq_some_iff.1 hq).1
   have hdr : xs.drop i = x0 :: xs.drop (i + 1) := by rw [List.drop_eq_getElem_cons hlt]; congr 1; exact (List.getElem?_eq_some_iff.1 hq).2
   rw [hdr] at he
   obtain ⟨q, hbd, hn⟩ := forE_s he
   refine wc_mono (hr x0 s c q _ _ W hbd (watch h (Chg.refl _ _) h1 h2)) ?_
   rintro dm' ex f1 w1 hp1
   cases ex with
   | normal =>
    obtain ⟨rfl, h3, h4⟩ := hp1
    refine ⟨rfl, h3.wats (B, o1) (by simp [Oth.loop]), h3.wats (B + 1, o2) (by simp [Oth.loop]), fun w2 o2' hc h5 h6 => ?_⟩
    refine wc_mono (h4 _ w2 (watch (drop2 h3) hc h5 h6)) ?_
    rintro dm2 ex f2 w3 hp2
    cases ex with
    | normal =>
     obtain ⟨s', rfl, c', h7⟩ := hp2
     exact ⟨h7.wats (B, o1) (by simp [Oth.loop]), h7.wats (B + 1, o2') (by simp [Oth.loop]), s', hn, c', drop2 h7⟩
    | ret =>
     obtain ⟨r, rfl, c', h7⟩ := hp2
     exact ⟨h7.wats (B, o1) (by simp [Oth.loop]), h7.wats (B + 1, o2') (by simp [Oth.loop]), r, hn, c', drop2 h7⟩
    | exit id =>
     obtain ⟨hbr, h0, s', rfl, c', h7⟩ := hp2
     exact ⟨h7.wats (B, o1) (by simp [Oth.loop]), h7.wats (B + 1, o2') (by simp [Oth.loop]), hbr, h0, s', hn, c', drop2 h7⟩
    | _ => exact hp2.elim
   | _ => exact hp1.elim
 ·rintro W ⟨s, he, c, h⟩ h1
  rw [List.length_map, List.drop_length] at he
  exact hdone s c B W (forE_0 he) (over h h1) hBB
 ·intro c W h h1
  cases c with
  | ret => obtain ⟨r, h2, c, h3⟩ := h; exact hret r c B W h2 (over h3 h1) hBB
  | exit id => obtain ⟨hb, rfl, s, h2, c, h3⟩ := h; exact hbrk hb s c B W h2 (over h3 h1) hBB
  | _ => trivial
def fin {σ τ ρ : Type} (k : σ → Option ρ) (k' : τ → Option ρ) : σ ⊕ τ → Option ρ
 | .inl s => k s
 | .inr r => k' r
end
section
variable {P : Program} {g : FuncId} {args : Array Value} {A : Nat → Prop} {N : Oth} {w : World} {L Z : List OA}
theorem calls_mono {R R' : Value → World → Prop} (h : Calls P g args w fun e w' => ∃ v, e = .returned v ∧ R v w') (hR : ∀ v w', R v w' → R' v w') : Calls P g args w fun e w' => ∃ v, e = .returned v ∧ R' v w' :=
 CallsIn.mono (F := fen none) (n := 0) (callsIn_wide.2 h) (by rintro e w' ⟨v, rfl, hv⟩; exact ⟨v, rfl, hR v w' hv⟩) |> callsIn_wide.1
theorem toSt {v0 : Value} (h : Calls P g args w fun e w' => ∃ v, e = .returned v ∧ (v = v0 ∧ Ext w w')) (S : St A N w w L Z) : Calls P g args w fun e w' => ∃ v, e = .returned v ∧ (v = v0 ∧ St A N w w' L []) :=
 calls_mono h fun _ _ h => ⟨h.1, (S.ext h.2).pickZ (by simp)⟩
end
end Gw
end Go.Proofs.YtjebgcoknpcadaaGreatDoor
end
section
namespace Go.Proofs.YtjebgcoknpcadaaGreatDoor
open Gw Go.RowKit
namespace Gw
end Gw
def Bits.okB (b : Bits) : Bool := b.toList.all fun x => decide (0 ≤ x) && decide (x < 18446744073709551616)
theorem Bits.okB_ok {b : Bits} (h : b.okB = true) : b.ok := by
 intro i
 unfold Bits.w
 rw [List.getD_eq_getElem?_getD]
 cases hq : b.toList[i]? with
 | none => simp
 | some x =>
  have := List.all_eq_true.1 h x (List.mem_of_getElem? hq)
  simpa using this
theorem Bits.ok_okB {b : Bits} (h : b.ok) : b.okB = true := by
 refine List.all_eq_true.2 fun x hx => ?_
 obtain ⟨i, hi⟩ := List.getElem?_of_mem hx
 have := h i
 unfold Bits.w at this
 rw [List.getD_eq_getElem?_getD, hi] at this
 simpa using this
def oTz : OA where
 holds := fun w F => Tz w ∧ ∀ i, F i ↔ i = 1
 loc := fun h hc hs => ⟨h.1.chg hc (hs _ ((h.2 _).2 rfl)), h.2⟩
 lt := fun h i hi => by rw [(h.2 i).1 hi]; exact h.1.lt
theorem Gw.St.tz {A : Nat → Prop} {N : Oth} {w0 w : World} {L Z : List OA} (h : St A N w0 w L Z) (k : Nat) (e : Z[k]? = some oTz := by rfl) : Tz w := (h.frz k e).elim fun _ q => q.1
section
variable {A : Nat → Prop} {N : Oth} {w : World}
def bits_Has.f (b : Bits) (n : Int) : Option Bool := chk b.okB (some (b.has n))
theorem bits_Has_st {b : Bits} {n : Int} (S : St A N w w [] []) {r : Bool} (H : bits_Has.f b n = some r) : Calls PP F_bits_Has #[.agg (Bits.C b).toArray, .int .i64 n] w fun e w' => ∃ v, e = .returned v ∧ (v = .bool r ∧ St A N w w' [] []) := by
 obtain ⟨hb, H⟩ := xK H; cases H
 exact toSt (bits_Has_ok w b (Bits.okB_ok hb) n) S
def ref05_Has.f (b : Bits) (n : Int) : Option Bool := chk b.okB (some (b.has n))
def bits_Union.f (a b : Bits) : Option Bits := chk (a.okB && b.okB) (some (a.union b))
theorem bits_Union_st {a b : Bits} (S : St A N w w [] []) {r : Bits} (H : bits_Union.f a b = some r) : Calls PP F_bits_Union #[.agg (Bits.C a).toArray, .agg (Bits.C b).toArray] w fun e w' => ∃ v, e = .returned v ∧ (v = .agg (Bits.C r).toArray ∧ St A N w w' [] []) := by
 obtain ⟨hb, H⟩ := xK H; cases H
 have := toSt (bits_Union_ok w a b) S
 rw [Bool.and_eq_true] at hb
 rwa [Bits.zip_union (Bits.okB_ok hb.1) (Bits.okB_ok hb.2)] at this
def bits_Drop.f (b : Bits) (n : Int) : Option Bits := chk b.okB (some (b.del n))
theorem bits_Drop_st {b : Bits} {n : Int} (S : St A N w w [] []) {r : Bits} (H : bits_Drop.f b n = some r) : Calls PP F_bits_Drop #[.agg (Bits.C b).toArray, .int .i64 n] w fun e w' => ∃ v, e = .returned v ∧ (v = .agg (Bits.C r).toArray ∧ St A N w w' [] []) := by
 obtain ⟨hb, H⟩ := xK H; cases H
 exact toSt (bits_Drop_ok w b n (Bits.okB_ok hb)) S
def ref05_Drop.f (b : Bits) (n : Int) : Option Bits := chk b.okB (some (b.del n))
def ref05_With.f (b : Bits) (n : Int) : Option Bits := chk (b.okB && (decide (0 ≤ n) && decide (n < 1024))) (some (b.add n))
def ref05_Put.f (b : Bits) (n : Int) : Option (Bits × Int) := chk b.okB (some (b.putS n))
theorem ref05_Put_st {b : Bits} {n : Int} (S : St A N w w [] []) {r : Bits × Int} (H : ref05_Put.f b n = some r) : Calls PP F_ref05_Put #[.agg (Bits.C b).toArray, .int .i64 n] w fun e w' => ∃ v, e = .returned v ∧ (v = .tuple #[.agg (Bits.C r.1).toArray, .int .i64 r.2] ∧ St A N w w' [] []) := by
 obtain ⟨hb, H⟩ := xK H; cases H
 exact toSt (ref05_Put_ok w b n (Bits.okB_ok hb)) S
def bits_Of.f (l : List Int) : Option (Bits × Int) := some (Bits.ofs l)
theorem bits_Of_st {l : List Int} {s : SlV} (S : St A N w w [] [fS 1 IC s l]) {r : Bits × Int} (H : bits_Of.f l = some r) : Calls PP F_bits_Of #[s.v] w fun e w' => ∃ v, e = .returned v ∧ (v = .tuple #[.agg (Bits.C r.1).toArray, .int .i64 r.2] ∧ St A N w w' [] []) := by
 cases H
 exact toSt (bits_Of_ok w s l (S.rd 0) (by have := S.len 0; omega)) S
end
end Go.Proofs.YtjebgcoknpcadaaGreatDoor
end
section
namespace Go.Proofs.YtjebgcoknpcadaaGreatDoor
open Gw Go.RowKit
abbrev Tb := Option (List Nd)
def oT (a : Option Addr) (t : Tb) : OA where
 holds := fun w F => match t with
  | none => (a = none ∧ ∀ i, ¬ F i) ∨ ∃ p, a = some ⟨p, 0, none⟩ ∧ Blk w p kj (Tab.C Tab.z) ∧ ∀ i, F i ↔ i = p
  | some N => ∃ p, a = some ⟨p, 0, none⟩ ∧ TabAt w p N F ∧ N.length ≤ 1024
 loc := fun {S w w' F} h hc hs => by
  cases t with
  | none =>
   rcases h with h | ⟨p, h1, h2, h3⟩
   ·exact .inl h
   ·exact .inr ⟨p, h1, h2.chg hc (hs p ((h3 p).2 rfl)), h3⟩
  | some N => obtain ⟨p, h1, h2, h3⟩ := h; exact ⟨p, h1, h2.keep hc hs, h3⟩
 lt := fun {w F} h i hi => by
  cases t with
  | none =>
   rcases h with h | ⟨p, h1, h2, h3⟩
   ·exact absurd hi (h.2 i)
   ·rw [(h3 i).1 hi]; exact h2.lt
  | some N => obtain ⟨p, h1, h2, h3⟩ := h; exact h2.lt i hi
theorem oT.nil (w : World) : (oT none none).holds w (fun _ => False) := .inl ⟨rfl, fun _ x => x⟩
theorem oT.dead {w : World} {a : Option Addr} {F : Nat → Prop} (h : (oT a none).holds w F) : Dead w a := by
 rcases h with h | ⟨p, h1, h2, _⟩
 ·exact .inl h.1
 ·exact .inr ⟨p, h1, h2⟩
def oR (a : Option Addr) (t : Tb) : OA where
 holds := fun w F => match t with
  | none => a = none ∧ ∀ i, ¬ F i
  | some N => ∃ p s, a = some ⟨p, 0, none⟩ ∧ Blk w p T_RTab (RTab.C ⟨s⟩) ∧ Own w 0 T_Nd 4 s (N.map Nd.C) ∧ N.length ≤ 140737488355328 ∧ ¬ s.fp p ∧ ∀ i, F i ↔ (i = p ∨ s.fp i)
 loc := fun {S w w' F} h hc hs => by
  cases t with
  | none => exact h
  | some N =>
   obtain ⟨p, s, h1, h2, h3, h4, h5, h6⟩ := h
   exact ⟨p, s, h1, h2.chg hc (hs p ((h6 p).2 (.inl rfl))), h3.keep hc (fun i hi => hs i ((h6 i).2 (.inr hi))), h4, h5, h6⟩
 lt := fun {w F} h i hi => by
  cases t with
  | none => exact absurd hi (h.2 i)
  | some N =>
   obtain ⟨p, s, h1, h2, h3, h4, h5, h6⟩ := h
   rcases (h6 i).1 hi with rfl | hi
   ·exact h2.lt
   ·exact h3.lt i hi
theorem oR.nil (w : World) : (oR none none).holds w (fun _ => False) := ⟨rfl, fun _ x => x⟩
section
variable {A : Nat → Prop} {N : Oth} {w0 w w' : World} {L Z : List OA}
theorem Gw.St.openR (h : St A N w0 w L Z) (k : Nat) {a : Option Addr} {t : Tb} {L' : List OA} (ht : t.isSome = true) (e : L[k]? = some (oR a t) := by rfl) (e' : L.eraseIdx k = L' := by rfl) : ∃ p s, a = some ⟨p, 0, none⟩ ∧ St A N w0 w (oB p T_RTab (RTab.C ⟨s⟩) :: oS T_Nd 4 Nd.C s (t.getD []) :: L') Z := by
 subst e'
 obtain ⟨M, rfl⟩ := Option.isSome_iff_exists.1 ht
 obtain ⟨U, hU, hN, hA, hL, hZ, hW⟩ := h
 obtain ⟨F, ⟨p, s, h1, h2, h3, h4, h5, h6⟩, hF, hR⟩ := hL.front k e
 refine ⟨p, s, h1, U, hU, hN, hA, ⟨fun i => i = p, ⟨h2, fun _ => Iff.rfl⟩, fun i hi => hF i ((h6 i).2 (.inl hi)), s.fp, ⟨⟨h3, h4⟩, fun _ => Iff.rfl⟩, fun i hi => ⟨hF i ((h6 i).2 (.inr hi)), fun q => h5 (q ▸ hi)⟩, ?_⟩, hZ, hW⟩
 exact hR.mono fun i hi => ⟨⟨hi.1, fun q => hi.2 ((h6 i).2 (.inl q))⟩, fun q => hi.2 ((h6 i).2 (.inr q))⟩
theorem Gw.St.shutR {p : Nat} {s : SlV} {M : List Nd} (h : St A N w0 w (oB p T_RTab (RTab.C ⟨s⟩) :: oS T_Nd 4 Nd.C s M :: L) Z) {a : Option Addr} (ha : a = some ⟨p, 0, none⟩) : St A N w0 w (oR a (some M) :: L) Z := by
 obtain ⟨U, hU, hN, hA, ⟨F, h1, hF, G, h2, hG, hR⟩, hZ, hW⟩ := h
 refine ⟨U, hU, hN, hA, ⟨fun i => F i ∨ G i, ⟨p, s, ha, h1.1, h2.1.1, h2.1.2, fun q => (hG p ((h2.2 p).2 q)).2 ((h1.2 p).2 rfl), fun i => or_congr (h1.2 i) (h2.2 i)⟩, fun i hi => hi.elim (hF i) (fun q => (hG i q).1), ?_⟩, hZ, hW⟩
 exact hR.mono fun i hi => ⟨hi.1.1, fun q => q.elim hi.1.2 hi.2⟩
theorem Gw.St.seeR (h : St A N w0 w L Z) (k : Nat) {a : Option Addr} {t : Tb} (ht : t.isSome = true) (e : Z[k]? = some (oR a t) := by rfl) : ∃ p s, a = some ⟨p, 0, none⟩ ∧ St A N w0 w L (oB p T_RTab (RTab.C ⟨s⟩) :: fS 4 Nd.C s (t.getD []) :: Z) := by
 obtain ⟨M, rfl⟩ := Option.isSome_iff_exists.1 ht
 obtain ⟨F, p, s, h1, _⟩ := h.frz k e
 have key : ∀ F, (oR a (some M)).holds w F → ∃ p' s', a = some ⟨p', 0, none⟩ ∧ Blk w p' T_RTab (RTab.C ⟨s'⟩) ∧ Own w 0 T_Nd 4 s' (M.map Nd.C) ∧ M.length ≤ 140737488355328 ∧ F p' ∧ ∀ i, s'.fp i → F i := by
  rintro F ⟨p, s, h1, h2, h3, h4, h5, h6⟩
  exact ⟨p, s, h1, h2, h3, h4, (h6 p).2 (.inl rfl), fun i hi => (h6 i).2 (.inr hi)⟩
 obtain ⟨U, hU, hN, hA, hL, hZ, hW⟩ := h
 obtain ⟨F, hF, hFU⟩ := hZ _ (List.mem_of_getElem? e)
 obtain ⟨p', s', e1, e2, e3, e4, e5, e6⟩ := key F hF
 refine ⟨p', s', e1, U, hU, hN, hA, hL, fun z hz => ?_, hW⟩
 rcases List.mem_cons.1 hz with rfl | hz
 ·exact ⟨fun i => i = p', ⟨e2, fun _ => Iff.rfl⟩, fun i hi => by rw [hi]; exact hFU p' e5⟩
 rcases List.mem_cons.1 hz with rfl | hz
 ·exact ⟨s'.fp, ⟨⟨e3.toRd, e4⟩, fun _ => Iff.rfl⟩, fun i hi => hFU i (e6 i hi)⟩
 ·exact hZ z hz
theorem oR.len {a : Option Addr} {t : Tb} {w : World} {F : Nat → Prop} (h : (oR a t).holds w F) : (t.getD []).length ≤ 140737488355328 := by
 cases t with
 | none => simp
 | some M => obtain ⟨p, s, _, _, _, h4, _⟩ := h; exact h4
theorem Gw.St.lenRZ (h : St A N w0 w L Z) (k : Nat) {a : Option Addr} {t : Tb} (e : Z[k]? = some (oR a t) := by rfl) : (t.getD []).length ≤ 140737488355328 := (h.frz k e).elim fun _ h => oR.len h
end
section
variable {A : Nat → Prop} {N : Oth} {w : World}
def formula_Table_Node.f (t : Tb) (i : Int) : Option (Nd × Bool) := t.map fun N => ju N i
theorem vC {a : Option Addr} {t : Tb} {i : Int} (S : St A N w w [] [oT a t]) {r : Nd × Bool} (H : formula_Table_Node.f t i = some r) : Calls PP uL #[.pointer a, .int .i64 i] w fun e w' => ∃ v, e = .returned v ∧ (v = .tuple #[.agg (Nd.C r.1).toArray, .bool r.2] ∧ St A N w w' [] []) := by
 cases t with
 | none => cases H
 | some M =>
  cases H
  obtain ⟨F, p, rfl, T, hN⟩ := S.frz 0 rfl
  exact toSt (formula_Table_Node_ok w i T) S
def formula_Table_Len.f (t : Tb) : Option Int := t.map fun N => (N.length : Int)
theorem yl {a : Option Addr} {t : Tb} (S : St A N w w [] [oT a t]) {r : Int} (H : formula_Table_Len.f t = some r) : Calls PP u6 #[.pointer a] w fun e w' => ∃ v, e = .returned v ∧ (v = .int .i64 r ∧ St A N w w' [] []) := by
 cases t with
 | none => cases H
 | some M =>
  cases H
  obtain ⟨F, p, rfl, T, hN⟩ := S.frz 0 rfl
  exact toSt (formula_Table_Len_ok w T) S
theorem mutT {P : Program} {g : FuncId} {args : Array Value} {p : Nat} {M M' : List Nd} {v0 : Value} (S : St A N w w [oT (some ⟨p, 0, none⟩) (some M)] []) (hM : M'.length ≤ 1024)
  (h : ∀ F, TabAt w p M F → M.length ≤ 1024 → Calls P g args w fun e w' => ∃ v, e = .returned v ∧ (∃ A', v = v0 ∧ TabAt w' p M' A' ∧ Chg F w w' ∧ (∀ i, A' i → F i ∨ w.heap.size ≤ i))) :
  Calls P g args w fun e w' => ∃ v, e = .returned v ∧ (v = v0 ∧ St A N w w' [oT (some ⟨p, 0, none⟩) (some M')] []) := by
 obtain ⟨U, hU, hN, hA, ⟨F, hF, hFU, _⟩, hZ, hW⟩ := S
 obtain ⟨p', hp, T, hl⟩ := hF
 cases hp
 refine calls_mono (h F T hl) ?_
 rintro v w' ⟨A', rfl, T', hc, hg⟩
 refine ⟨rfl, fun i => F i ∨ A' i, fun i hi => ⟨?_, ?_, ?_⟩, fun i hi => Nat.lt_of_lt_of_le (hN i hi) hc.size, hc.mono fun i hi hf => ((hU i (hFU i hf)).1).elim id (fun q => absurd hi (by omega)), ⟨A', ⟨p, rfl, T', hM⟩, fun i hi => .inr hi, trivial⟩, fun z hz => by simp at hz, hW.chg hc (fun i hi => (hU i (hFU i hi)).2.2)⟩
 ·rcases hi with hi | hi
  ·exact (hU i (hFU i hi)).1
  ·exact (hg i hi).elim (fun q => (hU i (hFU i q)).1) .inr
 ·rcases hi with hi | hi
  ·exact Nat.lt_of_lt_of_le (hU i (hFU i hi)).2.1 hc.size
  ·exact T'.lt i hi
 ·rcases hi with hi | hi
  ·exact (hU i (hFU i hi)).2.2
  ·exact (hg i hi).elim (fun q => (hU i (hFU i q)).2.2) (fun q hn => absurd (hN i hn) (by omega))
def formula_Table_Not_neg.f (t : Tb) (_ : Int) : Option (Int × Int) := some (match t with | none => (0, 1) | some _ => (0, 31))
theorem vP {a : Option Addr} {t : Tb} {i : Int} (S : St A N w w [] [oT a t]) (hi : i = -1) {r : Int × Int} (H : formula_Table_Not_neg.f t i = some r) : Calls PP vV #[.pointer a, .int .i64 i] w fun e w' => ∃ v, e = .returned v ∧ (v = .tuple #[.int .i64 r.1, .int .i64 r.2] ∧ St A N w w' [] []) := by
 subst hi
 cases t with
 | none =>
  cases H
  obtain ⟨F, hF⟩ := S.frz 0 rfl
  exact toSt (formula_Table_Not_dead w _ (oT.dead hF)) S
 | some M =>
  cases H
  obtain ⟨F, p, rfl, T, hN⟩ := S.frz 0 rfl
  exact toSt (zaz w T) S
def formula_Table_Imp.f (t : Tb) (a b : Int) : Option (Tb × Int × Int) := t.map fun N => (some (putS N (impN a b)).1, (putS N (impN a b)).2)
theorem y5 {p : Option Addr} {t : Tb} {a b : Int} (S : St A N w w [oT p t] []) {r : Tb × Int × Int} (H : formula_Table_Imp.f t a b = some r) : Calls PP uZ #[.pointer p, .int .i64 a, .int .i64 b] w fun e w' => ∃ v, e = .returned v ∧ (v = .tuple #[.int .i64 r.2.1, .int .i64 r.2.2] ∧ St A N w w' [oT p r.1] []) := by
 cases t with
 | none => cases H
 | some M =>
  cases H
  obtain ⟨F, p, rfl, T, hN⟩ := S.own 0 rfl
  exact mutT S (put_len hN) fun F T hl => formula_Table_Imp_ok w a b T hl
def formula_Table_Put.f (t : Tb) (n : Nd) : Option (Tb × Int × Int) := chk (decide (n.name.size < 9223372036854775808)) (t.map fun N => (some (putS N n).1, (putS N n).2))
theorem formula_Table_Put_st {p : Option Addr} {t : Tb} {n : Nd} (S : St A N w w [oT p t] []) {r : Tb × Int × Int} (H : formula_Table_Put.f t n = some r) : Calls PP uX #[.pointer p, .agg (Nd.C n).toArray] w fun e w' => ∃ v, e = .returned v ∧ (v = .tuple #[.int .i64 r.2.1, .int .i64 r.2.2] ∧ St A N w w' [oT p r.1] []) := by
 obtain ⟨hs, H⟩ := xK H
 cases t with
 | none => cases H
 | some M =>
  cases H
  obtain ⟨F, p, rfl, T, hN⟩ := S.own 0 rfl
  exact mutT S (put_len hN) fun F T hl => kf w n T (of_decide_eq_true hs) hl
def formula_Word.f (s : ByteArray) : Option Bool := chk (decide (s.size < 9223372036854775808)) (some (decide (isWord s)))
theorem formula_Word_st {s : ByteArray} (S : St A N w w [] []) {r : Bool} (H : formula_Word.f s = some r) : Calls PP zai #[.string s] w fun e w' => ∃ v, e = .returned v ∧ (v = .bool r ∧ St A N w w' [] []) := by
 obtain ⟨hs, H⟩ := xK H
 cases H
 exact toSt (formula_Word_ok w s (of_decide_eq_true hs)) S
def ref03_Word.f (s : ByteArray) : Option Bool := chk (decide (s.size < 9223372036854775808)) (some (decide (isWord s)))
theorem ref03_Word_st {s : ByteArray} (S : St A N w w [] []) {r : Bool} (H : ref03_Word.f s = some r) : Calls PP F_ref03_Word #[.string s] w fun e w' => ∃ v, e = .returned v ∧ (v = .bool r ∧ St A N w w' [] []) := by
 obtain ⟨hs, H⟩ := xK H
 cases H
 exact toSt (ref03_Word_ok w s (of_decide_eq_true hs)) S
end
end Go.Proofs.YtjebgcoknpcadaaGreatDoor
end
section
namespace Go.Proofs.YtjebgcoknpcadaaGreatDoor
open Gw Go.RowKit
section
variable {A : Nat → Prop} {N : Oth} {w0 w w' : World} {L Z : List OA}
theorem Gw.Sep.fam {w : World} : ∀ {L : List OA} {U : Nat → Prop}, Sep w U L → ∃ F : Nat → Nat → Prop, (∀ k a, L[k]? = some a → a.holds w (F k) ∧ ∀ i, F k i → U i) ∧ ∀ j k i, j ≠ k → j < L.length → k < L.length → F j i → ¬ F k i
 | [], _, _ => ⟨fun _ _ => False, by simp, by simp⟩
 | a :: L, U, ⟨G, h, hG, hL⟩ => by
  obtain ⟨F, h1, h2⟩ := Sep.fam hL
  refine ⟨fun k => match k with | 0 => G | k + 1 => F k, fun k b hb => ?_, fun j k i hjk hj hk => ?_⟩
  ·cases k with
   | zero => simp at hb; subst hb; exact ⟨h, hG⟩
   | succ k => have := h1 k b (by simpa using hb); exact ⟨this.1, fun i hi => (this.2 i hi).1⟩
  ·have hin : ∀ k, k < L.length → ∀ i, F k i → ¬ G i := fun k hk i hi => ((h1 k _ (List.getElem?_eq_getElem hk)).2 i hi).2
   cases j with
   | zero =>
    cases k with
    | zero => exact absurd rfl hjk
    | succ k => exact fun hi q => hin k (by simpa using hk) i q hi
   | succ j =>
    cases k with
    | zero => exact fun hi q => hin j (by simpa using hj) i hi q
    | succ k => exact h2 j k i (by omega) (by simpa using hj) (by simpa using hk)
theorem Gw.Sep.of_fam {w : World} {L : List OA} {U : Nat → Prop} {F : Nat → Nat → Prop} (h1 : ∀ k a, L[k]? = some a → a.holds w (F k) ∧ ∀ i, F k i → U i) (h2 : ∀ j k i, j ≠ k → j < L.length → k < L.length → F j i → ¬ F k i) :
  ∀ (ks : List Nat) (V : Nat → Prop), ks.Nodup → (∀ k ∈ ks, k < L.length → ∀ i, F k i → V i) → Sep w V (sel L ks)
 | [], _, _, _ => trivial
 | k :: ks, V, hn, hV => by
  have hn' := List.nodup_cons.1 hn
  cases hk : L[k]? with
  | none =>
   rw [show sel L (k :: ks) = sel L ks by simp [sel, hk]]
   exact Sep.of_fam h1 h2 ks V hn'.2 fun k' hk' => hV k' (by simp [hk'])
  | some a =>
   have hkl := (List.getElem?_eq_some_iff.1 hk).1
   rw [show sel L (k :: ks) = a :: sel L ks by simp [sel, hk]]
   refine ⟨F k, (h1 k a hk).1, hV k (by simp) hkl, Sep.of_fam h1 h2 ks _ hn'.2 fun k' hk' hl i hi => ⟨hV k' (by simp [hk']) hl i hi, ?_⟩⟩
   exact h2 k' k i (fun e => hn'.1 (e ▸ hk')) hl hkl hi
theorem Gw.St.arr (h : St A N w0 w L Z) (ks zs : List Nat) {L' Z' : List OA} (hk : ks.Nodup := by decide) (e : sel L ks = L' := by rfl) (ez : sel Z zs = Z' := by rfl) : St A N w0 w L' Z' := by
 subst e
 refine St.zs ?_ zs ez
 obtain ⟨U, hU, hN, hA, hL, hZ, hW⟩ := h
 obtain ⟨F, h1, h2⟩ := hL.fam
 exact ⟨U, hU, hN, hA, Sep.of_fam h1 h2 ks U hk fun k _ hl i hi => (h1 k _ (List.getElem?_eq_getElem hl)).2 i hi, hZ, hW⟩
theorem Gw.St.calln (h : St A N w0 w L Z) (n : Nat) {Zc : List OA} (hl : Lend (L.drop n) Z Zc) : ∃ B M, St B M w w (L.take n) Zc ∧ ∀ w' P' Z' L', St B M w w' P' Z' → P' ++ L.drop n = L' → St A N w0 w' L' Z :=
 h.call (L.take n) (L.drop n) hl (List.take_append_drop n L).symm
abbrev zipT (M : List Nd) : List (Nd × Int) := M.zipIdx.map fun q => (q.1, (q.2 : Int))
theorem Gw.St.openT {a : Option Addr} {M : List Nd} (h : St A N w0 w (oT a (some M) :: L) Z) : ∃ p s m, a = some ⟨p, 0, none⟩ ∧ M.length ≤ 1024 ∧ St A N w0 w (oB p kj (Tab.C ⟨s, some m⟩) :: oM m ndV (Value.int .i64) (zipT M) :: oS T_Nd 4 Nd.C s M :: L) Z := by
 obtain ⟨U, hU, hN, hA, ⟨F, ⟨p, h1, ⟨s, m, b, o, mm, h2, h3, h4, hF⟩, hl⟩, hFU, hR⟩, hZ, hW⟩ := h
 refine ⟨p, s, m, h1, hl, U, hU, hN, hA, ⟨fun i => i = p, ⟨b, fun _ => Iff.rfl⟩, fun i hi => hFU i ((hF i).2 (.inl hi)), fun i => i = m, ⟨mm, fun _ => Iff.rfl⟩, fun i hi => ⟨hFU i ((hF i).2 (.inr (.inl hi))), fun q => h2 (q.symm.trans hi)⟩, s.fp, ⟨⟨o, by omega⟩, fun _ => Iff.rfl⟩, fun i hi => ⟨⟨hFU i ((hF i).2 (.inr (.inr hi))), fun q => h3 (q ▸ hi)⟩, fun q => h4 (q ▸ hi)⟩, ?_⟩, hZ, hW⟩
 exact hR.mono fun i hi => ⟨⟨⟨hi.1, fun q => hi.2 ((hF i).2 (.inl q))⟩, fun q => hi.2 ((hF i).2 (.inr (.inl q)))⟩, fun q => hi.2 ((hF i).2 (.inr (.inr q)))⟩
theorem Gw.St.shutT {p m : Nat} {s : SlV} {M : List Nd} (h : St A N w0 w (oB p kj (Tab.C ⟨s, some m⟩) :: oM m ndV (Value.int .i64) (zipT M) :: oS T_Nd 4 Nd.C s M :: L) Z) (hl : M.length ≤ 1024) {a : Option Addr} (ha : a = some ⟨p, 0, none⟩) : St A N w0 w (oT a (some M) :: L) Z := by
 obtain ⟨U, hU, hN, hA, ⟨F, h1, hF, G, h2, hG, K, h3, hK, hR⟩, hZ, hW⟩ := h
 have p1 : F p := (h1.2 p).2 rfl
 have p2 : G m := (h2.2 m).2 rfl
 refine ⟨U, hU, hN, hA, ⟨fun i => i = p ∨ i = m ∨ s.fp i, ⟨p, ha, ⟨s, m, h1.1, h3.1.1, h2.1, fun q => (hG m p2).2 (q ▸ p1), fun q => (hK p ((h3.2 p).2 q)).1.2 p1, fun q => (hK m ((h3.2 m).2 q)).2 p2, fun i => Iff.rfl⟩, hl⟩, ?_, ?_⟩, hZ, hW⟩
 ·rintro i (rfl | rfl | hi)
  ·exact hF _ p1
  ·exact (hG _ p2).1
  ·exact (hK _ ((h3.2 i).2 hi)).1.1
 ·refine hR.mono fun i hi => ⟨hi.1.1.1, ?_⟩
  rintro (rfl | rfl | q)
  ·exact hi.1.1.2 p1
  ·exact hi.1.2 p2
  ·exact hi.2 ((h3.2 i).2 q)
end
section
variable {P : Program} {rd : Option Nat} {n : Nat} {dm : List Nat} {ops : Array Oper} {Q : Post} {f : Fr} {w w' : World} {rest : List Oper} {ty : TypeId} {pos : String} {af : Array Edge} {d : Option Tmp} {gd : Option (Nat × Bool)}
theorem Gw.wd {d : Tmp} {op : Op} {v : Value} (hr : Does P ⟨some d, op, ty, pos, af, none⟩ f w v w') (h : wl P rd n dm ops rest Q (upd f d v) w') (hd : d < n := by decide) : wl P rd n dm ops (⟨some d, op, ty, pos, af, none⟩ :: rest) Q f w := zg hr hd h
theorem Gw.wg {dd : Tmp} {op : Op} {j : Nat} {pol t : Bool} {v : Value} {oj : Oper} {dj : Tmp} (hr : (t == pol) = true → Does P ⟨some dd, op, ty, pos, af, some (j, pol)⟩ f w v w) (h : wl P rd n dm ops rest Q (upd f dd (gv (t == pol) v)) w) (hj : ops[j]? = some oj := by rfl) (hdj : oj.dst = some dj := by rfl) (ht : f dj = .bool t := by rfl) (hdn : dj < n := by decide) (hd : dd < n := by decide) : wl P rd n dm ops (⟨some dd, op, ty, pos, af, some (j, pol)⟩ :: rest) Q f w := zD hj hdj ht hdn hr hd h
theorem wl_val0 {op : Op} {v : Value} (hr : Does P ⟨none, op, ty, pos, af, none⟩ f w v w') (h : wl P rd n dm ops rest Q f w') : wl P rd n dm ops (⟨none, op, ty, pos, af, none⟩ :: rest) Q f w := fun a ha => by
 refine wpListIn_plain rfl fun K hK => ?_
 exact op_wp ha hr (by simp) (hK _ _ (h _ ha))
theorem wl_gon2 {op : Op} {j : Nat} {pol c t : Bool} {oj : Oper} {dj : Tmp} (hj : ops[j]? = some oj) (hdj : oj.dst = some dj) (ht : f dj = gv c (.bool t)) (hdn : dj < n) (hg : (c && (t == pol)) = true)
  (h : wl P rd n dm ops (⟨d, op, ty, pos, af, none⟩ :: rest) Q f w) : wl P rd n dm ops (⟨d, op, ty, pos, af, some (j, pol)⟩ :: rest) Q f w := fun a ha => by
 have h1 := h a ha
 simp only [wpListIn] at h1 ⊢
 rw [kN ha rfl hj hdj ht hdn, hg]
 exact h1
theorem wl_gon {op : Op} {j : Nat} {pol t : Bool} {oj : Oper} {dj : Tmp} (hj : ops[j]? = some oj) (hdj : oj.dst = some dj) (ht : f dj = .bool t) (hdn : dj < n) (hg : (t == pol) = true)
  (h : wl P rd n dm ops (⟨d, op, ty, pos, af, none⟩ :: rest) Q f w) : wl P rd n dm ops (⟨d, op, ty, pos, af, some (j, pol)⟩ :: rest) Q f w :=
 wl_gon2 (c := true) hj hdj (by rw [ht]; exact gv_t _) hdn hg h
theorem map_er {α β : Type} (g : α → β) : ∀ (l : List α) (i : Nat), (l.eraseIdx i).map g = (l.map g).eraseIdx i
 | [], _ => rfl
 | _ :: _, 0 => rfl
 | a :: l, i + 1 => by simp [map_er g l i]
theorem wl_delete0 {α β : Type} {C : α → Value} {D : β → Value} {l : List (α × β)} {m : Nat} [DecidableEq α] {t kt et at_ : Nat} {x y : Operand} {key : α} (ht : P.underlying t = some (.map kt et)) (K : KeyT P kt C) (hx : evF f x = .map (some m)) (hy : evF f y = C key) (hm : MapB w m C D l)
  (h : ∀ w', MapB w' m C D (del key l) → Chg (· = m) w w' → w'.heap.size = w.heap.size → wl P rd n dm ops rest Q f w') : wl P rd n dm ops (⟨none, .call ⟨.builtin .delete, #[x, y], #[t, at_]⟩, ty, pos, af, none⟩ :: rest) Q f w := by
 obtain ⟨es, c, hb, he⟩ := hm
 have hf := run_findKey K key es.toList l he w
 rw [del_spot] at h
 cases hs : spot key l with
 | none =>
  rw [hs] at h hf
  obtain ⟨s1, s2, s3⟩ := map_step (w := w) (m := m) (C := C) (D := D) (es := es) (c := c) (l := l) hb he
  refine wl_val0 (v := .tuple #[]) ?_ (h _ s1 s2 s3)
  simp [Does, execOp, resolve, invoke, builtin, hx, hy, Builtin.delete_, run_underlying ht, MapKept.run_getObj_map hb, K.check, hf, jh _ hb]
 | some i =>
  obtain ⟨v0, hv⟩ := spot_key key l i hs
  rw [hs] at h hf
  have hmod : (es.eraseIdxIfInBounds i).toList.map (fun e => (e.key, e.val)) = (l.eraseIdx i).map fun q => (C q.1, D q.2) := by
   rw [Array.toList_eraseIdxIfInBounds, map_er, he, ← map_er]
  obtain ⟨s1, s2, s3⟩ := map_step (w := w) (m := m) (C := C) (D := D) (c := c) hb hmod
  refine wl_val0 (v := .tuple #[]) ?_ (h _ s1 s2 s3)
  simp [Does, execOp, resolve, invoke, builtin, hx, hy, Builtin.delete_, run_underlying ht, MapKept.run_getObj_map hb, K.check, hf, hv, jh _ hb]
theorem does_makeMap {t : TypeId} : Does P ⟨d, .makeMap t none, ty, pos, af, gd⟩ f w (.map (some w.heap.size)) (w.alloc (.map #[] 0)) := by
 simp [Does, execOp, run_makeMap]
end
section
variable {A : Nat → Prop} {N : Oth} {w : World}
def formula_New.f : Option Tb := some (some [])
theorem formula_New_st (S : St A N w w [] []) {r : Tb} (H : formula_New.f = some r) : Calls PP F_formula_New #[] w fun e w' => ∃ v, e = .returned v ∧ ∃ a : Option Addr, (v = .pointer a ∧ St A N w w' [oT a r] []) := by
 obtain rfl := Option.some.inj H
 refine zw (n := 4) fn_formula_New rfl rfl (by simp) ?_
 repeat (first | refine zb ?_ | refine za ?_ | refine zF ?_)
 refine zg (xj rfl) (by decide) ?_
 refine zd ?_
 repeat (first | refine zb ?_ | refine za ?_ | refine zF ?_)
 refine zg does_makeMap (by decide) ?_
 replace S := S.nil T_Nd 4 Nd.C
 replace S : St A N w (w.alloc (.map #[] 0)) [oM w.heap.size ndV (Value.int .i64) (zipT []), oS T_Nd 4 Nd.C SlV.nil []] [] :=
  S.add (b := oM w.heap.size ndV (Value.int .i64) (zipT [])) (G := (· = w.heap.size)) (Ext.alloc _ _) ⟨⟨#[], 0, heap_alloc_new w _, rfl⟩, fun _ => Iff.rfl⟩ (fun i hi => by rw [hi]; exact Nat.le_refl _)
 refine zg (xB bu_Tab (Bld.one rfl rfl (by rw [Tab.len]; decide) (Tab.set_at_ _ _) Bld.nil)) (by decide) ?_
 refine zJ rfl (by decide) fun b w2 hw2 => ?_
 replace S := S.new hw2
 refine zg (xj rfl) (by decide) ?_
 refine zd ?_
 refine zn ?_
 exact ⟨_, (zS (ze rfl)), _, rfl, S.shutT (by simp) rfl⟩
end
section
variable {A : Nat → Prop} {N : Oth} {w0 w w' : World} {L Z : List OA}
end
section
variable {A : Nat → Prop} {N : Oth} {w : World}
end
section
variable {A : Nat → Prop} {N : Oth} {w0 w : World} {L Z : List OA}
end
end Go.Proofs.YtjebgcoknpcadaaGreatDoor
end
section
namespace Go.Proofs.YtjebgcoknpcadaaGreatDoor
open Go.RowKit
namespace Gw
def OA.star (a b : OA) : OA where
 holds := fun w F => ∃ G H, a.holds w G ∧ b.holds w H ∧ (∀ i, G i → ¬ H i) ∧ ∀ i, F i ↔ (G i ∨ H i)
 loc := fun ⟨G, H, g, h, d, e⟩ hc hs => ⟨G, H, a.loc g hc (fun i hi => hs i ((e i).2 (.inl hi))), b.loc h hc (fun i hi => hs i ((e i).2 (.inr hi))), d, e⟩
 lt := fun ⟨G, H, g, h, d, e⟩ i hi => ((e i).1 hi).elim (a.lt g i) (b.lt h i)
def OA.ex {α : Type} (f : α → OA) : OA where
 holds := fun w F => ∃ x, (f x).holds w F
 loc := fun ⟨x, h⟩ hc hs => ⟨x, (f x).loc h hc hs⟩
 lt := fun ⟨x, h⟩ => (f x).lt h
def OA.pure (p : Prop) : OA where
 holds := fun _ F => p ∧ ∀ i, ¬ F i
 loc := fun h _ _ => h
 lt := fun h i hi => (h.2 i hi).elim
section
variable {A : Nat → Prop} {N : Oth} {w0 w w' : World} {L Z : List OA}
theorem St.sep (h : St A N w0 w L Z) {L' : List OA} (hs : ∀ U, Sep w U L → Sep w U L') : St A N w0 w L' Z := by
 obtain ⟨U, hU, hN, hA, hL, hZ, hW⟩ := h
 exact ⟨U, hU, hN, hA, hs U hL, hZ, hW⟩
theorem St.unstar (h : St A N w0 w L Z) (k : Nat) {a b : OA} {L' : List OA} (e : L[k]? = some (a.star b) := by rfl) (e' : a :: b :: L.eraseIdx k = L' := by rfl) : St A N w0 w L' Z := by
 subst e'
 refine h.sep fun U hL => ?_
 obtain ⟨F, ⟨G, H, g, h, d, q⟩, hF, hR⟩ := hL.front k e
 refine ⟨G, g, fun i hi => hF i ((q i).2 (.inl hi)), H, h, fun i hi => ⟨hF i ((q i).2 (.inr hi)), fun hg => d i hg hi⟩, hR.mono fun i hi => ⟨⟨hi.1, fun hg => hi.2 ((q i).2 (.inl hg))⟩, fun hh => hi.2 ((q i).2 (.inr hh))⟩⟩
theorem St.star {a b : OA} (h : St A N w0 w (a :: b :: L) Z) : St A N w0 w (a.star b :: L) Z := by
 refine h.sep fun U hL => ?_
 obtain ⟨G, g, hG, H, h, hH, hR⟩ := hL
 exact ⟨fun i => G i ∨ H i, ⟨G, H, g, h, fun i hg hh => (hH i hh).2 hg, fun _ => Iff.rfl⟩, fun i hi => hi.elim (hG i) (fun q => (hH i q).1), hR.mono fun i hi => ⟨hi.1.1, fun q => q.elim hi.1.2 hi.2⟩⟩
theorem St.unex (h : St A N w0 w L Z) (k : Nat) {α : Type} {f : α → OA} (e : L[k]? = some (OA.ex f) := by rfl) : ∃ x, St A N w0 w (f x :: L.eraseIdx k) Z := by
 obtain ⟨U, hU, hN, hA, hL, hZ, hW⟩ := h
 obtain ⟨F, ⟨x, g⟩, hF, hR⟩ := hL.front k e
 exact ⟨x, U, hU, hN, hA, ⟨F, g, hF, hR⟩, hZ, hW⟩
theorem St.toex {α : Type} {f : α → OA} (x : α) (h : St A N w0 w (f x :: L) Z) : St A N w0 w (OA.ex f :: L) Z := by
 refine h.sep fun U hL => ?_
 obtain ⟨F, g, hF, hR⟩ := hL
 exact ⟨F, ⟨x, g⟩, hF, hR⟩
theorem St.getp (h : St A N w0 w L Z) (k : Nat) {p : Prop} (e : L[k]? = some (OA.pure p) := by rfl) : p := (h.own k e).elim fun _ h => h.1
theorem St.putp (h : St A N w0 w L Z) {p : Prop} (hp : p) : St A N w0 w (OA.pure p :: L) Z :=
 h.add (b := OA.pure p) (G := fun _ => False) (Ext.refl w) ⟨hp, fun _ x => x⟩ (fun _ x => x.elim)
theorem St.unexZ (h : St A N w0 w L Z) (k : Nat) {α : Type} {f : α → OA} (e : Z[k]? = some (OA.ex f) := by rfl) : ∃ x, St A N w0 w L (f x :: Z) := by
 obtain ⟨U, hU, hN, hA, hL, hZ, hW⟩ := h
 obtain ⟨F, ⟨x, g⟩, hF⟩ := hZ _ (List.mem_of_getElem? e)
 refine ⟨x, U, hU, hN, hA, hL, fun z hz => ?_, hW⟩
 rcases List.mem_cons.1 hz with rfl | hz
 ·exact ⟨F, g, hF⟩
 ·exact hZ z hz
theorem St.getpZ (h : St A N w0 w L Z) (k : Nat) {p : Prop} (e : Z[k]? = some (OA.pure p) := by rfl) : p := (h.frz k e).elim fun _ h => h.1
theorem St.frzO (h : St A N w0 w L Z) (k : Nat) {a : OA} {L' : List OA} (q : L[k]? = some a := by rfl) (q' : L.eraseIdx k = L' := by rfl) : St A N w0 w L' (a :: Z) := h.freeze k (a := a) (fun _ h => h) q q'
end
def big {μ α : Type} (R : μ → α → OA) : List μ → List α → OA
 | [], [] => OA.pure True
 | m :: ms, x :: xs => (R m x).star (big R ms xs)
 | _, _ => OA.pure False
theorem big_len {w : World} {μ α : Type} {R : μ → α → OA} : ∀ {ms : List μ} {l : List α} {F : Nat → Prop}, (big R ms l).holds w F → ms.length = l.length
 | [], [], _, _ => rfl
 | m :: ms, x :: xs, F, ⟨_, _, _, h, _⟩ => by simp [big_len h]
 | [], _ :: _, _, h => h.1.elim
 | _ :: _, [], _, h => h.1.elim
theorem big_at {w : World} {μ α : Type} {R : μ → α → OA} : ∀ {ms : List μ} {l : List α} {F : Nat → Prop} {i : Nat} {m : μ} {x : α}, (big R ms l).holds w F → ms[i]? = some m → l[i]? = some x → ∃ G, (R m x).holds w G ∧ ∀ j, G j → F j
 | [], [], _, _, _, _, _, h, _ => by simp at h
 | m :: ms, x :: xs, F, i, m', x', ⟨G, H, g, h, d, e⟩, hm, hx => by
  cases i with
  | zero => simp at hm hx; subst hm hx; exact ⟨G, g, fun j hj => (e j).2 (.inl hj)⟩
  | succ i =>
   obtain ⟨K, k, hK⟩ := big_at h (by simpa using hm) (by simpa using hx)
   exact ⟨K, k, fun j hj => (e j).2 (.inr (hK j hj))⟩
 | [], _ :: _, _, _, _, _, h, _, _ => h.1.elim
 | _ :: _, [], _, _, _, _, h, _, _ => h.1.elim
theorem big_push {w : World} {μ α : Type} {R : μ → α → OA} {m : μ} {x : α} {G : Nat → Prop} (g : (R m x).holds w G) : ∀ {ms : List μ} {l : List α} {F : Nat → Prop}, (big R ms l).holds w F → (∀ i, F i → ¬ G i) → (big R (ms ++ [m]) (l ++ [x])).holds w fun i => F i ∨ G i
 | [], [], F, h, d => ⟨G, fun _ => False, g, ⟨trivial, fun _ x => x⟩, fun _ _ x => x, fun i => ⟨fun q => q.elim (fun q => absurd q (h.2 i)) .inl, fun q => q.elim .inr (fun x => x.elim)⟩⟩
 | m' :: ms, x' :: xs, F, ⟨G', H', g', h', d', e'⟩, d => by
  refine ⟨G', fun i => H' i ∨ G i, g', big_push g h' (fun i hi => d i ((e' i).2 (.inr hi))), fun i hi q => q.elim (d' i hi) (d i ((e' i).2 (.inl hi))), fun i => ?_⟩
  show F i ∨ G i ↔ _
  rw [e' i, or_assoc]
 | [], _ :: _, _, h, _ => h.1.elim
 | _ :: _, [], _, h, _ => h.1.elim
def oD (e k : Nat) {μ α : Type} (C : μ → List Value) (R : μ → α → OA) (s : SlV) (l : List α) : OA := OA.ex fun ms => (oS e k C s ms).star (big R ms l)
section
variable {A : Nat → Prop} {N : Oth} {w0 w w' : World} {L Z : List OA} {e k : Nat} {μ α : Type} {C : μ → List Value} {R : μ → α → OA} {s : SlV} {l : List α}
def OA.on (a : OA) (w : World) : Prop := ∃ F, a.holds w F
theorem oD.rd (h : (oD e k C R s l).on w) : ∃ ms : List μ, Rd w k s (ms.map C) ∧ ms.length = l.length ∧ (∀ (i : Nat) m x, ms[i]? = some m → l[i]? = some x → (R m x).on w) ∧ l.length ≤ 140737488355328 := by
 obtain ⟨F, ms, G, H, g, h, d, q⟩ := h
 refine ⟨ms, g.1.1.toRd, big_len h, fun i m x hm hx => (big_at h hm hx).elim fun K hk => ⟨K, hk.1⟩, ?_⟩
 rw [← big_len h]; exact g.1.2
theorem oD.elt (h : (oD e k C R s l).on w) {z : α} {i : Int} (hi : 0 ≤ i ∧ i < l.length) : ∃ m, jv w s.blk (s.off + i.toNat * k) (C m) ∧ (R m (at_ z l i)).on w := by
 obtain ⟨ms, hr, hl, hR, _⟩ := oD.rd h
 have h1 : i.toNat < ms.length := by omega
 have h2 : i.toNat < l.length := by omega
 have h3 : at_ z l i = l[i.toNat] := by simp [at_, List.getD_eq_getElem?_getD, h2]
 refine ⟨ms[i.toNat], hr.at (List.getElem?_eq_getElem h1), ?_⟩
 rw [h3]
 exact hR i.toNat _ _ (List.getElem?_eq_getElem h1) (List.getElem?_eq_getElem h2)
theorem oD.cell (h : (oD e k C R s l).on w) {z : α} {i : Int} (hi : 0 ≤ i ∧ i < l.length) {o : Nat} {v : Value} (hf : ∀ m, (R m (at_ z l i)).on w → (C m)[o]? = some v) : w.cell? ⟨s.blk, s.off + i.toNat * k + o, none⟩ = some v := by
 obtain ⟨m, hc, hR⟩ := oD.elt h (z := z) hi
 exact hc.get (hf m hR)
theorem St.onO (h : St A N w0 w L Z) (k : Nat) {a : OA} (e : L[k]? = some a := by rfl) : a.on w := h.own k e
theorem St.onZ (h : St A N w0 w L Z) (k : Nat) {a : OA} (e : Z[k]? = some a := by rfl) : a.on w := h.frz k e
theorem oD.nil_holds (w : World) (e k : Nat) {μ α : Type} (C : μ → List Value) (R : μ → α → OA) : (oD e k C R SlV.nil []).holds w (fun _ => False) :=
 ⟨[], fun _ => False, fun _ => False, ⟨⟨by simpa using Own.nil w 0 e k, by simp⟩, fun i => ⟨fun x => x.elim, fun x => absurd rfl x.1⟩⟩, ⟨trivial, fun _ x => x⟩, fun _ _ x => x, fun _ => ⟨fun x => x.elim, fun x => x.elim id id⟩⟩
theorem St.nilD (h : St A N w0 w L Z) (e k : Nat) {μ α : Type} (C : μ → List Value) (R : μ → α → OA) : St A N w0 w (oD e k C R SlV.nil [] :: L) Z :=
 h.add (b := oD e k C R SlV.nil []) (G := fun _ => False) (Ext.refl w) (oD.nil_holds w e k C R) (fun _ x => x.elim)
theorem St.openD (h : St A N w0 w L Z) (n : Nat) (q : L[n]? = some (oD e k C R s l) := by rfl) : ∃ ms : List μ, St A N w0 w (oS e k C s ms :: big R ms l :: L.eraseIdx n) Z := by
 obtain ⟨ms, h1⟩ := h.unex n (f := fun ms => (oS e k C s ms).star (big R ms l)) q
 exact ⟨ms, h1.unstar 0⟩
theorem St.shutD {ms : List μ} (h : St A N w0 w (oS e k C s ms :: big R ms l :: L) Z) : St A N w0 w (oD e k C R s l :: L) Z := St.toex (f := fun ms => (oS e k C s ms).star (big R ms l)) ms h.star
theorem St.pushD {ms : List μ} {m : μ} {x : α} (h : St A N w0 w (oS e k C s (ms ++ [m]) :: big R ms l :: R m x :: L) Z) : St A N w0 w (oD e k C R s (l ++ [x]) :: L) Z := by
 refine St.shutD (ms := ms ++ [m]) (h.sep fun U hL => ?_)
 obtain ⟨F, f, hF, G, g, hG, H, hh, hH, hR⟩ := hL
 exact ⟨F, f, hF, fun i => G i ∨ H i, big_push hh g (fun i hg hi => (hH i hi).2 hg), fun i hi => hi.elim (hG i) (fun q => (hH i q).1), hR.mono fun i hi => ⟨hi.1.1, fun q => q.elim hi.1.2 hi.2⟩⟩
end
section
variable {P : Program} {f : Fr} {w w' : World} {d : Option Tmp} {ty : TypeId} {pos : String} {af : Array Edge} {gd : Option (Nat × Bool)}
theorem does_lenD {e' k' : Nat} {μ α : Type} {C : μ → List Value} {R : μ → α → OA} {l : List α} {x : Operand} {t e k : Nat} {s : SlV} (ht : yu P t e k) (hx : evF f x = s.v) (h : (oD e' k' C R s l).on w) : Does P ⟨d, .call ⟨.builtin .len, #[x], #[t]⟩, ty, pos, af, gd⟩ f w (.int .i64 l.length) w := by
 obtain ⟨ms, hr, hl, _⟩ := oD.rd h
 have := xG (P := P) (f := f) (d := d) (ty := ty) (pos := pos) (af := af) (gd := gd) ht hx hr
 rw [hl] at this; exact this
theorem does_indexD {e' : Nat} {μ α : Type} {C : μ → List Value} {R : μ → α → OA} {l : List α} {x y : Operand} {t e k : Nat} {kd : IntKind} {i : Int} {s : SlV} (ht : yu P t e k) (hx : evF f x = s.v) (hy : evF f y = .int kd i) (h : (oD e' k C R s l).on w) (h0 : 0 ≤ i) (h1 : i < l.length) :
  Does P ⟨d, .indexAddr t x y, ty, pos, af, gd⟩ f w (.pointer (some ⟨s.blk, s.off + i.toNat * k, none⟩)) w := by
 obtain ⟨ms, hr, hl, _⟩ := oD.rd h
 exact zZ ht hx hy hr h0 (by omega)
theorem Does.to {o : Oper} {v v' : Value} (h : Does P o f w v w') (e : v = v') : Does P o f w v' w' := e ▸ h
theorem wl_makeMap {α β : Type} {C : α → Value} {D : β → Value} {rd : Option Nat} {n : Nat} {dm : List Nat} {ops : Array Oper} {rest : List Oper} {Q : Post} {dd : Tmp} {t : TypeId} (hd : dd < n)
  (h : ∀ m w', MapB w' m C D [] → Ext w w' → w.heap.size ≤ m → wl P rd n dm ops rest Q (upd f dd (.map (some m))) w') : wl P rd n dm ops (⟨some dd, .makeMap t none, ty, pos, af, none⟩ :: rest) Q f w :=
 zg does_makeMap hd (h _ _ ⟨#[], 0, heap_alloc_new w _, rfl⟩ (Ext.alloc _ _) (Nat.le_refl _))
end
section
variable {A : Nat → Prop} {N : Oth} {w0 w w' : World} {L Z : List OA}
theorem St.newM (h : St A N w0 w L Z) {α β : Type} {C : α → Value} {D : β → Value} {m : Nat} (hm : MapB w' m C D ([] : List (α × β))) (hx : Ext w w') (hl : w.heap.size ≤ m) : St A N w0 w' (oM m C D [] :: L) Z :=
 h.add (b := oM m C D []) (G := (· = m)) hx ⟨hm, fun _ => Iff.rfl⟩ (fun i hi => by rw [hi]; exact hl)
end
end Gw
end Go.Proofs.YtjebgcoknpcadaaGreatDoor
end
section
namespace Go.Proofs.YtjebgcoknpcadaaGreatDoor
open Go.RowKit
namespace Gw
def OA.and (a b : OA) : OA where
 holds := fun w F => ∃ G H, a.holds w G ∧ b.holds w H ∧ ∀ i, F i ↔ (G i ∨ H i)
 loc := fun ⟨G, H, g, h, e⟩ hc hs => ⟨G, H, a.loc g hc (fun i hi => hs i ((e i).2 (.inl hi))), b.loc h hc (fun i hi => hs i ((e i).2 (.inr hi))), e⟩
 lt := fun ⟨G, H, g, h, e⟩ i hi => ((e i).1 hi).elim (a.lt g i) (b.lt h i)
def bigA {μ α : Type} (R : μ → α → OA) : List μ → List α → OA
 | [], [] => OA.pure True
 | m :: ms, x :: xs => (R m x).and (bigA R ms xs)
 | _, _ => OA.pure False
theorem bigA_len {w : World} {μ α : Type} {R : μ → α → OA} : ∀ {ms : List μ} {l : List α} {F : Nat → Prop}, (bigA R ms l).holds w F → ms.length = l.length
 | [], [], _, _ => rfl
 | m :: ms, x :: xs, F, ⟨_, _, _, h, _⟩ => by simp [bigA_len h]
 | [], _ :: _, _, h => h.1.elim
 | _ :: _, [], _, h => h.1.elim
theorem bigA_at {w : World} {μ α : Type} {R : μ → α → OA} : ∀ {ms : List μ} {l : List α} {F : Nat → Prop} {i : Nat} {m : μ} {x : α}, (bigA R ms l).holds w F → ms[i]? = some m → l[i]? = some x → ∃ G, (R m x).holds w G ∧ ∀ j, G j → F j
 | [], [], _, _, _, _, _, h, _ => by simp at h
 | m :: ms, x :: xs, F, i, m', x', ⟨G, H, g, h, e⟩, hm, hx => by
  cases i with
  | zero => simp at hm hx; subst hm hx; exact ⟨G, g, fun j hj => (e j).2 (.inl hj)⟩
  | succ i =>
   obtain ⟨K, k, hK⟩ := bigA_at h (by simpa using hm) (by simpa using hx)
   exact ⟨K, k, fun j hj => (e j).2 (.inr (hK j hj))⟩
 | [], _ :: _, _, _, _, _, h, _, _ => h.1.elim
 | _ :: _, [], _, _, _, _, h, _, _ => h.1.elim
section
variable {A : Nat → Prop} {N : Oth} {w0 w w' : World} {L Z : List OA}
theorem St.andZ (h : St A N w0 w L Z) (j k : Nat) {a b : OA} (e : Z[j]? = some a := by rfl) (e' : Z[k]? = some b := by rfl) : St A N w0 w L (a.and b :: Z) := by
 obtain ⟨U, hU, hN, hA, hL, hZ, hW⟩ := h
 refine ⟨U, hU, hN, hA, hL, fun z hz => ?_, hW⟩
 rcases List.mem_cons.1 hz with rfl | hz
 ·obtain ⟨F, g, hF⟩ := hZ _ (List.mem_of_getElem? e)
  obtain ⟨G, g', hG⟩ := hZ _ (List.mem_of_getElem? e')
  exact ⟨fun i => F i ∨ G i, ⟨F, G, g, g', fun _ => Iff.rfl⟩, fun i hi => hi.elim (hF i) (hG i)⟩
 ·exact hZ z hz
theorem St.unandZ (h : St A N w0 w L Z) (k : Nat) {a b : OA} (e : Z[k]? = some (a.and b) := by rfl) : St A N w0 w L (a :: b :: Z) := by
 have h1 := h.part k (a := a.and b) (b := b) (fun F ⟨G, H, g, h, q⟩ => ⟨H, h, fun i hi => (q i).2 (.inr hi)⟩) e
 exact h1.part (k + 1) (a := a.and b) (b := a) (fun F ⟨G, H, g, h, q⟩ => ⟨G, g, fun i hi => (q i).2 (.inl hi)⟩) (by simpa using e)
theorem St.toexZ {α : Type} {f : α → OA} (x : α) (h : St A N w0 w L (f x :: Z)) : St A N w0 w L (OA.ex f :: Z) := by
 obtain ⟨U, hU, hN, hA, hL, hZ, hW⟩ := h
 refine ⟨U, hU, hN, hA, hL, fun z hz => ?_, hW⟩
 rcases List.mem_cons.1 hz with rfl | hz
 ·obtain ⟨F, g, hF⟩ := hZ _ (List.mem_cons_self ..)
  exact ⟨F, ⟨x, g⟩, hF⟩
 ·exact hZ z (List.mem_cons_of_mem _ hz)
end
section
variable {P : Program} {f : Fr} {w : World}
theorem rets4 {r1 r2 r3 r4 : ResultVar} {v1 v2 v3 v4 : Value} (h1 : ul P r1 f w v1) (h2 : ul P r2 f w v2) (h3 : ul P r3 f w v3) (h4 : ul P r4 f w v4) : Rets P #[r1, r2, r3, r4] f w (.tuple #[v1, v2, v3, v4]) := by
 unfold Rets
 unfold ul at h1 h2 h3 h4
 simp only [Array.mapM_eq_mapM_toList, List.mapM_cons, List.mapM_nil]
 simp [h1, h2, h3, h4]
end
end Gw
end Go.Proofs.YtjebgcoknpcadaaGreatDoor
end
