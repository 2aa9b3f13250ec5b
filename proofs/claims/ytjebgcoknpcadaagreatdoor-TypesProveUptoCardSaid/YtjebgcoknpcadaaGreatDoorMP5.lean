/- Texts put together: Chapter 09, the plain law: what the program's rules and the document's answer, told once for both. Chapter 09, the plain law: sequents of a table, choices. Chapter 09, RuleTells: Lean functions with the answers of the Go functions. Printed by pp.py, a program of mine. Chapter 09, the plain law: tables out of rows; RuleTells. Tables out of rows: what the plain laws of chapter 13 take from there. Chapter 13, the plain law: how a term is typed, told once for the program and for the document. Chapter 12, the plain law: nodes, levels and what is right, as the program tells them. Chapter 13, the plain law: the program types as the spec does. Chapter 13, TypesNobody: Lean functions with the answers of the Go functions. Printed by pp.py, a program of mine. Chapter 13, TypesOne: Lean functions with the answers of the Go functions. Printed by pp.py, a program of mine. Chapter 13, the plain laws: TypesNobody, TypesOne. Chapter 09, the document's premises: Lean functions with the answers of the Go functions. Printed by pp.py, a program of mine. Chapter 09, RulePremises: Lean functions with the answers of the Go functions. Printed by pp.py, a program of mine. Chapter 09, the plain law: premises. Chapter 09, weights and values: Lean functions with the answers of the Go functions. Printed by pp.py, a program of mine. Chapter 09, the plain law: a row of a truth table. Chapter 09, the plain law: what premises are, rule by rule. Chapter 09, the plain law: the program's premises are those of PremR. Chapter 09, RuleTruth: Lean functions with the answers of the Go functions. Printed by pp.py, a program of mine. Chapter 09, the plain law: RuleTruth. Kripke models: what rules prove is forced everywhere, what they refute is not somewhere. Kripke models put under one root: what is left open is refuted. Chapter 09, the plain law: weights, and rows of weights that fall. Chapter 09, RuleFalls: Lean functions with the answers of the Go functions. Printed by pp.py, a program of mine. Chapter 09, the plain law: RuleFalls. Chapter 11, the plain law: the order in which sequents fall. Chapter 11, the heads: Lean functions with the answers of the Go functions. Printed by pp.py, a program of mine. Chapter 11, the plain law: what a search keeps. Chapter 11, the plain law: what a search refuses for: its budget, or a table that is full. Chapter 11, the plain law: decisions and choices. Chapter 11, the plain law: choices gone through, decisions. Chapter 11, the plain law: what a search tells. Chapter 13, the plain law: what is typed is valid, and so it is proved where the search comes to an end. -/
import Derived.Test.YtjebgcoknpcadaaGreatDoorMP4
set_option linter.unusedVariables false
set_option linter.unusedSimpArgs false
section
namespace Go.Proofs.YtjebgcoknpcadaaGreatDoor
open Gw
theorem kL {α σ ρ : Type} {b : α → σ → Option (Stp σ ρ)} {p : α → Bool} {r : α → ρ} : ∀ (l : List α) (s : σ), (∀ x ∈ l, b x s = some (if p x then .ret (r x) else .go s)) → forE b l s = some (match l.find? p with | some x => .inr (r x) | none => .inl s)
 | [], s, _ => rfl
 | x :: l, s, h => by
  rw [forE, h x (by simp)]
  cases hp : p x with
  | true => simp [hp, List.find?_cons]
  | false => simpa [hp, List.find?_cons] using kL l s fun y hy => h y (by simp [hy])
theorem forN_find {σ ρ : Type} {b : Int → σ → Option (Stp σ ρ)} {p : Nat → Bool} {r : Nat → ρ} : ∀ (n i : Nat) (s : σ), (∀ j : Nat, i ≤ j → j < i + n → b j s = some (if p j then .ret (r j) else .go s)) → forN b n i s = some (match (List.range' i n).find? p with | some j => .inr (r j) | none => .inl s)
 | 0, i, s, _ => rfl
 | n + 1, i, s, h => by
  rw [forN, h i (Nat.le_refl _) (by omega), List.range'_succ]
  cases hp : p i with
  | true => simp [hp, List.find?_cons]
  | false =>
   have := forN_find n (i + 1) s fun j h1 h2 => h j (by omega) (by omega)
   simpa [hp, List.find?_cons] using this
theorem forE_two {b : Nat → List Int × List Int → Option (Stp (List Int × List Int) Empty)} {p : Nat → Bool} : ∀ (l : List Nat) (m : Nat) (x y : List Int), (∀ (j : Nat) (x y : List Int), j ∈ l → x.length ≤ 2 + 1024 → y.length ≤ 2 + 1024 → b j (x, y) = some (.go (if p j then (x ++ [(j : Int)], y ++ [13]) else (x, y)))) → x.length + l.length ≤ 2 + 1024 → y.length + l.length ≤ 2 + 1024 →
  forE b l (x, y) = some (.inl (x ++ (l.filter p).map (fun (j : Nat) => (j : Int)), y ++ (l.filter p).map fun _ => 13))
 | [], m, x, y, _, _, _ => by simp [forE]
 | j :: l, m, x, y, h, hx, hy => by
  simp only [List.length_cons] at hx hy
  rw [forE, h j x y (by simp) (by omega) (by omega)]
  cases hp : p j with
  | true =>
   have := forE_two (b := b) (p := p) l m (x ++ [(j : Int)]) (y ++ [13]) (fun i x y h1 => h i x y (by simp [h1])) (by simp; omega) (by simp; omega)
   simpa [hp] using this
  | false =>
   have := forE_two (b := b) (p := p) l m x y (fun i x y h1 => h i x y (by simp [h1])) (by omega) (by omega)
   simpa [hp] using this
theorem list_find {b : Bits} {n : Nat} (hn : n ≤ 1024) (h : ∀ j ∈ b.list, j < n) (p : Nat → Bool) : b.list.find? p = (List.range n).find? fun (j : Nat) => b.has j && p j := by
 have h1 : b.list = (List.range n).filter fun (j : Nat) => b.has j := by
  unfold Bits.list
  rw [show (1024 : Nat) = n + (1024 - n) by omega, List.range_add, List.filter_append, List.append_right_eq_self]
  refine List.filter_eq_nil_iff.2 fun x hx hb => ?_
  obtain ⟨k, hk, rfl⟩ := List.mem_map.1 hx
  have := h (n + k) (Bits.mem_list.2 ⟨by have := List.mem_range.1 hk; omega, hb⟩)
  omega
 rw [h1, List.find?_filter]
 refine congrArg (fun q => (List.range n).find? q) (funext fun a => ?_)
 cases b.has a <;> cases p a <;> simp
abbrev nd (M : List Nd) (i : Int) : Nd := (ju M i).1
theorem vr {M : List Nd} {i : Int} (h : inb i M.length = true) : at_ Nd.z M i = nd M i := by
 have h := xv h
 unfold nd ju yR at_
 simp [h]
theorem zI (M : List Nd) (i : Int) : rule_node.f (some M) i = some (nd M i) := by simp [rule_node.f, formula_Table_Node.f]
def onV (M : List Nd) (b : Bits) (i : Int) : Int :=
 if (nd M i).kind = 2 then 1 else if (nd M i).kind = 3 then 3 else if (nd M i).kind = 4 then 10 else if (nd M i).kind = 5 then
  (if (nd M (nd M i).l).kind = 1 then (if b.has (nd M i).l then 4 else 0) else if (nd M (nd M i).l).kind = 2 then 5 else if (nd M (nd M i).l).kind = 3 then 6 else if (nd M (nd M i).l).kind = 4 then 7 else if (nd M (nd M i).l).kind = 5 then 13 else 0)
 else 0
theorem on_some {M : List Nd} {s : Sq} (hb : s.left.okB = true) (i : Int) : rule_on.f (some M) s i = some (onV M s.left i) := by
 unfold rule_on.f onV
 simp only [zI, bits_Has.f, hb, chk, Option.bind_some, decide_eq_true_eq, if_true]
 repeat (first | rfl | split)
def yG (M : List Nd) (s : Sq) (r i : Int) : Bool :=
 if inb i M.length = false then false else if r = 2 then decide (i = s.goal) && s.left.has i else if r = 8 then decide (i = s.goal) && decide ((nd M i).kind = 5) else if r = 9 then decide (i = s.goal) && decide ((nd M i).kind = 3)
 else if r = 11 ∨ r = 12 then decide (i = s.goal) && decide ((nd M i).kind = 4) else decide (r ≠ 0) && s.left.has i && decide (onV M s.left i = r)
theorem xA {M : List Nd} {s : Sq} (hb : s.left.okB = true) (r i : Int) : rule_fits.f (some M) s r i = some (yG M s r i) := by
 unfold rule_fits.f yG inb
 by_cases h0 : i < 0
 ·have : ¬ 0 ≤ i := by omega
  simp [h0, this]
 ·by_cases h1 : (M.length : Int) ≤ i
  ·have h2 : ¬ i < M.length := by omega
   simp [h0, formula_Table_Len.f, h1, h2]
  ·have h2 : i < M.length := by omega
   have h3 : 0 ≤ i := by omega
   simp only [h0, formula_Table_Len.f, h1, h2, h3, zI, on_some hb, bits_Has.f, hb, chk, decide_false, decide_true, Bool.not_false, if_true, Option.map_some, Option.bind_some, Bool.false_or, Bool.and_self, Bool.true_eq_false, if_false, decide_eq_true_eq, Bool.false_eq_true]
   by_cases r2 : r = 2
   ·simp [r2]
   by_cases r8 : r = 8
   ·simp [r8]
   by_cases r9 : r = 9
   ·simp [r9]
   by_cases r11 : r = 11
   ·simp [r11]
   by_cases r12 : r = 12
   ·simp [r12]
   simp only [r2, r8, r9, r11, r12, if_false, decide_false, Option.bind_some, or_self, Bool.false_eq_true]
   by_cases hr : r = 0
   ·simp [hr]
   ·cases s.left.has i <;> simp [hr]
structure Wf (M : List Nd) : Prop where
 len : M.length ≤ 1024
 nodup : M.Nodup
 kind : ∀ i : Int, inb i M.length = true → (nd M i).kind = 1 ∨ (nd M i).kind = 2 ∨ (nd M i).kind = 3 ∨ (nd M i).kind = 4 ∨ (nd M i).kind = 5
 kids : ∀ i : Int, inb i M.length = true → (nd M i).kind = 3 ∨ (nd M i).kind = 4 ∨ (nd M i).kind = 5 → (0 ≤ (nd M i).l ∧ (nd M i).l < i) ∧ 0 ≤ (nd M i).r ∧ (nd M i).r < i
theorem Wf.left {M : List Nd} (h : Wf M) {i : Int} (hi : inb i M.length = true) (hk : (nd M i).kind = 3 ∨ (nd M i).kind = 4 ∨ (nd M i).kind = 5) : inb (nd M i).l M.length = true := by
 have h1 := h.kids i hi hk
 have h2 := xv hi
 simp only [inb, Bool.and_eq_true, decide_eq_true_eq]; omega
theorem Wf.right {M : List Nd} (h : Wf M) {i : Int} (hi : inb i M.length = true) (hk : (nd M i).kind = 3 ∨ (nd M i).kind = 4 ∨ (nd M i).kind = 5) : inb (nd M i).r M.length = true := by
 have h1 := h.kids i hi hk
 have h2 := xv hi
 simp only [inb, Bool.and_eq_true, decide_eq_true_eq]; omega
theorem docHas (M : List Nd) (i : Int) : ref03_T_Has.f (some M) i = some (inb i M.length) := by simp [ref03_T_Has.f, chk, inb]
theorem docKind {M : List Nd} {i : Int} (hi : inb i M.length = true) : ref09_kind.f (some M) i = some (nd M i).kind := by
 simp only [ref09_kind.f, chk, Option.isSome_some, Option.getD_some, hi, if_true, vr hi]
theorem vd {M : List Nd} {s : Sq} (hw : Wf M) (hb : s.left.okB = true) (r i : Int) : ref09_Fits.f (some M) s r i = some (yG M s r i) := by
 unfold ref09_Fits.f
 rw [docHas]
 cases hi : inb i M.length with
 | false => simp [yG, hi]
 | true =>
  simp only [Option.bind_some, Bool.not_true, Bool.false_eq_true, if_false, Option.isSome_some, Option.getD_some, chk, if_true, vr hi, ref05_Has.f, hb, hi, yG, Bool.true_eq_false]
  have hk := hw.kind i hi
  rcases hk with k | k | k | k | k
  ·have ho : onV M s.left i = 0 := by simp [onV, k]
   by_cases r1 : r = 1
   ·subst r1; cases s.left.has i <;> simp [k, ho]
   by_cases r2 : r = 2
   ·subst r2; cases s.left.has i <;> simp [k, ho]
   by_cases r3 : r = 3
   ·subst r3; cases s.left.has i <;> simp [k, ho]
   by_cases r4 : r = 4
   ·subst r4; cases s.left.has i <;> simp [k, ho]
   by_cases r5 : r = 5
   ·subst r5; cases s.left.has i <;> simp [k, ho]
   by_cases r6 : r = 6
   ·subst r6; cases s.left.has i <;> simp [k, ho]
   by_cases r7 : r = 7
   ·subst r7; cases s.left.has i <;> simp [k, ho]
   by_cases r8 : r = 8
   ·subst r8; cases s.left.has i <;> simp [k, ho]
   by_cases r9 : r = 9
   ·subst r9; cases s.left.has i <;> simp [k, ho]
   by_cases r10 : r = 10
   ·subst r10; cases s.left.has i <;> simp [k, ho]
   by_cases r11 : r = 11
   ·subst r11; cases s.left.has i <;> simp [k, ho]
   by_cases r12 : r = 12
   ·subst r12; cases s.left.has i <;> simp [k, ho]
   by_cases r13 : r = 13
   ·subst r13; cases s.left.has i <;> simp [k, ho]
   simp only [k, ho]
   simp [r1, r2, r3, r4, r5, r6, r7, r8, r9, r10, r11, r12, r13]
   try (intro h; omega)
  ·have ho : onV M s.left i = 1 := by simp [onV, k]
   by_cases r1 : r = 1
   ·subst r1; cases s.left.has i <;> simp [k, ho]
   by_cases r2 : r = 2
   ·subst r2; cases s.left.has i <;> simp [k, ho]
   by_cases r3 : r = 3
   ·subst r3; cases s.left.has i <;> simp [k, ho]
   by_cases r4 : r = 4
   ·subst r4; cases s.left.has i <;> simp [k, ho]
   by_cases r5 : r = 5
   ·subst r5; cases s.left.has i <;> simp [k, ho]
   by_cases r6 : r = 6
   ·subst r6; cases s.left.has i <;> simp [k, ho]
   by_cases r7 : r = 7
   ·subst r7; cases s.left.has i <;> simp [k, ho]
   by_cases r8 : r = 8
   ·subst r8; cases s.left.has i <;> simp [k, ho]
   by_cases r9 : r = 9
   ·subst r9; cases s.left.has i <;> simp [k, ho]
   by_cases r10 : r = 10
   ·subst r10; cases s.left.has i <;> simp [k, ho]
   by_cases r11 : r = 11
   ·subst r11; cases s.left.has i <;> simp [k, ho]
   by_cases r12 : r = 12
   ·subst r12; cases s.left.has i <;> simp [k, ho]
   by_cases r13 : r = 13
   ·subst r13; cases s.left.has i <;> simp [k, ho]
   have ho2 : ¬ (1 : Int) = r := by omega
   cases s.left.has i <;> simp [k, ho, ho2, r1, r2, r3, r4, r5, r6, r7, r8, r9, r10, r11, r12, r13]
   try omega
  ·have ho : onV M s.left i = 3 := by simp [onV, k]
   by_cases r1 : r = 1
   ·subst r1; cases s.left.has i <;> simp [k, ho]
   by_cases r2 : r = 2
   ·subst r2; cases s.left.has i <;> simp [k, ho]
   by_cases r3 : r = 3
   ·subst r3; cases s.left.has i <;> simp [k, ho]
   by_cases r4 : r = 4
   ·subst r4; cases s.left.has i <;> simp [k, ho]
   by_cases r5 : r = 5
   ·subst r5; cases s.left.has i <;> simp [k, ho]
   by_cases r6 : r = 6
   ·subst r6; cases s.left.has i <;> simp [k, ho]
   by_cases r7 : r = 7
   ·subst r7; cases s.left.has i <;> simp [k, ho]
   by_cases r8 : r = 8
   ·subst r8; cases s.left.has i <;> simp [k, ho]
   by_cases r9 : r = 9
   ·subst r9; cases s.left.has i <;> simp [k, ho]
   by_cases r10 : r = 10
   ·subst r10; cases s.left.has i <;> simp [k, ho]
   by_cases r11 : r = 11
   ·subst r11; cases s.left.has i <;> simp [k, ho]
   by_cases r12 : r = 12
   ·subst r12; cases s.left.has i <;> simp [k, ho]
   by_cases r13 : r = 13
   ·subst r13; cases s.left.has i <;> simp [k, ho]
   have ho2 : ¬ (3 : Int) = r := by omega
   cases s.left.has i <;> simp [k, ho, ho2, r1, r2, r3, r4, r5, r6, r7, r8, r9, r10, r11, r12, r13]
   try omega
  ·have ho : onV M s.left i = 10 := by simp [onV, k]
   by_cases r1 : r = 1
   ·subst r1; cases s.left.has i <;> simp [k, ho]
   by_cases r2 : r = 2
   ·subst r2; cases s.left.has i <;> simp [k, ho]
   by_cases r3 : r = 3
   ·subst r3; cases s.left.has i <;> simp [k, ho]
   by_cases r4 : r = 4
   ·subst r4; cases s.left.has i <;> simp [k, ho]
   by_cases r5 : r = 5
   ·subst r5; cases s.left.has i <;> simp [k, ho]
   by_cases r6 : r = 6
   ·subst r6; cases s.left.has i <;> simp [k, ho]
   by_cases r7 : r = 7
   ·subst r7; cases s.left.has i <;> simp [k, ho]
   by_cases r8 : r = 8
   ·subst r8; cases s.left.has i <;> simp [k, ho]
   by_cases r9 : r = 9
   ·subst r9; cases s.left.has i <;> simp [k, ho]
   by_cases r10 : r = 10
   ·subst r10; cases s.left.has i <;> simp [k, ho]
   by_cases r11 : r = 11
   ·subst r11; cases s.left.has i <;> simp [k, ho]
   by_cases r12 : r = 12
   ·subst r12; cases s.left.has i <;> simp [k, ho]
   by_cases r13 : r = 13
   ·subst r13; cases s.left.has i <;> simp [k, ho]
   have ho2 : ¬ (10 : Int) = r := by omega
   cases s.left.has i <;> simp [k, ho, ho2, r1, r2, r3, r4, r5, r6, r7, r8, r9, r10, r11, r12, r13]
   try omega
  ·have hl := hw.left hi (.inr (.inr k))
   have hk2 := hw.kind _ hl
   rw [docKind hl]
   rcases hk2 with c | c | c | c | c
   ·cases hh : s.left.has (nd M i).l with
    | true =>
     have ho : onV M s.left i = 4 := by simp [onV, k, c, hh]
     by_cases r1 : r = 1
     ·subst r1; cases s.left.has i <;> simp [k, ho, c, hh]
     by_cases r2 : r = 2
     ·subst r2; cases s.left.has i <;> simp [k, ho, c, hh]
     by_cases r3 : r = 3
     ·subst r3; cases s.left.has i <;> simp [k, ho, c, hh]
     by_cases r4 : r = 4
     ·subst r4; cases s.left.has i <;> simp [k, ho, c, hh]
     by_cases r5 : r = 5
     ·subst r5; cases s.left.has i <;> simp [k, ho, c, hh]
     by_cases r6 : r = 6
     ·subst r6; cases s.left.has i <;> simp [k, ho, c, hh]
     by_cases r7 : r = 7
     ·subst r7; cases s.left.has i <;> simp [k, ho, c, hh]
     by_cases r8 : r = 8
     ·subst r8; cases s.left.has i <;> simp [k, ho, c, hh]
     by_cases r9 : r = 9
     ·subst r9; cases s.left.has i <;> simp [k, ho, c, hh]
     by_cases r10 : r = 10
     ·subst r10; cases s.left.has i <;> simp [k, ho, c, hh]
     by_cases r11 : r = 11
     ·subst r11; cases s.left.has i <;> simp [k, ho, c, hh]
     by_cases r12 : r = 12
     ·subst r12; cases s.left.has i <;> simp [k, ho, c, hh]
     by_cases r13 : r = 13
     ·subst r13; cases s.left.has i <;> simp [k, ho, c, hh]
     have ho2 : ¬ (4 : Int) = r := by omega
     cases s.left.has i <;> simp [k, ho, ho2, c, hh, r1, r2, r3, r4, r5, r6, r7, r8, r9, r10, r11, r12, r13]
     try omega
    | false =>
     have ho : onV M s.left i = 0 := by simp [onV, k, c, hh]
     by_cases r1 : r = 1
     ·subst r1; cases s.left.has i <;> simp [k, ho, c, hh]
     by_cases r2 : r = 2
     ·subst r2; cases s.left.has i <;> simp [k, ho, c, hh]
     by_cases r3 : r = 3
     ·subst r3; cases s.left.has i <;> simp [k, ho, c, hh]
     by_cases r4 : r = 4
     ·subst r4; cases s.left.has i <;> simp [k, ho, c, hh]
     by_cases r5 : r = 5
     ·subst r5; cases s.left.has i <;> simp [k, ho, c, hh]
     by_cases r6 : r = 6
     ·subst r6; cases s.left.has i <;> simp [k, ho, c, hh]
     by_cases r7 : r = 7
     ·subst r7; cases s.left.has i <;> simp [k, ho, c, hh]
     by_cases r8 : r = 8
     ·subst r8; cases s.left.has i <;> simp [k, ho, c, hh]
     by_cases r9 : r = 9
     ·subst r9; cases s.left.has i <;> simp [k, ho, c, hh]
     by_cases r10 : r = 10
     ·subst r10; cases s.left.has i <;> simp [k, ho, c, hh]
     by_cases r11 : r = 11
     ·subst r11; cases s.left.has i <;> simp [k, ho, c, hh]
     by_cases r12 : r = 12
     ·subst r12; cases s.left.has i <;> simp [k, ho, c, hh]
     by_cases r13 : r = 13
     ·subst r13; cases s.left.has i <;> simp [k, ho, c, hh]
     cases s.left.has i <;> simp [k, ho, c, hh, r1, r2, r3, r4, r5, r6, r7, r8, r9, r10, r11, r12, r13]
     try omega
   ·have ho : onV M s.left i = 5 := by simp [onV, k, c]
    by_cases r1 : r = 1
    ·subst r1; cases s.left.has i <;> simp [k, ho, c]
    by_cases r2 : r = 2
    ·subst r2; cases s.left.has i <;> simp [k, ho, c]
    by_cases r3 : r = 3
    ·subst r3; cases s.left.has i <;> simp [k, ho, c]
    by_cases r4 : r = 4
    ·subst r4; cases s.left.has i <;> simp [k, ho, c]
    by_cases r5 : r = 5
    ·subst r5; cases s.left.has i <;> simp [k, ho, c]
    by_cases r6 : r = 6
    ·subst r6; cases s.left.has i <;> simp [k, ho, c]
    by_cases r7 : r = 7
    ·subst r7; cases s.left.has i <;> simp [k, ho, c]
    by_cases r8 : r = 8
    ·subst r8; cases s.left.has i <;> simp [k, ho, c]
    by_cases r9 : r = 9
    ·subst r9; cases s.left.has i <;> simp [k, ho, c]
    by_cases r10 : r = 10
    ·subst r10; cases s.left.has i <;> simp [k, ho, c]
    by_cases r11 : r = 11
    ·subst r11; cases s.left.has i <;> simp [k, ho, c]
    by_cases r12 : r = 12
    ·subst r12; cases s.left.has i <;> simp [k, ho, c]
    by_cases r13 : r = 13
    ·subst r13; cases s.left.has i <;> simp [k, ho, c]
    have ho2 : ¬ (5 : Int) = r := by omega
    cases s.left.has i <;> simp [k, ho, ho2, c, r1, r2, r3, r4, r5, r6, r7, r8, r9, r10, r11, r12, r13]
    try omega
   ·have ho : onV M s.left i = 6 := by simp [onV, k, c]
    by_cases r1 : r = 1
    ·subst r1; cases s.left.has i <;> simp [k, ho, c]
    by_cases r2 : r = 2
    ·subst r2; cases s.left.has i <;> simp [k, ho, c]
    by_cases r3 : r = 3
    ·subst r3; cases s.left.has i <;> simp [k, ho, c]
    by_cases r4 : r = 4
    ·subst r4; cases s.left.has i <;> simp [k, ho, c]
    by_cases r5 : r = 5
    ·subst r5; cases s.left.has i <;> simp [k, ho, c]
    by_cases r6 : r = 6
    ·subst r6; cases s.left.has i <;> simp [k, ho, c]
    by_cases r7 : r = 7
    ·subst r7; cases s.left.has i <;> simp [k, ho, c]
    by_cases r8 : r = 8
    ·subst r8; cases s.left.has i <;> simp [k, ho, c]
    by_cases r9 : r = 9
    ·subst r9; cases s.left.has i <;> simp [k, ho, c]
    by_cases r10 : r = 10
    ·subst r10; cases s.left.has i <;> simp [k, ho, c]
    by_cases r11 : r = 11
    ·subst r11; cases s.left.has i <;> simp [k, ho, c]
    by_cases r12 : r = 12
    ·subst r12; cases s.left.has i <;> simp [k, ho, c]
    by_cases r13 : r = 13
    ·subst r13; cases s.left.has i <;> simp [k, ho, c]
    have ho2 : ¬ (6 : Int) = r := by omega
    cases s.left.has i <;> simp [k, ho, ho2, c, r1, r2, r3, r4, r5, r6, r7, r8, r9, r10, r11, r12, r13]
    try omega
   ·have ho : onV M s.left i = 7 := by simp [onV, k, c]
    by_cases r1 : r = 1
    ·subst r1; cases s.left.has i <;> simp [k, ho, c]
    by_cases r2 : r = 2
    ·subst r2; cases s.left.has i <;> simp [k, ho, c]
    by_cases r3 : r = 3
    ·subst r3; cases s.left.has i <;> simp [k, ho, c]
    by_cases r4 : r = 4
    ·subst r4; cases s.left.has i <;> simp [k, ho, c]
    by_cases r5 : r = 5
    ·subst r5; cases s.left.has i <;> simp [k, ho, c]
    by_cases r6 : r = 6
    ·subst r6; cases s.left.has i <;> simp [k, ho, c]
    by_cases r7 : r = 7
    ·subst r7; cases s.left.has i <;> simp [k, ho, c]
    by_cases r8 : r = 8
    ·subst r8; cases s.left.has i <;> simp [k, ho, c]
    by_cases r9 : r = 9
    ·subst r9; cases s.left.has i <;> simp [k, ho, c]
    by_cases r10 : r = 10
    ·subst r10; cases s.left.has i <;> simp [k, ho, c]
    by_cases r11 : r = 11
    ·subst r11; cases s.left.has i <;> simp [k, ho, c]
    by_cases r12 : r = 12
    ·subst r12; cases s.left.has i <;> simp [k, ho, c]
    by_cases r13 : r = 13
    ·subst r13; cases s.left.has i <;> simp [k, ho, c]
    have ho2 : ¬ (7 : Int) = r := by omega
    cases s.left.has i <;> simp [k, ho, ho2, c, r1, r2, r3, r4, r5, r6, r7, r8, r9, r10, r11, r12, r13]
    try omega
   ·have ho : onV M s.left i = 13 := by simp [onV, k, c]
    by_cases r1 : r = 1
    ·subst r1; cases s.left.has i <;> simp [k, ho, c]
    by_cases r2 : r = 2
    ·subst r2; cases s.left.has i <;> simp [k, ho, c]
    by_cases r3 : r = 3
    ·subst r3; cases s.left.has i <;> simp [k, ho, c]
    by_cases r4 : r = 4
    ·subst r4; cases s.left.has i <;> simp [k, ho, c]
    by_cases r5 : r = 5
    ·subst r5; cases s.left.has i <;> simp [k, ho, c]
    by_cases r6 : r = 6
    ·subst r6; cases s.left.has i <;> simp [k, ho, c]
    by_cases r7 : r = 7
    ·subst r7; cases s.left.has i <;> simp [k, ho, c]
    by_cases r8 : r = 8
    ·subst r8; cases s.left.has i <;> simp [k, ho, c]
    by_cases r9 : r = 9
    ·subst r9; cases s.left.has i <;> simp [k, ho, c]
    by_cases r10 : r = 10
    ·subst r10; cases s.left.has i <;> simp [k, ho, c]
    by_cases r11 : r = 11
    ·subst r11; cases s.left.has i <;> simp [k, ho, c]
    by_cases r12 : r = 12
    ·subst r12; cases s.left.has i <;> simp [k, ho, c]
    by_cases r13 : r = 13
    ·subst r13; cases s.left.has i <;> simp [k, ho, c]
    have ho2 : ¬ (13 : Int) = r := by omega
    cases s.left.has i <;> simp [k, ho, ho2, c, r1, r2, r3, r4, r5, r6, r7, r8, r9, r10, r11, r12, r13]
    try omega
theorem find_congr {α : Type} {p q : α → Bool} : ∀ {l : List α}, (∀ x ∈ l, p x = q x) → l.find? p = l.find? q
 | [], _ => rfl
 | x :: l, h => by
  rw [List.find?_cons, List.find?_cons, h x (by simp), find_congr fun y hy => h y (by simp [hy])]
theorem any_find {α : Type} {p : α → Bool} : ∀ (l : List α), l.any p = (l.find? p).isSome
 | [] => rfl
 | x :: l => by
  rw [List.any_cons, List.find?_cons, any_find l]
  cases p x <;> rfl
def yX (M : List Nd) (s : Sq) (c : Int → Bool) : Option Nat := (List.range M.length).find? fun (j : Nat) => s.left.has j && c (onV M s.left j)
theorem uN {M : List Nd} {s : Sq} {c : Int → Bool} {j : Nat} (h : yX M s c = some j) : j < M.length ∧ s.left.has j = true ∧ c (onV M s.left j) = true := by
 have h1 := List.find?_some h
 have h2 := List.mem_of_find?_eq_some h
 simp only [Bool.and_eq_true] at h1
 exact ⟨List.mem_range.1 h2, h1.1, h1.2⟩
def yJ (M : List Nd) (s : Sq) : Int × Int :=
 match yX M s (fun r => decide (r = 1)) with
 | some j => (1, j)
 | none => if s.left.has s.goal then (2, s.goal) else
  match yX M s (fun r => decide (3 ≤ r) && decide (r ≤ 7)) with
  | some j => (onV M s.left j, j)
  | none => if (nd M s.goal).kind = 5 then (8, s.goal) else if (nd M s.goal).kind = 3 then (9, s.goal) else
   match yX M s (fun r => decide (r = 10)) with
   | some j => (10, j)
   | none => (14, 0)
structure Rt (M : List Nd) (s : Sq) : Prop where
 ok : s.left.okB = true
 left : ∀ j ∈ s.left.list, j < M.length
 goal : inb s.goal M.length = true
theorem least1 {M : List Nd} {s : Sq} (hM : M.length ≤ 1024) (h : Rt M s) : rule_least__rule_apply_1_1.f (some M) s = some (match yX M s (fun r => decide (r = 1)) with | some j => ((⟨onV M s.left j, j⟩ : Fnd), true) | none => (Fnd.z, false)) := by
 unfold rule_least__rule_apply_1_1.f
 rw [h.ok, chk, if_pos rfl, kL (p := fun (j : Nat) => decide (onV M s.left j = 1)) (r := fun (j : Nat) => (true, (⟨onV M s.left j, j⟩ : Fnd))), list_find hM h.left]
 ·unfold yX
  cases (List.range M.length).find? fun (j : Nat) => s.left.has j && decide (onV M s.left j = 1) <;> rfl
 ·intro x _
  simp [rule_least__rule_apply_1_1.b0, on_some h.ok, rule_apply_1_1.f]
  split <;> rfl
theorem least3 {M : List Nd} {s : Sq} (hM : M.length ≤ 1024) (h : Rt M s) : rule_least__rule_apply_3_1.f (some M) s = some (match yX M s (fun r => decide (3 ≤ r) && decide (r ≤ 7)) with | some j => ((⟨onV M s.left j, j⟩ : Fnd), true) | none => (Fnd.z, false)) := by
 unfold rule_least__rule_apply_3_1.f
 rw [h.ok, chk, if_pos rfl, kL (p := fun (j : Nat) => decide (3 ≤ onV M s.left j) && decide (onV M s.left j ≤ 7)) (r := fun (j : Nat) => (true, (⟨onV M s.left j, j⟩ : Fnd))), list_find hM h.left]
 ·unfold yX
  cases (List.range M.length).find? fun (j : Nat) => s.left.has j && (decide (3 ≤ onV M s.left j) && decide (onV M s.left j ≤ 7)) <;> rfl
 ·intro x _
  simp [rule_least__rule_apply_3_1.b0, on_some h.ok, rule_apply_3_1.f]
  split <;> rfl
theorem least6 {M : List Nd} {s : Sq} (hM : M.length ≤ 1024) (h : Rt M s) : rule_least__rule_apply_6_1.f (some M) s = some (match yX M s (fun r => decide (r = 10)) with | some j => ((⟨onV M s.left j, j⟩ : Fnd), true) | none => (Fnd.z, false)) := by
 unfold rule_least__rule_apply_6_1.f
 rw [h.ok, chk, if_pos rfl, kL (p := fun (j : Nat) => decide (onV M s.left j = 10)) (r := fun (j : Nat) => (true, (⟨onV M s.left j, j⟩ : Fnd))), list_find hM h.left]
 ·unfold yX
  cases (List.range M.length).find? fun (j : Nat) => s.left.has j && decide (onV M s.left j = 10) <;> rfl
 ·intro x _
  simp [rule_least__rule_apply_6_1.b0, on_some h.ok, rule_apply_6_1.f]
  split <;> rfl
theorem apply_some {M : List Nd} {s : Sq} (hM : M.length ≤ 1024) (h : Rt M s) : rule_apply.f (some M) s = some ⟨(yJ M s).1, (yJ M s).2⟩ := by
 unfold rule_apply.f rule_apply_1.f rule_apply_2.f rule_apply_3.f rule_apply_4.f rule_apply_5.f rule_apply_6.f yJ
 simp only [least1 hM h, least3 hM h, least6 hM h, zI, bits_Has.f, h.ok, chk, if_true, Option.bind_some]
 cases h1 : yX M s (fun r => decide (r = 1)) with
 | some j =>
  have := (uN h1).2.2
  simp only [decide_eq_true_eq] at this
  simp [this]
 | none =>
  simp only [Bool.false_eq_true, if_false]
  by_cases hg : s.left.has s.goal = true
  ·simp [hg]
  simp only [hg, if_false]
  cases h3 : yX M s (fun r => decide (3 ≤ r) && decide (r ≤ 7)) with
  | some j => simp
  | none =>
   simp only [Bool.false_eq_true, if_false]
   by_cases h5 : (nd M s.goal).kind = 5
   ·simp [h5]
   by_cases h6 : (nd M s.goal).kind = 3
   ·simp [h6]
   simp only [h5, h6, decide_false, Bool.false_eq_true, if_false]
   cases h10 : yX M s (fun r => decide (r = 10)) with
   | some j =>
    have := (uN h10).2.2
    simp only [decide_eq_true_eq] at this
    simp [this]
   | none => simp
theorem fits_on {M : List Nd} {s : Sq} {r : Int} (hr : r ≠ 0 ∧ r ≠ 2 ∧ r ≠ 8 ∧ r ≠ 9 ∧ r ≠ 11 ∧ r ≠ 12) {j : Nat} (hj : j < M.length) : yG M s r j = (s.left.has j && decide (onV M s.left j = r)) := by
 obtain ⟨h0, h2, h8, h9, h11, h12⟩ := hr
 have : inb (j : Int) M.length = true := by simp [inb]; omega
 simp [yG, this, h0, h2, h8, h9, h11, h12]
end Go.Proofs.YtjebgcoknpcadaaGreatDoor
end
section
namespace Go.Proofs.YtjebgcoknpcadaaGreatDoor
open Gw
theorem zaw (j n : Nat) : inb (j : Int) n = decide (j < n) := by
 unfold inb
 rw [decide_eq_true (show 0 ≤ (j : Int) by omega), Bool.true_and, decide_eq_decide]
 omega
theorem list_eq {b : Bits} {n : Nat} (hn : n ≤ 1024) (h : ∀ j ∈ b.list, j < n) : b.list = (List.range n).filter fun (j : Nat) => b.has j := by
 unfold Bits.list
 rw [show (1024 : Nat) = n + (1024 - n) by omega, List.range_add, List.filter_append, List.append_right_eq_self]
 refine List.filter_eq_nil_iff.2 fun x hx hb => ?_
 obtain ⟨k, hk, rfl⟩ := List.mem_map.1 hx
 have := h (n + k) (Bits.mem_list.2 ⟨by have := List.mem_range.1 hk; omega, hb⟩)
 omega
def xJ (M : List Nd) (s : Sq) : Bool := (s.left.list.all fun j => decide (j < M.length)) && inb s.goal M.length
theorem vq {M : List Nd} {s : Sq} (hb : s.left.okB = true) (h : xJ M s = true) : Rt M s := by
 simp only [xJ, Bool.and_eq_true, List.all_eq_true, decide_eq_true_eq] at h
 exact ⟨hb, h.1, h.2⟩
theorem xu {M : List Nd} {s : Sq} (hb : s.left.okB = true) : rule_look.f (some M) s = some (if xJ M s then 0 else 31) := by
 unfold rule_look.f
 simp only [formula_Table_Not_neg.f, Option.bind_some, hb, chk, if_true, show (decide ((31 : Int) = 1)) = false from rfl, Bool.false_eq_true, if_false]
 rw [kL (p := fun (j : Nat) => decide ((M.length : Int) ≤ (j : Int))) (r := fun _ => (31 : Int))]
 ·have ha : (s.left.list.all fun j => decide (j < M.length)) = !(s.left.list.find? fun (j : Nat) => decide ((M.length : Int) ≤ (j : Int))).isSome := by
   rw [← any_find, List.all_eq_not_any_not]
   congr 2
   funext j
   by_cases hj : j < M.length
   ·have : ¬ (M.length : Int) ≤ j := by omega
    simp [hj, this]
   ·have : (M.length : Int) ≤ j := by omega
    simp [hj, this]
  unfold xJ
  rw [ha]
  cases s.left.list.find? fun (j : Nat) => decide ((M.length : Int) ≤ (j : Int)) with
  | some j => simp [fin]
  | none =>
   simp only [Option.bind_some, fin, Option.isSome_none, Bool.not_false, Bool.true_and, formula_Table_Len.f, Option.map_some]
   by_cases h0 : s.goal < 0
   ·have h1 : ¬ 0 ≤ s.goal := by omega
    simp [h0, inb, h1]
   ·have h1 : 0 ≤ s.goal := by omega
    by_cases h2 : (M.length : Int) ≤ s.goal
    ·have h3 : ¬ s.goal < M.length := by omega
     simp [h0, inb, h1, h2, h3]
    ·have h3 : s.goal < M.length := by omega
     simp [h0, inb, h1, h2, h3]
 ·intro x _
  simp only [rule_look.b0, formula_Table_Len.f, Option.map_some, Option.bind_some]
  split <;> rfl
def jL (M : List Nd) (s : Sq) : List Int × List Int :=
 if (yJ M s).1 = 14 then
  ((if (nd M s.goal).kind = 4 then [11, 12] else []) ++ ((List.range M.length).filter fun (j : Nat) => s.left.has j && decide (onV M s.left j = 13)).map (fun _ => 13),
   (if (nd M s.goal).kind = 4 then [s.goal, s.goal] else []) ++ ((List.range M.length).filter fun (j : Nat) => s.left.has j && decide (onV M s.left j = 13)).map fun (j : Nat) => (j : Int))
 else ([], [])
theorem choices_some {M : List Nd} {s : Sq} (hM : M.length ≤ 1024) (hl : xJ M s = true) (hb : s.left.okB = true) : rule_Choices.f (some M) s = some ((jL M s).1, (jL M s).2, 0) := by
 have h := vq hb hl
 unfold rule_Choices.f jL
 simp only [xu hb, hl, if_true, Option.bind_some, apply_some hM h, zI, decide_eq_true_eq, ne_eq, not_true_eq_false, decide_false, Bool.false_eq_true, if_false]
 by_cases h14 : (yJ M s).1 = 14
 ·simp only [h14, not_true_eq_false, if_false, if_true]
  have hll : s.left.list.length ≤ 1024 := by
   unfold Bits.list
   exact Nat.le_trans (List.length_filter_le _ _) (by simp)
  have key : ∀ x y : List Int, x.length ≤ 2 → y.length ≤ 2 → forE (fun (x : Nat) (s_1 : List Int × List Int) => rule_Choices.b0 (some M) s (x : Int) s_1.1 s_1.2) s.left.list (x, y) =
    some (.inl (x ++ (s.left.list.filter fun (j : Nat) => decide (onV M s.left j = 13)).map (fun (j : Nat) => (j : Int)), y ++ (s.left.list.filter fun (j : Nat) => decide (onV M s.left j = 13)).map fun _ => 13)) := by
   intro x y hx hy
   refine forE_two _ 0 x y (fun j x y hj h1 h2 => ?_) (by omega) (by omega)
   unfold rule_Choices.b0
   simp only [on_some hb, Option.bind_some, chk, List.length_cons, List.length_nil, decide_eq_true_eq]
   by_cases h13 : onV M s.left j = 13
   ·have e1 : (x.length + (0 + 1)) * 8 ≤ 140737488355328 := by omega
    have e2 : (y.length + (0 + 1)) * 8 ≤ 140737488355328 := by omega
    simp only [h13, e1, e2, decide_true, if_true]
   ·simp only [h13, decide_false, if_false, Bool.false_eq_true]
  have hf : (s.left.list.filter fun (j : Nat) => decide (onV M s.left j = 13)) = (List.range M.length).filter fun (j : Nat) => s.left.has j && decide (onV M s.left j = 13) := by
   rw [list_eq hM h.left, List.filter_filter]
   exact congrArg (fun q => (List.range M.length).filter q) (funext fun j => Bool.and_comm _ _)
  by_cases h4 : (nd M s.goal).kind = 4
  ·simp only [h4, if_true, chk, List.length_nil, List.length_cons, Option.bind_some, hb, List.nil_append]
   simp only [show decide ((0 + (0 + 1 + 1)) * 8 ≤ 140737488355328) = true from rfl, if_true]
   simp only [Option.bind_some]
   rw [key _ _ (by simp) (by simp), hf]
   simp [fin]
  ·simp only [h4, if_false, Option.bind_some, hb, chk, if_true]
   rw [key _ _ (by simp) (by simp), hf]
   simp [fin]
 ·simp [h14]
end Go.Proofs.YtjebgcoknpcadaaGreatDoor
end
section
namespace Go.Proofs.YtjebgcoknpcadaaGreatDoor
open Gw
end Go.Proofs.YtjebgcoknpcadaaGreatDoor
end
section
namespace Go.Proofs.YtjebgcoknpcadaaGreatDoor
open Gw
theorem wrap_small {n : Int} (h : 0 ≤ n ∧ n < 9223372036854775808) : IntKind.i64.wrap n = n := by
 exact IntWalk.i64_in _ ⟨by omega, by omega⟩
theorem idx_find (n : Nd) : ∀ (N : List Nd) (s : Nat), (List.range' s N.length).find? (fun k => decide (N.getD (k - s) Nd.z = n)) = (N.idxOf? n).map (· + s)
 | [], s => rfl
 | a :: N, s => by
  rw [List.length_cons, List.range'_succ, List.find?_cons, List.idxOf?_cons]
  by_cases h : a = n
  ·simp [h]
  ·have h1 : (a == n) = false := by simpa using h
   have h2 : (List.range' (s + 1) N.length).find? (fun k => decide ((a :: N).getD (k - s) Nd.z = n)) = (List.range' (s + 1) N.length).find? (fun k => decide (N.getD (k - (s + 1)) Nd.z = n)) := find_congr fun k hk => by
    have hk := (List.mem_range'_1.1 hk).1
    rw [show k - s = (k - (s + 1)) + 1 by omega]; simp
   simp only [Nat.sub_self, List.getD_cons_zero, h, decide_false, h1, h2, idx_find n N (s + 1)]
   cases N.idxOf? n with
   | none => rfl
   | some k => simp; omega
theorem docFind (N : List Nd) (n : Nd) : ref03_T_Find.f (some N) n = some (match N.idxOf? n with | some k => ((k : Int), true) | none => (0, false)) := by
 unfold ref03_T_Find.f
 have h1 := forN_find (b := fun i s => ref03_T_Find.b0 (some N) n i) (p := fun k => decide (N.getD k Nd.z = n)) (r := fun k => ((k : Int), true)) N.length 0 () (by
  intro k _ hk
  unfold ref03_T_Find.b0 at_
  rw [Int.toNat_natCast, Option.getD_some]
  split <;> rfl)
 have e0 : (((N.length : Nat) : Int) - 0).toNat = N.length := by omega
 simp only [Option.isSome_some, Option.getD_some, chk, if_true, e0]
 rw [show (0 : Int) = ((0 : Nat) : Int) from rfl, h1]
 have h2 := idx_find n N 0
 simp only [Nat.sub_zero, Nat.add_zero] at h2
 rw [h2]
 cases N.idxOf? n <;> rfl
theorem bind_eq {α β : Type} {x : Option α} {y : α} {f : α → Option β} {r : Option β} (hx : x = some y) (h : f y = r) : x.bind f = r := by rw [hx]; exact h
theorem docPut {N : List Nd} {n : Nd} (hN : N.length ≤ 1024) (hn : n.name.size < 9223372036854775808) : ref03_T_Put.f (some N) n = some (some (putS N n).1, (putS N n).2.1, (putS N n).2.2) := by
 have hrow : ∀ i : Int, ref03_T_Has.f (some N) i = some (yR N i) := fun i => by simp [ref03_T_Has.f, chk, yR]
 have hend : ((ref03_T_Find.f (some N) n).bind fun r25 => if r25.2 then some (some N, r25.1, 0) else chk (some N).isSome (if decide (1024 ≤ ((((some N).getD []).length : Nat) : Int)) then some ((some ((some N).getD [])), 0, 30) else chk (decide ((((some N).getD []).length + 1) * 40 ≤ 140737488355328)) (some ((some (((some N).getD []) ++ [n])), IntKind.i64.wrap (((((some N).getD []) ++ [n]).length : Int) - 1), 0)))) =
   (match N.idxOf? n with | some k => some (some N, (k : Int), (0 : Int)) | none => if 1024 ≤ N.length then some (some N, 0, 30) else some (some (N ++ [n]), (N.length : Int), 0)) := by
  rw [docFind]
  cases N.idxOf? n with
  | some k => rfl
  | none =>
   simp only [Option.bind_some, Bool.false_eq_true, if_false, Option.isSome_some, Option.getD_some, chk, if_true, decide_eq_true_eq]
   by_cases h : 1024 ≤ N.length
   ·have h1 : (1024 : Int) ≤ (N.length : Int) := by omega
    simp only [h, h1, if_true]
   ·have h1 : ¬ (1024 : Int) ≤ (N.length : Int) := by omega
    have h2 : (N.length + 1) * 40 ≤ 140737488355328 := by omega
    have h3 : IntKind.i64.wrap (((N ++ [n]).length : Int) - 1) = (N.length : Int) := by
     rw [wrap_small (by simp; omega)]; simp
    simp only [h, h1, h2, h3, if_true, if_false]
 unfold ref03_T_Put.f
 refine bind_eq (y := if yU N n = 0 then .inl (some N) else .inr (some N, 0, yU N n)) ?_ ?_
 ·unfold yU
  simp only [hrow, ref03_Word.f, hn, chk, decide_true, if_true, Option.bind_some]
  by_cases k1 : n.kind = 1
  ·simp only [k1, decide_true, if_true]
   by_cases hl : n.l = 0
   ·by_cases hr : n.r = 0
    ·by_cases hw : isWord n.name <;> simp [hl, hr, hw]
    ·simp [hl, hr]
   ·simp [hl]
  by_cases k2 : n.kind = 2
  ·have e : (n = { Nd.z with kind := 2 }) ↔ (n.name = ⟨#[]⟩ ∧ n.l = 0 ∧ n.r = 0) := by
    constructor
    ·intro h; rw [h]; exact ⟨rfl, rfl, rfl⟩
    ·rintro ⟨h1, h2, h3⟩
     obtain ⟨a, b, c, d⟩ := n
     simp only at k2 h1 h2 h3
     subst k2 h1 h2 h3; rfl
   simp only [k2, decide_true, if_true, show ¬ ((2 : Int) = 1) by decide, decide_false, Bool.false_eq_true, if_false, e]
   by_cases hm : n.name = ⟨#[]⟩
   ·by_cases hl : n.l = 0
    ·by_cases hr : n.r = 0 <;> simp [hm, hl, hr]
    ·simp [hm, hl]
   ·simp [hm]
  by_cases k3 : n.kind = 3 ∨ n.kind = 4 ∨ n.kind = 5
  ·have ho : ((if decide (n.kind = 3) = true then some (decide (n.kind = 3)) else if decide (n.kind = 4) = true then some (decide (n.kind = 4)) else some (decide (n.kind = 5))) : Option Bool) = some true := by
    rcases k3 with k | k | k <;> simp [k]
   simp only [k1, k2, k3, decide_false, Bool.false_eq_true, if_false, if_true]
   simp only [decide_eq_true_eq] at ho ⊢
   rw [ho]
   simp only [Option.bind_some, if_true]
   by_cases hm : n.name = ⟨#[]⟩
   ·cases hl : yR N n.l with
    | false => simp [hm, hl]
    | true => cases hr : yR N n.r <;> simp [hm, hl, hr]
   ·simp [hm]
  ·have ho : ((if decide (n.kind = 3) = true then some (decide (n.kind = 3)) else if decide (n.kind = 4) = true then some (decide (n.kind = 4)) else some (decide (n.kind = 5))) : Option Bool) = some false := by
    simp only [not_or] at k3; simp [k3.1, k3.2.1, k3.2.2]
   simp only [k1, k2, k3, decide_false, Bool.false_eq_true, if_false, if_true]
   simp only [decide_eq_true_eq] at ho ⊢
   rw [ho]
   simp
 ·by_cases hf : yU N n = 0
  ·rw [if_pos hf]
   refine Eq.trans (show _ = _ from hend) ?_
   unfold putS
   rw [if_pos hf]
   cases N.idxOf? n with
   | some k => rfl
   | none =>
    by_cases h : 1024 ≤ N.length
    ·simp only [if_pos h]
    ·simp only [if_neg h]
  ·rw [if_neg hf, put_bad hf]; rfl
theorem progPut {N : List Nd} {n : Nd} (hn : n.name.size < 9223372036854775808) : formula_Table_Put.f (some N) n = some (some (putS N n).1, (putS N n).2.1, (putS N n).2.2) := by
 simp [formula_Table_Put.f, chk, hn]
theorem zaY {M : List Nd} {i : Nat} (hi : i < M.length) : at_ Nd.z M i = M[i] := by
 unfold at_; rw [Int.toNat_natCast, List.getD_eq_getElem?_getD, List.getElem?_eq_getElem hi]; rfl
theorem wf_push {N : List Nd} {n : Nd} (h : Wf N) (hf : yU N n = 0) (hl : N.length < 1024) (hnew : n ∉ N) : Wf (N ++ [n]) := by
 have hnd : ∀ i : Int, inb i N.length = true → nd (N ++ [n]) i = nd N i := by
  intro i hi
  have h1 := xv hi
  unfold nd ju yR
  have h2 : i.toNat < N.length := by omega
  rw [if_pos (by simp; omega), if_pos (by simp; omega)]
  simp only
  rw [List.getD_eq_getElem?_getD, List.getElem?_append_left h2, ← List.getD_eq_getElem?_getD]
 have hlast : nd (N ++ [n]) N.length = n := by
  unfold nd ju yR
  rw [if_pos (by simp; omega)]
  simp
 have hsplit : ∀ i : Int, inb i (N ++ [n]).length = true → inb i N.length = true ∨ i = N.length := by
  intro i hi
  have := xv hi
  simp at this
  simp only [inb, Bool.and_eq_true, decide_eq_true_eq]; omega
 have hkind : n.kind = 1 ∨ n.kind = 2 ∨ n.kind = 3 ∨ n.kind = 4 ∨ n.kind = 5 := by
  unfold yU at hf
  by_cases k1 : n.kind = 1
  ·exact .inl k1
  by_cases k2 : n.kind = 2
  ·exact .inr (.inl k2)
  by_cases k3 : n.kind = 3 ∨ n.kind = 4 ∨ n.kind = 5
  ·exact .inr (.inr k3)
  ·simp [k1, k2, k3] at hf
 refine ⟨by simp; omega, by rw [List.nodup_append]; exact ⟨h.nodup, by simp, fun a ha b hb e => hnew (by rw [← List.mem_singleton.1 hb, ← e]; exact ha)⟩, fun i hi => ?_, fun i hi hk => ?_⟩
 ·rcases hsplit i hi with h1 | rfl
  ·rw [hnd i h1]; exact h.kind i h1
  ·rw [hlast]; exact hkind
 ·rcases hsplit i hi with h1 | rfl
  ·rw [hnd i h1] at hk ⊢; exact h.kids i h1 hk
  ·rw [hlast] at hk ⊢
   unfold yU at hf
   have k1 : ¬ n.kind = 1 := by omega
   have k2 : ¬ n.kind = 2 := by omega
   rw [if_neg k1, if_neg k2, if_pos hk] at hf
   split at hf
   ·simp at hf
   ·rename_i hh
    simp only [not_or, Bool.not_eq_false] at hh
    obtain ⟨⟨_, h1⟩, h2⟩ := hh
    simp only [yR, Bool.and_eq_true, decide_eq_true_eq] at h1 h2
    exact ⟨h1, h2⟩
theorem from_some {rows : List Nd} (hn : ∀ n ∈ rows, n.name.size < 9223372036854775808) : ∃ r : Tb × Int, ref03_From.f rows = some r ∧ formula_From.f rows = some r ∧ (r.2 = 0 → r.1 = some rows ∧ Wf rows) := by
 have hstep : ∀ (N : List Nd) (i : Nat), i < rows.length → N.length ≤ 1024 → ref03_From.b0 rows i (some N) = some (if (putS N (at_ Nd.z rows i)).2.2 ≠ 0 then .ret (none, (putS N (at_ Nd.z rows i)).2.2) else if (putS N (at_ Nd.z rows i)).2.1 ≠ i then .ret (none, 31) else .go (some (putS N (at_ Nd.z rows i)).1)) ∧
   formula_From.b0 rows i (some N) = ref03_From.b0 rows i (some N) := by
  intro N i hi hN
  have hm : (at_ Nd.z rows i).name.size < 9223372036854775808 := by rw [zaY hi]; exact hn _ (List.getElem_mem hi)
  have h1 : ref03_From.b0 rows i (some N) = some (if (putS N (at_ Nd.z rows i)).2.2 ≠ 0 then .ret (none, (putS N (at_ Nd.z rows i)).2.2) else if (putS N (at_ Nd.z rows i)).2.1 ≠ i then .ret (none, 31) else .go (some (putS N (at_ Nd.z rows i)).1)) := by
   unfold ref03_From.b0
   rw [docPut hN hm]
   simp only [Option.bind_some, decide_eq_true_eq]
   split
   ·rfl
   ·split <;> rfl
  refine ⟨h1, ?_⟩
  rw [h1]
  unfold formula_From.b0
  rw [progPut hm]
  simp only [Option.bind_some]
  by_cases e : (putS N (at_ Nd.z rows i)).2.2 = 0
  ·by_cases e2 : (putS N (at_ Nd.z rows i)).2.1 = i
   ·simp [e, e2]
   ·simp [e, e2]
  ·simp [e]
 have main : ∀ (n i : Nat), i + n = rows.length → i ≤ 1024 → Wf (rows.take i) → ∃ o, forN (fun j s => ref03_From.b0 rows j s) n i (some (rows.take i)) = some o ∧ forN (fun j s => formula_From.b0 rows j s) n i (some (rows.take i)) = some o ∧
   ((∃ e, e ≠ 0 ∧ o = .inr (none, e)) ∨ (o = .inl (some rows) ∧ Wf rows)) := by
  intro n
  induction n with
  | zero =>
   intro i hi _ hw
   rw [List.take_of_length_le (by omega)] at hw ⊢
   exact ⟨_, rfl, rfl, .inr ⟨rfl, hw⟩⟩
  | succ n ih =>
   intro i hi hle hw
   have hil : i < rows.length := by omega
   have hlen : (rows.take i).length = i := by simp; omega
   obtain ⟨h1, h2⟩ := hstep (rows.take i) i hil (by omega)
   simp only [forN]
   rw [h2, h1]
   by_cases e : (putS (rows.take i) (at_ Nd.z rows i)).2.2 = 0
   ·by_cases e2 : (putS (rows.take i) (at_ Nd.z rows i)).2.1 = i
    ·simp only [e, e2, ne_eq, not_true_eq_false, if_false, Option.bind_some]
     have hput : yU (rows.take i) (at_ Nd.z rows i) = 0 ∧ i < 1024 ∧ at_ Nd.z rows i ∉ rows.take i ∧ (putS (rows.take i) (at_ Nd.z rows i)).1 = rows.take i ++ [at_ Nd.z rows i] := by
      by_cases hf : yU (rows.take i) (at_ Nd.z rows i) = 0
      ·cases hk : (rows.take i).idxOf? (at_ Nd.z rows i) with
       | some k =>
        rw [put_old hf hk] at e2
        have : k < (rows.take i).length := by
         have := List.idxOf?_eq_some_iff.1 hk
         exact this.1
        simp only at e2; omega
       | none =>
        by_cases hl : 1024 ≤ (rows.take i).length
        ·rw [zbi hf hk hl] at e; simp at e
        ·rw [put_new hf hk hl]
         exact ⟨hf, by omega, List.idxOf?_eq_none_iff.1 hk, rfl⟩
      ·rw [put_bad hf] at e; exact absurd e hf
     obtain ⟨hf, hlt, hnew, hp⟩ := hput
     have ht : rows.take i ++ [at_ Nd.z rows i] = rows.take (i + 1) := by
      rw [zaY hil, List.take_succ_eq_append_getElem hil]
     rw [hp, ht]
     have := ih (i + 1) (by omega) (by omega) (by rw [← ht]; exact wf_push hw hf (by omega) hnew)
     simpa using this
    ·simp only [e, e2, ne_eq, not_true_eq_false, not_false_eq_true, if_false, if_true, Option.bind_some]
     exact ⟨_, rfl, rfl, .inl ⟨31, by decide, rfl⟩⟩
   ·simp only [e, ne_eq, not_false_eq_true, if_true, Option.bind_some]
    exact ⟨_, rfl, rfl, .inl ⟨_, e, rfl⟩⟩
 have e0 : (((rows.length : Nat) : Int) - 0).toNat = rows.length := by omega
 obtain ⟨o, h1, h2, h3⟩ := main rows.length 0 (by omega) (by omega) ⟨by simp, by simp, fun i hi => absurd (xv hi) (by simp), fun i hi => absurd (xv hi) (by simp)⟩
 unfold ref03_From.f formula_From.f formula_New.f
 rw [e0]
 simp only [Option.bind_some]
 rw [show (0 : Int) = ((0 : Nat) : Int) from rfl]
 rw [List.take_zero] at h1 h2
 rw [h1, h2]
 rcases h3 with ⟨e, he, rfl⟩ | ⟨rfl, hw⟩
 ·exact ⟨_, rfl, rfl, fun q => absurd q he⟩
 ·exact ⟨_, rfl, rfl, fun _ => ⟨rfl, hw⟩⟩
theorem both_some {rows : List Nd} (hn : ∀ n ∈ rows, n.name.size < 9223372036854775808) (hl : rows.length * 40 ≤ 140737488355328) : law03_Both.f rows = some (none, none, false) ∨ (law03_Both.f rows = some (some rows, some rows, true) ∧ Wf rows) := by
 obtain ⟨r, h1, h2, h3⟩ := from_some hn
 have hc : (([] : List Nd).length + rows.length) * 40 ≤ 140737488355328 := by rw [List.length_nil, Nat.zero_add]; exact hl
 unfold law03_Both.f
 rw [chk, if_pos (decide_eq_true hc), h1]
 simp only [Option.bind_some, List.nil_append, h2]
 by_cases e : r.2 = 0
 ·obtain ⟨h4, hw⟩ := h3 e
  exact .inr ⟨by rw [h4]; simp [e], hw⟩
 ·exact .inl (by simp [e])
theorem Apply_some {M : List Nd} {s : Sq} (hM : M.length ≤ 1024) (hb : s.left.okB = true) : rule_Apply.f (some M) s = some (if xJ M s then ((yJ M s).1, (yJ M s).2, 0) else (0, 0, 31)) := by
 unfold rule_Apply.f
 rw [xu hb]
 cases hl : xJ M s with
 | true => simp [apply_some hM (vq hb hl)]
 | false => simp
end Go.Proofs.YtjebgcoknpcadaaGreatDoor
end
section
namespace Go.Proofs.YtjebgcoknpcadaaGreatDoor
end Go.Proofs.YtjebgcoknpcadaaGreatDoor
end
section
namespace Go.Proofs.YtjebgcoknpcadaaGreatDoor
open Gw
-- terms: nodes, levels, what is right
mutual
def depT : PTerm → Nat
 | .mk _ _ _ _ s => 1 + depL s
def depL : List PTerm → Nat
 | [] => 0
 | x :: l => max (depT x) (depL l)
end
def vY (k : Int) : Int := if k = 1 then 0 else if k = 9 then 3 else if k = 3 ∨ k = 4 ∨ k = 12 then 2 else if k = 2 ∨ k = 5 ∨ k = 6 ∨ k = 7 ∨ k = 8 ∨ k = 10 ∨ k = 11 then 1 else -1
def nodeR (x : PTerm) : Bool :=
 decide (vY x.kind = x.sub.length) && (if x.kind = 1 ∨ x.kind = 2 ∨ x.kind = 9 ∨ x.kind = 12 then decide (isWord x.name) else decide (x.name = ⟨#[]⟩)) &&
  (if x.kind = 9 then decide (isWord x.other) else decide (x.other = ⟨#[]⟩)) && (if x.kind = 11 then decide (0 ≤ x.form) && decide (x.form < 1024) else decide (x.form = 0))
mutual
def rightT : PTerm → Bool
 | .mk k n o f s => nodeR (.mk k n o f s) && rightL s
def rightL : List PTerm → Bool
 | [] => true
 | x :: l => rightT x && rightL l
end
mutual
def nmT : PTerm → Prop
 | .mk _ n o _ s => n.size < 9223372036854775808 ∧ o.size < 9223372036854775808 ∧ nmL s
def nmL : List PTerm → Prop
 | [] => True
 | x :: l => nmT x ∧ nmL l
end
theorem depT_eq (x : PTerm) : depT x = 1 + depL x.sub := by cases x; simp [depT, PTerm.sub]
theorem rightT_eq (x : PTerm) : rightT x = (nodeR x && rightL x.sub) := by cases x; simp [rightT, PTerm.sub]
theorem nmT_eq (x : PTerm) : nmT x ↔ x.name.size < 9223372036854775808 ∧ x.other.size < 9223372036854775808 ∧ nmL x.sub := by cases x; simp [nmT, PTerm.sub, PTerm.name, PTerm.other]
theorem rightL_mem : ∀ {l : List PTerm}, rightL l = true → ∀ x ∈ l, rightT x = true
 | [], _, _, h => by simp at h
 | y :: l, h, x, hx => by
  simp only [rightL, Bool.and_eq_true] at h
  rcases List.mem_cons.1 hx with rfl | hx
  ·exact h.1
  ·exact rightL_mem h.2 x hx
theorem nmL_mem : ∀ {l : List PTerm}, nmL l → ∀ x ∈ l, nmT x
 | [], _, _, h => by simp at h
 | y :: l, h, x, hx => by
  simp only [nmL] at h
  rcases List.mem_cons.1 hx with rfl | hx
  ·exact h.1
  ·exact nmL_mem h.2 x hx
theorem depL_mem : ∀ {l : List PTerm}, ∀ x ∈ l, depT x ≤ depL l
 | [], _, h => by simp at h
 | y :: l, x, hx => by
  simp only [depL]
  rcases List.mem_cons.1 hx with rfl | hx
  ·omega
  ·have := depL_mem x hx; omega
theorem at_mem {l : List PTerm} {i : Int} (h : 0 ≤ i ∧ i < l.length) : at_ PTerm.z l i ∈ l := List.mem_of_getElem? (yg PTerm.z h)
inductive TR where
 | ok (f : Int)
 | no (c : Int) (way : List Int)
 deriving DecidableEq
namespace TR
def at_ (i : Int) : TR → TR
 | ok f => ok f
 | no c w => no c (i :: w)
def bind (r : TR) (k : Int → TR) : TR := match r with
 | ok f => k f
 | no c w => no c w
def code : TR → Int
 | ok _ => 0
 | no c _ => c
def way : TR → List Int
 | ok _ => []
 | no _ w => w
def form : TR → Int
 | ok f => f
 | no _ _ => 0
end TR
abbrev Sc := List (ByteArray × Int)
def ofK (M : List Nd) (f k : Int) (g : Nd → TR) : TR := if (nd M f).kind = k then g (nd M f) else .no 130 []
def uC (M : List Nd) (P : Int → Sc → Option Int → TR) (s : Sc) (x : PTerm) : TR :=
 if x.kind = 1 then (match s.find? (fun q => decide (q.1 = x.name)) with | some q => .ok q.2 | none => .no 131 [])
 else if x.kind = 3 then (P 0 s none).bind fun f => ofK M f 5 fun n => (P 1 s (some n.l)).bind fun _ => .ok n.r
 else if x.kind = 5 then (P 0 s none).bind fun f => ofK M f 3 fun n => .ok n.l
 else if x.kind = 6 then (P 0 s none).bind fun f => ofK M f 3 fun n => .ok n.r
 else if x.kind = 11 then (if inb x.form M.length then (P 0 s (some x.form)).bind fun _ => .ok x.form else .no 31 [])
 else if x.kind = 12 then (P 0 s none).bind fun f => P 1 ((x.name, f) :: s) none
 else if x.kind = 9 then (P 0 s none).bind fun f => ofK M f 4 fun n => (P 1 ((x.name, n.l) :: s) none).bind fun a => (P 2 ((x.other, n.r) :: s) none).bind fun b => if a = b then .ok a else .no 130 []
 else .no 132 []
def jx (M : List Nd) (P : Int → Sc → Option Int → TR) (s : Sc) (x : PTerm) (id : Int) : TR :=
 if x.kind = 2 then ofK M id 5 fun n => P 0 ((x.name, n.l) :: s) (some n.r)
 else if x.kind = 4 then ofK M id 3 fun n => (P 0 s (some n.l)).bind fun _ => P 1 s (some n.r)
 else if x.kind = 7 then ofK M id 4 fun n => P 0 s (some n.l)
 else if x.kind = 8 then ofK M id 4 fun n => P 0 s (some n.r)
 else if x.kind = 9 then (P 0 s none).bind fun f => ofK M f 4 fun n => (P 1 ((x.name, n.l) :: s) (some id)).bind fun _ => P 2 ((x.other, n.r) :: s) (some id)
 else if x.kind = 10 then (P 0 s none).bind fun f => ofK M f 2 fun _ => .ok id
 else if x.kind = 12 then (P 0 s none).bind fun f => P 1 ((x.name, f) :: s) (some id)
 else (uC M P s x).bind fun f => if f = id then .ok id else .no 130 []
def tyS (M : List Nd) : Nat → PTerm → Sc → Option Int → TR
 | 0, _, _, _ => .no 132 []
 | k + 1, x, s, want =>
  let P : Int → Sc → Option Int → TR := fun i s' w => (tyS M k (at_ PTerm.z x.sub i) s' w).at_ i
  match want with
  | none => uC M P s x
  | some id => jx M P s x id
theorem tyS_told (M : List Nd) (k : Nat) (x : PTerm) (s : Sc) : tyS M (k + 1) x s none = uC M (fun i s' w => (tyS M k (at_ PTerm.z x.sub i) s' w).at_ i) s x := rfl
theorem tyS_chkd (M : List Nd) (k : Nat) (x : PTerm) (s : Sc) (id : Int) : tyS M (k + 1) x s (some id) = jx M (fun i s' w => (tyS M k (at_ PTerm.z x.sub i) s' w).at_ i) s x id := rfl
-- the way is no longer than the term is deep
theorem TR.way_at (i : Int) (r : TR) : (r.at_ i).way.length ≤ r.way.length + 1 := by cases r <;> simp [TR.at_, TR.way]
theorem TR.way_bind {r : TR} {g : Int → TR} {n : Nat} (h : r.way.length ≤ n) (hg : ∀ f, (g f).way.length ≤ n) : (r.bind g).way.length ≤ n := by
 cases r with
 | ok f => exact hg f
 | no c w => exact h
theorem ofK_way {M : List Nd} {f k : Int} {g : Nd → TR} {n : Nat} (hg : ∀ m, (g m).way.length ≤ n) : (ofK M f k g).way.length ≤ n := by
 unfold ofK
 split
 ·exact hg _
 ·exact Nat.zero_le _
theorem toldS_way {M : List Nd} {P : Int → Sc → Option Int → TR} {n : Nat} (hP : ∀ i s w, (P i s w).way.length ≤ n) (s : Sc) (x : PTerm) : (uC M P s x).way.length ≤ n := by
 have h0 : ∀ f, (TR.ok f).way.length ≤ n := fun f => Nat.zero_le _
 have h1 : ∀ c, (TR.no c []).way.length ≤ n := fun f => Nat.zero_le _
 unfold uC
 repeat' split
 all_goals first
  | exact h0 _
  | exact h1 _
  | skip
 all_goals refine TR.way_bind (hP ..) fun f => ?_
 all_goals first
  | exact h0 _
  | exact hP ..
  | refine ofK_way fun m => ?_
 all_goals first
  | exact h0 _
  | refine TR.way_bind (hP ..) fun a => ?_
 all_goals first
  | exact h0 _
  | refine TR.way_bind (hP ..) fun b => ?_
 all_goals split
 all_goals first
  | exact h0 _
  | exact h1 _
theorem chkdS_way {M : List Nd} {P : Int → Sc → Option Int → TR} {n : Nat} (hP : ∀ i s w, (P i s w).way.length ≤ n) (s : Sc) (x : PTerm) (id : Int) : (jx M P s x id).way.length ≤ n := by
 have h0 : ∀ f, (TR.ok f).way.length ≤ n := fun f => Nat.zero_le _
 have h1 : ∀ c, (TR.no c []).way.length ≤ n := fun f => Nat.zero_le _
 unfold jx
 split
 ·exact ofK_way fun m => hP ..
 split
 ·exact ofK_way fun m => TR.way_bind (hP ..) fun _ => hP ..
 split
 ·exact ofK_way fun m => hP ..
 split
 ·exact ofK_way fun m => hP ..
 split
 ·exact TR.way_bind (hP ..) fun f => ofK_way fun m => TR.way_bind (hP ..) fun _ => hP ..
 split
 ·exact TR.way_bind (hP ..) fun f => ofK_way fun m => h0 _
 split
 ·exact TR.way_bind (hP ..) fun f => hP ..
 ·refine TR.way_bind (toldS_way hP s x) fun f => ?_
  split
  ·exact h0 _
  ·exact h1 _
theorem tyS_way {M : List Nd} : ∀ (k : Nat) (x : PTerm) (s : Sc) (w : Option Int), (tyS M k x s w).way.length ≤ k
 | 0, _, _, _ => by simp [tyS, TR.way]
 | k + 1, x, s, w => by
  have hP : ∀ i s' w', ((tyS M k (at_ PTerm.z x.sub i) s' w').at_ i).way.length ≤ k + 1 := fun i s' w' => Nat.le_trans (TR.way_at _ _) (Nat.add_le_add_right (tyS_way k _ _ _) 1)
  cases w with
  | none => exact toldS_way hP s x
  | some id => exact chkdS_way hP s x id
-- what is refused has a number
def Cd : TR → Prop
 | .ok _ => True
 | .no c _ => c = 31 ∨ c = 130 ∨ c = 131 ∨ c = 132
theorem Cd.at_ {r : TR} (h : Cd r) (i : Int) : Cd (r.at_ i) := by cases r <;> exact h
theorem Cd.bind {r : TR} {g : Int → TR} (h : Cd r) (hg : ∀ f, Cd (g f)) : Cd (r.bind g) := by
 cases r with
 | ok f => exact hg f
 | no c w => exact h
theorem Cd.ofK {M : List Nd} {f k : Int} {g : Nd → TR} (hg : ∀ m, Cd (g m)) : Cd (ofK M f k g) := by
 unfold Go.Proofs.YtjebgcoknpcadaaGreatDoor.ofK
 split
 ·exact hg _
 ·exact .inr (.inl rfl)
theorem toldS_cd {M : List Nd} {P : Int → Sc → Option Int → TR} (hP : ∀ i s w, Cd (P i s w)) (s : Sc) (x : PTerm) : Cd (uC M P s x) := by
 unfold uC
 split
 ·split
  ·trivial
  ·exact .inr (.inr (.inl rfl))
 split
 ·exact (hP ..).bind fun f => Cd.ofK fun n => (hP ..).bind fun _ => trivial
 split
 ·exact (hP ..).bind fun f => Cd.ofK fun n => trivial
 split
 ·exact (hP ..).bind fun f => Cd.ofK fun n => trivial
 split
 ·split
  ·exact (hP ..).bind fun f => trivial
  ·exact .inl rfl
 split
 ·exact (hP ..).bind fun f => hP ..
 split
 ·refine (hP ..).bind fun f => Cd.ofK fun n => (hP ..).bind fun a => (hP ..).bind fun b => ?_
  split
  ·trivial
  ·exact .inr (.inl rfl)
 ·exact .inr (.inr (.inr rfl))
theorem chkdS_cd {M : List Nd} {P : Int → Sc → Option Int → TR} (hP : ∀ i s w, Cd (P i s w)) (s : Sc) (x : PTerm) (id : Int) : Cd (jx M P s x id) := by
 unfold jx
 split
 ·exact Cd.ofK fun n => hP ..
 split
 ·exact Cd.ofK fun n => (hP ..).bind fun _ => hP ..
 split
 ·exact Cd.ofK fun n => hP ..
 split
 ·exact Cd.ofK fun n => hP ..
 split
 ·exact (hP ..).bind fun f => Cd.ofK fun n => (hP ..).bind fun _ => hP ..
 split
 ·exact (hP ..).bind fun f => Cd.ofK fun n => trivial
 split
 ·exact (hP ..).bind fun f => hP ..
 ·refine (toldS_cd hP s x).bind fun f => ?_
  split
  ·trivial
  ·exact .inr (.inl rfl)
theorem tyS_cd {M : List Nd} : ∀ (k : Nat) (x : PTerm) (s : Sc) (w : Option Int), Cd (tyS M k x s w)
 | 0, _, _, _ => .inr (.inr (.inr rfl))
 | k + 1, x, s, w => by
  have hP : ∀ i s' w', Cd ((tyS M k (at_ PTerm.z x.sub i) s' w').at_ i) := fun i s' w' => (tyS_cd k _ _ _).at_ i
  cases w with
  | none => exact toldS_cd (P := fun i s' w' => (tyS M k (at_ PTerm.z x.sub i) s' w').at_ i) hP s x
  | some id => exact chkdS_cd (P := fun i s' w' => (tyS M k (at_ PTerm.z x.sub i) s' w').at_ i) hP s x id
-- what is told is what alone it is checked against
theorem TR.at_ok {i : Int} {r : TR} {f : Int} : r.at_ i = .ok f ↔ r = .ok f := by cases r <;> simp [TR.at_]
theorem zaM {M : List Nd} {f k : Int} {g : Nd → TR} {b : Int} : ofK M f k g = .ok b ↔ (nd M f).kind = k ∧ g (nd M f) = .ok b := by
 unfold ofK
 split <;> simp_all
end Go.Proofs.YtjebgcoknpcadaaGreatDoor
end
section
namespace Go.Proofs.YtjebgcoknpcadaaGreatDoor
open Gw
theorem chk_t {α : Type} {b : Bool} {x : Option α} (h : b = true) : chk b x = x := by rw [chk, if_pos h]
theorem wrap_nat {n : Nat} (h : n < 9223372036854775808) : IntKind.i64.wrap (n : Int) = n := wrap_small ⟨by omega, by omega⟩
theorem iter_count {τ ρ : Type} {b : τ × Int → Option (Stp (τ × Int) ρ)} (g : Nat → τ) (n : Nat)
  (h : ∀ i, i < n → b (g i, (i : Int)) = some (.go (g (i + 1), ((i + 1 : Nat) : Int))) ∨ (b (g i, (i : Int)) = some (.brk (g i, (i : Int))) ∧ g i = g n)) (he : b (g n, (n : Int)) = some (.brk (g n, (n : Int)))) :
  ∀ (k i : Nat), i ≤ n → n - i < k → ∃ j : Int, iter b k (g i, (i : Int)) = some (.inl (g n, j))
 | 0, i, _, hk => by omega
 | k + 1, i, hi, hk => by
  by_cases hin : i = n
  ·subst hin; exact ⟨(i : Int), by simp only [iter, he, Option.bind_some]⟩
  ·rcases h i (by omega) with h1 | ⟨h1, h2⟩
   ·obtain ⟨j, hj⟩ := iter_count g n h he k (i + 1) (by omega) (by omega)
    exact ⟨j, by simp only [iter, h1, Option.bind_some]; exact hj⟩
   ·exact ⟨(i : Int), by rw [iter, h1]; simp only [Option.bind_some, h2]⟩
theorem depL_take : ∀ {l : List PTerm} {i : Nat} {x : PTerm}, l[i]? = some x → depL (l.take (i + 1)) = max (depL (l.take i)) (depT x)
 | [], _, _, h => by simp at h
 | y :: l, 0, x, h => by simp at h; subst h; simp [depL]
 | y :: l, i + 1, x, h => by
  have := depL_take (l := l) (i := i) (by simpa using h)
  simp only [List.take_succ_cons, depL]; omega
theorem depL_le : ∀ {l : List PTerm} (i : Nat), depL (l.take i) ≤ depL l
 | [], i => by simp
 | y :: l, 0 => by simp [depL]
 | y :: l, i + 1 => by have := depL_le (l := l) i; simp only [List.take_succ_cons, depL]; omega
theorem len_sizeL : ∀ (l : List PTerm), l.length ≤ sizeL l
 | [] => by simp
 | y :: l => by have := len_sizeL l; have := sizeT_pos y; simp only [List.length_cons, sizeL]; omega
theorem sizeL_mem : ∀ {l : List PTerm} {x : PTerm}, x ∈ l → sizeT x ≤ sizeL l
 | [], _, h => by simp at h
 | y :: l, x, h => by
  simp only [sizeL]
  rcases List.mem_cons.1 h with rfl | h
  ·omega
  ·have := sizeL_mem h; omega
theorem at_nat {l : List PTerm} {i : Nat} (h : i < l.length) : at_ PTerm.z l (i : Int) = l[i] := by
 unfold at_; rw [Int.toNat_natCast, List.getD_eq_getElem?_getD, List.getElem?_eq_getElem h]; rfl
theorem depT_pos (x : PTerm) : 1 ≤ depT x := by rw [depT_eq]; omega
-- levels, as the program counts them
theorem deep_some : ∀ (K : Nat) (x : PTerm) (most : Nat), 1 ≤ most → most ≤ 1025 → sizeT x ≤ 65536 → sizeT x + most < K → term_deep.f K x (most : Int) = some ((min (depT x) most : Nat) : Int)
 | 0, _, _, _, _, _, h => by omega
 | K + 1, x, most, h1, h2, h3, hK => by
  show term_deep.g (term_deep.f K) K x most = _
  unfold term_deep.g
  by_cases hm : most = 1
  ·subst hm
   rw [if_pos (by decide)]
   have := depT_pos x
   rw [show min (depT x) 1 = 1 by omega]
  rw [if_neg (by simp; omega)]
  have hw : IntKind.i64.wrap ((most : Int) - 1) = ((most - 1 : Nat) : Int) := by
   rw [show ((most : Int) - 1) = ((most - 1 : Nat) : Int) by omega]; exact wrap_nat (by omega)
  have hs := sizeT_eq x
  have hls := len_sizeL x.sub
  obtain ⟨j, hj⟩ := iter_count (b := fun s => term_deep.b0 x most (term_deep.f K) s.1 s.2) (g := fun i => ((min (depL (x.sub.take i)) (most - 1) : Nat) : Int)) x.sub.length (fun i hi => by
   have he := List.getElem?_eq_getElem hi
   have hd := depL_take he
   have hle := depL_le (l := x.sub) i
   simp only [term_deep.b0, hw]
   by_cases hc : min (depL (x.sub.take i)) (most - 1) < most - 1
   ·left
    rw [if_pos (by simp; omega), chk_t (by rw [zaw]; exact decide_eq_true hi), at_nat hi, deep_some K _ (most - 1) (by omega) (by omega) (by have := sizeL_mem (List.getElem_mem hi); omega) (by have := sizeL_mem (List.getElem_mem hi); omega)]
    simp only [Option.bind_some]
    rw [show (i : Int) + 1 = ((i + 1 : Nat) : Int) by omega, wrap_nat (by omega)]
    congr 3
    rw [hd]
    split <;> omega
   ·right
    rw [if_neg (by simp; omega)]
    refine ⟨rfl, ?_⟩
    rw [List.take_length]
    congr 1
    omega) (by
   simp only [term_deep.b0, hw]
   rw [if_neg (by simp)]) K 0 (by omega) (by omega)
  simp only [List.take_zero, depL, Nat.zero_min, List.take_length] at hj
  rw [show ((0 : Nat) : Int) = 0 from rfl] at hj
  rw [hj]
  simp only [Option.bind_some, aft]
  rw [show ((min (depL x.sub) (most - 1) : Nat) : Int) + 1 = ((min (depL x.sub) (most - 1) + 1 : Nat) : Int) by omega, wrap_nat (by omega), depT_eq]
  congr 2
  omega
-- what is right, as the program tells it
theorem shape_some (k : Int) : term_shape.f k = some (if vY k = -1 then (0, false, false, false) else (vY k, decide (k = 1 ∨ k = 2 ∨ k = 9 ∨ k = 12), decide (k = 9), true)) := by
 by_cases h : k = 1 ∨ k = 2 ∨ k = 3 ∨ k = 4 ∨ k = 5 ∨ k = 6 ∨ k = 7 ∨ k = 8 ∨ k = 9 ∨ k = 10 ∨ k = 11 ∨ k = 12
 ·rcases h with rfl | rfl | rfl | rfl | rfl | rfl | rfl | rfl | rfl | rfl | rfl | rfl <;> decide
 ·simp only [not_or] at h
  obtain ⟨h1, h2, h3, h4, h5, h6, h7, h8, h9, h10, h11, h12⟩ := h
  simp [term_shape.f, vY, h1, h2, h3, h4, h5, h6, h7, h8, h9, h10, h11, h12]
theorem named_some {s : ByteArray} (hs : s.size < 9223372036854775808) (b : Bool) : term_named.f s b = some (if b then decide (isWord s) else decide (s = ⟨#[]⟩)) := by
 unfold term_named.f formula_Word.f
 rw [chk_t (decide_eq_true hs)]
 cases b <;> simp
theorem rightL_all : ∀ (l : List PTerm), rightL l = l.all rightT
 | [] => rfl
 | x :: l => by simp [rightL, rightL_all l]
theorem contains_some {rec : PTerm → Option Bool} {l : List PTerm} (h : ∀ x ∈ l, rec x = some (rightT x)) : slices_ContainsFunc_api_Term_api_Term__term_right_1.g rec l = some (!rightL l) := by
 unfold slices_ContainsFunc_api_Term_api_Term__term_right_1.g slices_IndexFunc_api_Term_api_Term__term_right_1.g
 have h1 := forN_find (b := fun i s => slices_IndexFunc_api_Term_api_Term__term_right_1.b0 rec l i) (p := fun k => !rightT (l.getD k PTerm.z)) (r := fun k => (k : Int)) l.length 0 () (by
  intro k _ hk
  unfold slices_IndexFunc_api_Term_api_Term__term_right_1.b0 term_right_1.g
  have hk' : k < l.length := by omega
  rw [at_nat hk', h _ (List.getElem_mem hk')]
  simp only [Option.bind_some, List.getD_eq_getElem?_getD, List.getElem?_eq_getElem hk', Option.getD_some]
  cases rightT l[k] <;> rfl)
 have e0 : (((l.length : Nat) : Int) - 0).toNat = l.length := by omega
 rw [e0, show (0 : Int) = ((0 : Nat) : Int) from rfl, h1]
 have h2 : rightL l = !((List.range' 0 l.length).find? fun k => !rightT (l.getD k PTerm.z)).isSome := by
  rw [rightL_all, ← any_find]
  rw [Bool.eq_iff_iff]
  simp only [List.all_eq_true, Bool.not_eq_true', List.any_eq_false, Bool.not_eq_true, Bool.not_eq_false', List.mem_range'_1]
  constructor
  ·intro hh k hk
   have hk' : k < l.length := by omega
   simp only [List.getD_eq_getElem?_getD, List.getElem?_eq_getElem hk', Option.getD_some]
   simpa using hh _ (List.getElem_mem hk')
  ·intro hh x hx
   obtain ⟨k, hk, rfl⟩ := List.getElem_of_mem hx
   have := hh k ⟨by omega, by omega⟩
   simp only [List.getD_eq_getElem?_getD, List.getElem?_eq_getElem hk, Option.getD_some] at this
   simpa using this
 rw [h2]
 cases (List.range' 0 l.length).find? fun k => !rightT (l.getD k PTerm.z) with
 | none => simp [aft]
 | some k => simp [aft]
theorem right_some : ∀ (K : Nat) (x : PTerm), nmT x → depT x ≤ K → term_right.f K x = some (rightT x)
 | 0, x, _, h => by have := depT_pos x; omega
 | K + 1, x, hn, hK => by
  have hd := depT_eq x
  obtain ⟨n1, n2, n3⟩ := (nmT_eq x).1 hn
  show term_right.g (term_right.f K) x = _
  unfold term_right.g
  rw [shape_some, contains_some (l := x.sub) fun y hy => right_some K y (nmL_mem n3 y hy) (by have := depL_mem y hy; omega)]
  rw [rightT_eq]
  unfold nodeR
  by_cases hp : vY x.kind = -1
  ·have : ¬ (-1 : Int) = (x.sub.length : Int) := by omega
   simp [hp, this]
  ·simp only [hp, if_false, Option.bind_some, named_some n1, named_some n2]
   generalize vY x.kind = p at hp
   by_cases hl : p = (x.sub.length : Int)
   ·by_cases hk : x.kind = 1 ∨ x.kind = 2 ∨ x.kind = 9 ∨ x.kind = 12
    ·simp only [if_pos hk, decide_eq_true hk]
     by_cases hw : isWord x.name
     ·by_cases h9 : x.kind = 9
      ·simp only [if_pos h9, decide_eq_true h9]
       by_cases ho : isWord x.other
       ·by_cases hf : x.form = 0
        ·simp [hl, h9, hw, ho, hf]
        ·simp [hl, h9, hw, ho, hf]
       ·simp [hl, h9, hw, ho]
      ·simp only [if_neg h9, decide_eq_false h9]
       by_cases ho : x.other = ⟨#[]⟩
       ·by_cases h11 : x.kind = 11
        ·omega
        ·by_cases hf : x.form = 0
         ·simp [hl, h11, hw, ho, hf]
         ·simp [hl, h11, hw, ho, hf]
       ·simp [hl, hw, ho]
     ·simp [hl, hw]
    ·have h9 : ¬ x.kind = 9 := fun e => hk (.inr (.inr (.inl e)))
     simp only [if_neg hk, decide_eq_false hk, if_neg h9, decide_eq_false h9]
     by_cases hw : x.name = ⟨#[]⟩
     ·by_cases ho : x.other = ⟨#[]⟩
      ·by_cases h11 : x.kind = 11
       ·by_cases hf : 0 ≤ x.form
        ·by_cases hg : x.form < 1024
         ·have q1 : ¬ x.form < 0 := by omega
          have q2 : ¬ 1024 ≤ x.form := by omega
          simp [hl, h11, hw, ho, hf, hg, q1, q2]
         ·have q2 : 1024 ≤ x.form := by omega
          simp [hl, h11, hw, ho, hf, hg, q2]
        ·have q1 : x.form < 0 := by omega
         simp [hl, h11, hw, ho, hf, q1]
       ·by_cases hf : x.form = 0
        ·simp [hl, h11, hw, ho, hf]
        ·simp [hl, h11, hw, ho, hf]
      ·simp [hl, hw, ho]
     ·simp [hl, hw]
   ·have hl' : ¬ (x.sub.length : Int) = p := fun e => hl e.symm
    simp [hl, hl']
def checkT (x : PTerm) : Int := if 65536 < sizeT x ∨ 1024 < depT x then 121 else if rightT x then 0 else 120
theorem Check_some {K : Nat} {x : PTerm} (hK : 66562 ≤ K) (hn : nmT x) : term_Check.f K x = some (checkT x) := by
 unfold term_Check.f term_Size.f term_Deep.f checkT
 simp only [Option.bind_some]
 by_cases hs : 65536 < sizeT x
 ·have h1 : min (sizeT x) 65537 = 65537 := by omega
  simp [h1, hs]
 ·have h1 : min (sizeT x) 65537 = sizeT x := by omega
  have h2 : ¬ (65536 : Int) < (sizeT x : Int) := by omega
  rw [h1, show (1025 : Int) = ((1025 : Nat) : Int) from rfl]
  simp only [h2, decide_false, Bool.not_false, if_true, deep_some K x 1025 (by omega) (by omega) (by omega) (by omega), Option.bind_some, Bool.false_or, decide_eq_true_eq, hs, false_or]
  by_cases hd : 1024 < depT x
  ·have h3 : (1024 : Int) < ((min (depT x) 1025 : Nat) : Int) := by omega
   simp [h3, hd]
  ·have h3 : ¬ (1024 : Int) < ((min (depT x) 1025 : Nat) : Int) := by omega
   rw [if_neg h3, if_neg hd, right_some K x hn (by omega)]
   cases rightT x <;> rfl
end Go.Proofs.YtjebgcoknpcadaaGreatDoor
end
section
namespace Go.Proofs.YtjebgcoknpcadaaGreatDoor
open Gw
def err : TR → Option (Int × List Int)
 | .ok _ => none
 | .no c w => some (c, w.reverse)
abbrev Tc : Type := PChecker → PTerm → List (ByteArray × Int) → Option (Int × Option (Int × List Int))
abbrev Cc : Type := PChecker → PTerm → List (ByteArray × Int) → Int → Option (Option (Int × List Int))
def Sok (M : List Nd) (s : Sc) : Prop := ∀ q ∈ s, inb q.2 M.length = true
theorem Sok.cons {M : List Nd} {s : Sc} {n : ByteArray} {f : Int} (h : Sok M s) (hf : inb f M.length = true) : Sok M ((n, f) :: s) := fun q hq => by
 rcases List.mem_cons.1 hq with rfl | hq
 ·exact hf
 ·exact h q hq
abbrev PS (M : List Nd) (k : Nat) (x : PTerm) : Int → Sc → Option Int → TR := fun i s' w => (tyS M k (at_ PTerm.z x.sub i) s' w).at_ i
def Tells (M : List Nd) (r : Option (Int × Option (Int × List Int))) (t : TR) : Prop := ∃ i, r = some (i, err t) ∧ ∀ f, t = .ok f → i = f ∧ inb f M.length = true
theorem at_err {r : TR} {i : Int} (h : r.way.length ≤ 2000) : types_at.f i (err r) = some (err (r.at_ i)) := by
 cases r with
 | ok f => rfl
 | no c w =>
  simp only [TR.way] at h
  simp only [err, types_at.f, TR.at_, List.reverse_cons, List.length_reverse]
  rw [chk_t (decide_eq_true (by omega))]
theorem TR.ok_at {r : TR} {i f : Int} (h : r.at_ i = .ok f) : r = .ok f := TR.at_ok.1 h
theorem node_tab {M : List Nd} {i k : Int} (hi : inb i M.length = true) : types_checker_node.f ⟨some M⟩ i k = some (nd M i, if (nd M i).kind = k then none else some (130, [])) := by
 simp only [types_checker_node.f, formula_Table_Node.f, Option.map_some, Option.bind_some]
 by_cases h : (nd M i).kind = k
 ·simp [nd, h] at h ⊢ <;> simp [h]
 ·simp [nd] at h ⊢ <;> simp [h]
section
variable {M : List Nd} {x : PTerm} {k : Nat} {T : Tc} {C : Cc}
theorem jW (hk : k ≤ 1999) {i : Int} (hi : inb i x.sub.length = true) {s : Sc} (h : Tells M (T ⟨some M⟩ (at_ PTerm.z x.sub i) s) (tyS M k (at_ PTerm.z x.sub i) s none)) : Tells M (types_checker_part.g T ⟨some M⟩ x i s) (PS M k x i s none) := by
 obtain ⟨j, h1, h2⟩ := h
 refine ⟨j, ?_, fun f hf => h2 f (TR.ok_at hf)⟩
 unfold types_checker_part.g
 rw [chk_t hi, h1]
 simp only [Option.bind_some]
 rw [at_err (Nat.le_trans (tyS_way k _ _ _) (by omega))]
 rfl
theorem vm (hk : k ≤ 1999) {i id : Int} (hi : inb i x.sub.length = true) {s : Sc} (h : C ⟨some M⟩ (at_ PTerm.z x.sub i) s id = some (err (tyS M k (at_ PTerm.z x.sub i) s (some id)))) : types_checker_check.g C ⟨some M⟩ x i s id = some (err (PS M k x i s (some id))) := by
 unfold types_checker_check.g
 rw [chk_t hi, h]
 simp only [Option.bind_some]
 rw [at_err (Nat.le_trans (tyS_way k _ _ _) (by omega))]
 rfl
def hdS (M : List Nd) (P : Int → Sc → Option Int → TR) (s : Sc) (kd : Int) : TR := (P 0 s none).bind fun f => if (nd M f).kind = kd then .ok f else .no 130 []
theorem hdS_eq (P : Int → Sc → Option Int → TR) (s : Sc) (kd : Int) (g : Nd → TR) : ((P 0 s none).bind fun f => ofK M f kd g) = (hdS M P s kd).bind fun f => g (nd M f) := by
 unfold hdS
 cases P 0 s none with
 | ok f =>
  simp only [TR.bind, ofK]
  split <;> rfl
 | no c w => rfl
theorem j4 (hk : k ≤ 1999) (hi : inb 0 x.sub.length = true) {s : Sc} {kd : Int} (h : Tells M (T ⟨some M⟩ (at_ PTerm.z x.sub 0) s) (tyS M k (at_ PTerm.z x.sub 0) s none)) :
  ∃ n, types_checker_head.g T ⟨some M⟩ x s kd = some (n, err (hdS M (PS M k x) s kd)) ∧ ∀ f, hdS M (PS M k x) s kd = .ok f → n = nd M f ∧ inb f M.length = true ∧ (nd M f).kind = kd := by
 obtain ⟨j, h1, h2⟩ := jW hk hi h
 unfold types_checker_head.g hdS
 rw [h1]
 simp only [Option.bind_some]
 cases hp : PS M k x 0 s none with
 | no c w => exact ⟨Nd.z, rfl, fun f hf => by cases hf⟩
 | ok f =>
  obtain ⟨rfl, hb⟩ := h2 f hp
  simp only [err, Option.isSome_none, Bool.false_eq_true, if_false, node_tab hb, Option.bind_some, TR.bind]
  by_cases hkd : (nd M j).kind = kd
  ·simp only [hkd, if_true]
   exact ⟨_, rfl, fun f hf => by cases hf; exact ⟨rfl, hb, hkd⟩⟩
  ·simp only [hkd, if_false]
   exact ⟨_, rfl, fun f hf => by cases hf⟩
structure Parts (M : List Nd) (k : Nat) (x : PTerm) (T : Tc) (C : Cc) : Prop where
 told : ∀ i, inb i x.sub.length = true → ∀ s, Sok M s → Tells M (T ⟨some M⟩ (at_ PTerm.z x.sub i) s) (tyS M k (at_ PTerm.z x.sub i) s none)
 chkd : ∀ i, inb i x.sub.length = true → ∀ s, Sok M s → ∀ id, inb id M.length = true → C ⟨some M⟩ (at_ PTerm.z x.sub i) s id = some (err (tyS M k (at_ PTerm.z x.sub i) s (some id)))
theorem yS {i : Int} {n : Nat} (h : (0 ≤ i ∧ i < n) ) : inb i n = true := by simp [inb, h.1, h.2]
theorem rt_len (hr : rightT x = true) : vY x.kind = (x.sub.length : Int) := by
 rw [rightT_eq] at hr
 simp only [nodeR, Bool.and_eq_true, decide_eq_true_eq] at hr
 exact hr.1.1.1.1
theorem find_tab {s : Sc} (hs : Sok M s) (n : ByteArray) {q : ByteArray × Int} (h : s.find? (fun q => decide (q.1 = n)) = some q) : inb q.2 M.length = true := hs q (List.mem_of_find?_eq_some h)
theorem told_tells (hM : Wf M) (hk : k ≤ 1999) (hr : rightT x = true) (hP : Parts M k x T C) {s : Sc} (hs : Sok M s) : Tells M (types_checker_told.g T C ⟨some M⟩ x s) (uC M (PS M k x) s x) := by
 have hl := rt_len hr
 have hno : ∀ c, Tells M (some (0, some (c, []))) (.no c []) := fun c => ⟨0, rfl, fun f hf => by cases hf⟩
 by_cases k1 : x.kind = 1
 ·simp only [types_checker_told.g, uC, k1, decide_true, if_true, types_scope_find.f, Option.bind_some]
  cases hf : s.find? (fun q => decide (q.1 = x.name)) with
  | none => exact hno 131
  | some q => exact ⟨q.2, rfl, fun f hf' => by cases hf'; exact ⟨rfl, find_tab hs _ hf⟩⟩
 by_cases k3 : x.kind = 3
 ·simp only [k3, vY] at hl
  have h0 := yS (i := 0) (n := x.sub.length) (by omega)
  have h1 := yS (i := 1) (n := x.sub.length) (by omega)
  have e : uC M (PS M k x) s x = (hdS M (PS M k x) s 5).bind fun f => (PS M k x 1 s (some (nd M f).l)).bind fun _ => .ok (nd M f).r := by
   rw [← hdS_eq (g := fun n => (PS M k x 1 s (some n.l)).bind fun _ => .ok n.r)]
   simp [uC, k3]
  obtain ⟨n, e1, e2⟩ := j4 (kd := 5) hk h0 (hP.told 0 h0 s hs)
  rw [e]
  simp only [types_checker_told.g, k3, Int.reduceEq, decide_false, decide_true, Bool.false_eq_true, if_false, if_true, e1, Option.bind_some]
  cases hh : hdS M (PS M k x) s 5 with
  | no c w => exact ⟨0, rfl, fun f hf => by cases hf⟩
  | ok f =>
   obtain ⟨rfl, hb, hkd⟩ := e2 f hh
   have hl := hM.left hb (.inr (.inr hkd))
   have hrr := hM.right hb (.inr (.inr hkd))
   simp only [err, Option.isSome_none, Bool.false_eq_true, if_false, vm hk h1 (hP.chkd 1 h1 s hs _ hl), Option.bind_some, TR.bind]
   cases PS M k x 1 s (some (nd M f).l) with
   | ok g => exact ⟨_, rfl, fun f' hf => by cases hf; exact ⟨rfl, hrr⟩⟩
   | no c w => exact ⟨_, rfl, fun f' hf => by cases hf⟩
 by_cases k5 : x.kind = 5
 ·simp only [k5, vY] at hl
  have h0 := yS (i := 0) (n := x.sub.length) (by omega)
  have e : uC M (PS M k x) s x = (hdS M (PS M k x) s 3).bind fun f => .ok (nd M f).l := by
   rw [← hdS_eq (g := fun n => .ok n.l)]
   simp [uC, k5]
  obtain ⟨n, e1, e2⟩ := j4 (kd := 3) hk h0 (hP.told 0 h0 s hs)
  rw [e]
  simp only [types_checker_told.g, k5, Int.reduceEq, decide_false, decide_true, Bool.false_eq_true, if_false, if_true, e1, Option.bind_some]
  cases hh : hdS M (PS M k x) s 3 with
  | no c w => exact ⟨_, rfl, fun f hf => by cases hf⟩
  | ok f =>
   obtain ⟨rfl, hb, hkd⟩ := e2 f hh
   exact ⟨_, rfl, fun f' hf => by cases hf; exact ⟨rfl, hM.left hb (.inl hkd)⟩⟩
 by_cases k6 : x.kind = 6
 ·simp only [k6, vY] at hl
  have h0 := yS (i := 0) (n := x.sub.length) (by omega)
  have e : uC M (PS M k x) s x = (hdS M (PS M k x) s 3).bind fun f => .ok (nd M f).r := by
   rw [← hdS_eq (g := fun n => .ok n.r)]
   simp [uC, k6]
  obtain ⟨n, e1, e2⟩ := j4 (kd := 3) hk h0 (hP.told 0 h0 s hs)
  rw [e]
  simp only [types_checker_told.g, k6, Int.reduceEq, decide_false, decide_true, Bool.false_eq_true, if_false, if_true, e1, Option.bind_some]
  cases hh : hdS M (PS M k x) s 3 with
  | no c w => exact ⟨_, rfl, fun f hf => by cases hf⟩
  | ok f =>
   obtain ⟨rfl, hb, hkd⟩ := e2 f hh
   exact ⟨_, rfl, fun f' hf => by cases hf; exact ⟨rfl, hM.right hb (.inl hkd)⟩⟩
 by_cases k11 : x.kind = 11
 ·simp only [k11, vY] at hl
  have h0 := yS (i := 0) (n := x.sub.length) (by omega)
  simp only [types_checker_told.g, uC, k11, Int.reduceEq, decide_false, decide_true, Bool.false_eq_true, if_false, if_true, formula_Table_Node.f, Option.map_some, Option.bind_some]
  by_cases hf : inb x.form M.length = true
  ·have hf' : (ju M x.form).2 = true := by
    have := xv hf
    simp [ju, yR, this.1, this.2]
   simp only [hf, hf', if_true, Bool.not_true, Bool.false_eq_true, if_false, vm hk h0 (hP.chkd 0 h0 s hs _ hf), Option.bind_some]
   cases PS M k x 0 s (some x.form) with
   | ok g => exact ⟨_, rfl, fun f' hf2 => by cases hf2; exact ⟨rfl, hf⟩⟩
   | no c w => exact ⟨_, rfl, fun f' hf2 => by cases hf2⟩
  ·have hf' : (ju M x.form).2 = false := by
    have h2 : ¬ yR M x.form = true := fun e => hf (by
     simp only [yR, Bool.and_eq_true, decide_eq_true_eq] at e
     exact yS e)
    simp [ju, h2]
   simp only [hf, hf', Bool.not_false, if_true, Bool.false_eq_true, if_false]
   exact hno 31
 by_cases k12 : x.kind = 12
 ·simp only [k12, vY] at hl
  have h0 := yS (i := 0) (n := x.sub.length) (by omega)
  have h1 := yS (i := 1) (n := x.sub.length) (by omega)
  obtain ⟨j, e1, e2⟩ := jW hk h0 (hP.told 0 h0 s hs)
  simp only [types_checker_told.g, uC, k12, Int.reduceEq, decide_false, decide_true, Bool.false_eq_true, if_false, if_true, e1, Option.bind_some]
  cases hh : PS M k x 0 s none with
  | no c w => exact ⟨0, rfl, fun f hf => by cases hf⟩
  | ok f =>
   obtain ⟨rfl, hb⟩ := e2 f hh
   simp only [err, Option.isSome_none, Bool.false_eq_true, if_false, TR.bind]
   obtain ⟨j2, e3, e4⟩ := jW hk h1 (hP.told 1 h1 ((x.name, j) :: s) (hs.cons hb))
   rw [e3]
   exact ⟨j2, rfl, e4⟩
 by_cases k9 : x.kind = 9
 ·simp only [k9, vY] at hl
  have h0 := yS (i := 0) (n := x.sub.length) (by omega)
  have h1 := yS (i := 1) (n := x.sub.length) (by omega)
  have h2 := yS (i := 2) (n := x.sub.length) (by omega)
  have e : uC M (PS M k x) s x = (hdS M (PS M k x) s 4).bind fun f => (PS M k x 1 ((x.name, (nd M f).l) :: s) none).bind fun a => (PS M k x 2 ((x.other, (nd M f).r) :: s) none).bind fun b => if a = b then .ok a else .no 130 [] := by
   rw [← hdS_eq (g := fun n => (PS M k x 1 ((x.name, n.l) :: s) none).bind fun a => (PS M k x 2 ((x.other, n.r) :: s) none).bind fun b => if a = b then .ok a else .no 130 [])]
   simp [uC, k9]
  obtain ⟨n, e1, e2⟩ := j4 (kd := 4) hk h0 (hP.told 0 h0 s hs)
  rw [e]
  simp only [types_checker_told.g, k9, Int.reduceEq, decide_false, decide_true, Bool.false_eq_true, if_false, if_true, e1, Option.bind_some]
  cases hh : hdS M (PS M k x) s 4 with
  | no c w => exact ⟨0, rfl, fun f hf => by cases hf⟩
  | ok f =>
   obtain ⟨rfl, hb, hkd⟩ := e2 f hh
   have hl := hM.left hb (.inr (.inl hkd))
   have hrr := hM.right hb (.inr (.inl hkd))
   obtain ⟨j2, e3, e4⟩ := jW hk h1 (hP.told 1 h1 ((x.name, (nd M f).l) :: s) (hs.cons hl))
   simp only [err, Option.isSome_none, Bool.false_eq_true, if_false, TR.bind, e3, Option.bind_some]
   cases hh2 : PS M k x 1 ((x.name, (nd M f).l) :: s) none with
   | no c w => exact ⟨0, rfl, fun f hf => by cases hf⟩
   | ok a =>
    obtain ⟨rfl, hb2⟩ := e4 a hh2
    obtain ⟨j3, e5, e6⟩ := jW hk h2 (hP.told 2 h2 ((x.other, (nd M f).r) :: s) (hs.cons hrr))
    simp only [err, Option.isSome_none, Bool.false_eq_true, if_false, TR.bind, e5, Option.bind_some]
    cases hh3 : PS M k x 2 ((x.other, (nd M f).r) :: s) none with
    | no c w => exact ⟨_, rfl, fun f hf => by cases hf⟩
    | ok b =>
     obtain ⟨rfl, hb3⟩ := e6 b hh3
     by_cases hab : j2 = j3
     ·subst hab
      simp only [err, TR.bind, if_true]
      exact ⟨j2, by simp [err], fun f' hf => by cases hf; exact ⟨rfl, hb2⟩⟩
     ·have hba : ¬ j3 = j2 := fun e => hab e.symm
      simp only [err, TR.bind, hab, if_false]
      exact ⟨j2, by simp [err, hba], fun f' hf => by cases hf⟩
 simp only [types_checker_told.g, uC, k1, k3, k5, k6, k9, k11, k12, decide_false, Bool.false_eq_true, if_false]
 exact hno 132
theorem err_bind_none {t : TR} {y : Option (Option (Int × List Int))} {z : TR} (h : ∀ f, t = .ok f → y = some (err z)) : (if (err t).isSome = true then some (err t) else y) = some (err (t.bind fun _ => z)) := by
 cases t with
 | ok f => simpa [err, TR.bind] using h f rfl
 | no c w => simp [err, TR.bind]
theorem chkd_tells (hM : Wf M) (hk : k ≤ 1999) (hr : rightT x = true) (hP : Parts M k x T C) {s : Sc} (hs : Sok M s) {id : Int} (hid : inb id M.length = true) (hT : Tells M (T ⟨some M⟩ x s) (uC M (PS M k x) s x)) : types_checker_checked.g T C ⟨some M⟩ x s id = some (err (jx M (PS M k x) s x id)) := by
 have hl := rt_len hr
 have hnode : ∀ (kd : Int) (g : Nd → TR) (y : Nd → Option (Option (Int × List Int))), ((nd M id).kind = kd → y (nd M id) = some (err (g (nd M id)))) → ((types_checker_node.f ⟨some M⟩ id kd).bind fun r => if r.2.isSome = true then some r.2 else y r.1) = some (err (ofK M id kd g)) := by
  intro kd g y hy
  rw [node_tab hid]
  simp only [Option.bind_some, ofK]
  by_cases h : (nd M id).kind = kd
  ·simp only [h, if_true, Option.isSome_none, Bool.false_eq_true, if_false]; exact hy h
  ·simp only [h, if_false, Option.isSome_some, if_true]; rfl
 have hsome : ∀ {y : Option (Option (Int × List Int))}, (y.bind fun r => some r) = y := fun {y} => by cases y <;> rfl
 by_cases k2 : x.kind = 2
 ·simp only [k2, vY] at hl
  have h0 := yS (i := 0) (n := x.sub.length) (by omega)
  simp only [types_checker_checked.g, jx, k2, decide_true, if_true, hsome]
  exact hnode 5 (fun n => PS M k x 0 ((x.name, n.l) :: s) (some n.r)) (fun n => types_checker_check.g C ⟨some M⟩ x 0 ((x.name, n.l) :: s) n.r) fun hkd => vm hk h0 (hP.chkd 0 h0 _ (hs.cons (hM.left hid (.inr (.inr hkd)))) _ (hM.right hid (.inr (.inr hkd))))
 by_cases k4 : x.kind = 4
 ·simp only [k4, vY] at hl
  have h0 := yS (i := 0) (n := x.sub.length) (by omega)
  have h1 := yS (i := 1) (n := x.sub.length) (by omega)
  simp only [types_checker_checked.g, jx, k4, Int.reduceEq, decide_false, decide_true, Bool.false_eq_true, if_false, if_true, hsome]
  refine hnode 3 (fun n => (PS M k x 0 s (some n.l)).bind fun _ => PS M k x 1 s (some n.r)) (fun n => (types_checker_check.g C ⟨some M⟩ x 0 s n.l).bind fun r30 => if r30.isSome = true then some r30 else types_checker_check.g C ⟨some M⟩ x 1 s n.r) fun hkd => ?_
  rw [vm hk h0 (hP.chkd 0 h0 s hs _ (hM.left hid (.inl hkd)))]
  simp only [Option.bind_some]
  exact err_bind_none fun f _ => vm hk h1 (hP.chkd 1 h1 s hs _ (hM.right hid (.inl hkd)))
 by_cases k7 : x.kind = 7
 ·simp only [k7, vY] at hl
  have h0 := yS (i := 0) (n := x.sub.length) (by omega)
  simp only [types_checker_checked.g, jx, k7, Int.reduceEq, decide_false, decide_true, Bool.false_eq_true, if_false, if_true, hsome, Option.bind_some]
  exact hnode 4 (fun n => PS M k x 0 s (some n.l)) (fun n => types_checker_check.g C ⟨some M⟩ x 0 s n.l) fun hkd => vm hk h0 (hP.chkd 0 h0 s hs _ (hM.left hid (.inr (.inl hkd))))
 by_cases k8 : x.kind = 8
 ·simp only [k8, vY] at hl
  have h0 := yS (i := 0) (n := x.sub.length) (by omega)
  simp only [types_checker_checked.g, jx, k8, Int.reduceEq, decide_false, decide_true, Bool.false_eq_true, if_false, if_true, hsome, Option.bind_some]
  exact hnode 4 (fun n => PS M k x 0 s (some n.r)) (fun n => types_checker_check.g C ⟨some M⟩ x 0 s n.r) fun hkd => vm hk h0 (hP.chkd 0 h0 s hs _ (hM.right hid (.inr (.inl hkd))))
 by_cases k9 : x.kind = 9
 ·simp only [k9, vY] at hl
  have h0 := yS (i := 0) (n := x.sub.length) (by omega)
  have h1 := yS (i := 1) (n := x.sub.length) (by omega)
  have h2 := yS (i := 2) (n := x.sub.length) (by omega)
  have e : jx M (PS M k x) s x id = (hdS M (PS M k x) s 4).bind fun f => (PS M k x 1 ((x.name, (nd M f).l) :: s) (some id)).bind fun _ => PS M k x 2 ((x.other, (nd M f).r) :: s) (some id) := by
   rw [← hdS_eq (g := fun n => (PS M k x 1 ((x.name, n.l) :: s) (some id)).bind fun _ => PS M k x 2 ((x.other, n.r) :: s) (some id))]
   simp [jx, k9]
  obtain ⟨n, e1, e2⟩ := j4 (kd := 4) hk h0 (hP.told 0 h0 s hs)
  rw [e]
  simp only [types_checker_checked.g, k9, Int.reduceEq, decide_false, decide_true, Bool.false_eq_true, if_false, if_true, hsome, Option.bind_some, e1]
  cases hh : hdS M (PS M k x) s 4 with
  | no c w => rfl
  | ok f =>
   obtain ⟨rfl, hb, hkd⟩ := e2 f hh
   simp only [err, Option.isSome_none, Bool.false_eq_true, if_false, TR.bind]
   rw [vm hk h1 (hP.chkd 1 h1 _ (hs.cons (hM.left hb (.inr (.inl hkd)))) _ hid)]
   simp only [Option.bind_some]
   exact err_bind_none fun f' _ => vm hk h2 (hP.chkd 2 h2 _ (hs.cons (hM.right hb (.inr (.inl hkd)))) _ hid)
 by_cases k10 : x.kind = 10
 ·simp only [k10, vY] at hl
  have h0 := yS (i := 0) (n := x.sub.length) (by omega)
  have e : jx M (PS M k x) s x id = (hdS M (PS M k x) s 2).bind fun f => .ok id := by
   rw [← hdS_eq (g := fun n => .ok id)]
   simp [jx, k10]
  obtain ⟨n, e1, e2⟩ := j4 (kd := 2) hk h0 (hP.told 0 h0 s hs)
  rw [e]
  simp only [types_checker_checked.g, k10, Int.reduceEq, decide_false, decide_true, Bool.false_eq_true, if_false, if_true, hsome, Option.bind_some, e1]
  cases hh : hdS M (PS M k x) s 2 with
  | no c w => rfl
  | ok f => rfl
 by_cases k12 : x.kind = 12
 ·simp only [k12, vY] at hl
  have h0 := yS (i := 0) (n := x.sub.length) (by omega)
  have h1 := yS (i := 1) (n := x.sub.length) (by omega)
  obtain ⟨j, e1, e2⟩ := jW hk h0 (hP.told 0 h0 s hs)
  simp only [types_checker_checked.g, jx, k12, Int.reduceEq, decide_false, decide_true, Bool.false_eq_true, if_false, if_true, hsome, Option.bind_some, e1]
  cases hh : PS M k x 0 s none with
  | no c w => rfl
  | ok f =>
   obtain ⟨rfl, hb⟩ := e2 f hh
   simp only [err, Option.isSome_none, Bool.false_eq_true, if_false, TR.bind]
   exact vm hk h1 (hP.chkd 1 h1 _ (hs.cons hb) _ hid)
 obtain ⟨j, e1, e2⟩ := hT
 simp only [types_checker_checked.g, jx, k2, k4, k7, k8, k9, k10, k12, decide_false, Bool.false_eq_true, if_false, Option.bind_some, e1]
 cases hh : uC M (PS M k x) s x with
 | no c w => simp [err, TR.bind]
 | ok f =>
  obtain ⟨rfl, hb⟩ := e2 f hh
  by_cases hj : j = id
  ·subst hj; simp [err, TR.bind]
  ·simp [err, TR.bind, hj]
end
theorem tc_prog {M : List Nd} (hM : Wf M) : ∀ (k : Nat), k ≤ 1999 → ∀ (x : PTerm), rightT x = true → depT x ≤ k →
  (∀ (s : Sc), Sok M s → ∀ K, 2 * k ≤ K → Tells M (types_checker_told.f K ⟨some M⟩ x s) (tyS M k x s none)) ∧
  (∀ (s : Sc), Sok M s → ∀ id, inb id M.length = true → ∀ K, 2 * k + 1 ≤ K → types_checker_checked.f K ⟨some M⟩ x s id = some (err (tyS M k x s (some id))))
 | 0, _, x, _, h => by have := depT_pos x; omega
 | k + 1, hk, x, hr, hd => by
  have hde := depT_eq x
  have hsub : ∀ i, inb i x.sub.length = true → rightT (at_ PTerm.z x.sub i) = true ∧ depT (at_ PTerm.z x.sub i) ≤ k := fun i hi => by
   have hm := at_mem (xv hi)
   rw [rightT_eq, Bool.and_eq_true] at hr
   exact ⟨rightL_mem hr.2 _ hm, by have := depL_mem _ hm; omega⟩
  have hP : ∀ K, 2 * k + 1 ≤ K → Parts M k x (types_checker_told.f K) (types_checker_checked.f K) := fun K hK =>
   ⟨fun i hi s hs => (tc_prog hM k (by omega) _ (hsub i hi).1 (hsub i hi).2).1 s hs K (by omega), fun i hi s hs id hid => (tc_prog hM k (by omega) _ (hsub i hi).1 (hsub i hi).2).2 s hs id hid K (by omega)⟩
  have h1 : ∀ (s : Sc), Sok M s → ∀ K, 2 * (k + 1) ≤ K → Tells M (types_checker_told.f K ⟨some M⟩ x s) (tyS M (k + 1) x s none) := fun s hs K hK => by
   obtain ⟨K', rfl⟩ : ∃ K', K = K' + 1 := ⟨K - 1, by omega⟩
   exact told_tells hM (by omega) hr (hP K' (by omega)) hs
  refine ⟨h1, fun s hs id hid K hK => ?_⟩
  obtain ⟨K', rfl⟩ : ∃ K', K = K' + 1 := ⟨K - 1, by omega⟩
  exact chkd_tells hM (by omega) hr (hP K' (by omega)) hs hid (h1 s hs K' (by omega))
end Go.Proofs.YtjebgcoknpcadaaGreatDoor
end
section
namespace Go.Proofs.YtjebgcoknpcadaaGreatDoor
open Gw
end Go.Proofs.YtjebgcoknpcadaaGreatDoor
end
section
namespace Go.Proofs.YtjebgcoknpcadaaGreatDoor
open Gw
end Go.Proofs.YtjebgcoknpcadaaGreatDoor
end
section
namespace Go.Proofs.YtjebgcoknpcadaaGreatDoor
open Gw
def scS (l : List Hyp) : Sc := (l.map fun h => (h.name, h.form)).reverse
def hypsOk (M : List Nd) (l : List Hyp) : Bool := l.all fun h => inb h.form M.length
theorem scS_ok {M : List Nd} {l : List Hyp} (h : hypsOk M l = true) : Sok M (scS l) := fun q hq => by
 obtain ⟨a, ha, rfl⟩ := List.mem_map.1 (List.mem_reverse.1 hq)
 exact List.all_eq_true.1 h a ha
theorem ahead_loop (l : List Hyp) : ∀ (n i : Nat) (ids : List Int) (s : Sc), i + n = l.length → (ids.length + n) * 8 ≤ 140737488355328 →
  forS (fun i s => types_ahead.b0 l i s.1 s.2) n (i : Int) (ids, s) = some (ids ++ (l.drop i).map (·.form), ((l.drop i).map fun h => (h.name, h.form)).reverse ++ s)
 | 0, i, ids, s, hi, _ => by
  rw [List.drop_eq_nil_of_le (by omega)]; simp [forS]
 | n + 1, i, ids, s, hi, hb => by
  have hil : i < l.length := by omega
  have he : at_ Hyp.z l (i : Int) = l[i] := by
   unfold at_; rw [Int.toNat_natCast, List.getD_eq_getElem?_getD, List.getElem?_eq_getElem hil]; rfl
  have hb0 : types_ahead.b0 l (i : Int) ids s = some (ids ++ [l[i].form], (l[i].name, l[i].form) :: s) := by
   simp only [types_ahead.b0, types_scope_with.f, Option.bind_some, he]
   rw [chk_t (decide_eq_true (by simp only [List.length_singleton]; omega))]
  rw [forS]
  show (types_ahead.b0 l (i : Int) ids s).bind _ = _
  rw [hb0]
  simp only [Option.bind_some]
  have := ahead_loop l n (i + 1) (ids ++ [l[i].form]) ((l[i].name, l[i].form) :: s) (by omega) (by simp only [List.length_append, List.length_singleton]; omega)
  rw [show ((i : Int) + 1) = ((i + 1 : Nat) : Int) by omega, this, List.drop_eq_getElem_cons hil]
  simp only [List.map_cons, List.reverse_cons, List.append_assoc, List.cons_append, List.nil_append, List.singleton_append]
theorem has_inb {M : List Nd} (i : Int) : (ju M i).2 = inb i M.length := by
 unfold ju yR inb
 split <;> simp_all
theorem ahead_some {K : Nat} {M : List Nd} {l : List Hyp} {x : PTerm} {ids : List Int} (hK : 66562 ≤ K) (hn : nmT x) (hb : (ids.length + l.length) * 8 ≤ 140737488355328) :
  types_ahead.f K (some M) l x ids = some (if (ids.all fun i => inb i M.length) && hypsOk M l then (scS l, checkT x) else ([], 31)) := by
 unfold types_ahead.f
 have h1 := ahead_loop l l.length 0 ids [] (by omega) (by omega)
 have e0 : (((l.length : Nat) : Int) - 0).toNat = l.length := by omega
 simp only [formula_Table_Not_neg.f, Option.bind_some, show decide ((31 : Int) = 1) = false from rfl, Bool.false_eq_true, if_false, e0]
 rw [show (0 : Int) = ((0 : Nat) : Int) from rfl, h1]
 simp only [Option.bind_some, List.drop_zero, List.append_nil]
 generalize hids : ids ++ l.map (·.form) = js
 have h2 := forN_find (b := fun i s => types_ahead.b1 (some M) (js, (l.map fun h => (h.name, h.form)).reverse) i) (p := fun k => !inb (js.getD k 0) M.length) (r := fun _ => (([] : List (ByteArray × Int)), (31 : Int))) js.length 0 () (by
  intro k _ hk
  unfold types_ahead.b1 at_
  simp only [formula_Table_Node.f, Option.map_some, Option.bind_some, Int.toNat_natCast, has_inb]
  cases inb (js.getD k 0) M.length <;> rfl)
 have e1 : (((js.length : Nat) : Int) - ((0 : Nat) : Int)).toNat = js.length := by omega
 rw [e1, h2]
 have h3 : ((ids.all fun i => inb i M.length) && hypsOk M l) = !((List.range' 0 js.length).find? fun k => !inb (js.getD k 0) M.length).isSome := by
  have h4 : ((ids.all fun i => inb i M.length) && hypsOk M l) = js.all fun i => inb i M.length := by
   rw [← hids, List.all_append, hypsOk, List.all_map]; rfl
  rw [h4, ← any_find, Bool.eq_iff_iff]
  simp only [List.all_eq_true, Bool.not_eq_true', List.any_eq_false, Bool.not_eq_true, Bool.not_eq_false', List.mem_range'_1]
  constructor
  ·intro hh k hk
   have hk' : k < js.length := by omega
   simp only [List.getD_eq_getElem?_getD, List.getElem?_eq_getElem hk', Option.getD_some]
   simpa using hh _ (List.getElem_mem hk')
  ·intro hh x hx
   obtain ⟨k, hk, rfl⟩ := List.getElem_of_mem hx
   have := hh k ⟨by omega, by omega⟩
   simp only [List.getD_eq_getElem?_getD, List.getElem?_eq_getElem hk, Option.getD_some] at this
   simpa using this
 rw [h3]
 cases (List.range' 0 js.length).find? fun k => !inb (js.getD k 0) M.length with
 | none => simp [aft, Check_some hK hn, scS]
 | some k => simp [aft]
def whereS (M : List Nd) (l : List Hyp) (x : PTerm) (id : Int) : List Int × Int := if inb id M.length && hypsOk M l then (if checkT x ≠ 0 then ([], checkT x) else ((tyS M (depT x) x (scS l) (some id)).way, (tyS M (depT x) x (scS l) (some id)).code)) else ([], 31)
theorem checkT_ok {x : PTerm} (h : ¬ checkT x ≠ 0) : sizeT x ≤ 65536 ∧ depT x ≤ 1024 ∧ rightT x = true := by
 unfold checkT at h
 split at h
 ·simp at h
 ·split at h
  ·rename_i h1 h2; exact ⟨by omega, by omega, h2⟩
  ·simp at h
theorem code_err (t : TR) : types_code.f (err t) = some (t.way, t.code) := by
 cases t <;> simp [types_code.f, err, TR.way, TR.code, slices_Reverse_int_int.f]
theorem cd_pos {t : TR} (h : Cd t) : (∀ f, t ≠ .ok f) → t.code ≠ 0 := by
 cases t with
 | ok f => intro q; exact absurd rfl (q f)
 | no c w => intro _ q; simp only [TR.code] at q; subst q; simp [Cd] at h
theorem Where_some {K : Nat} {M : List Nd} {l : List Hyp} {x : PTerm} {id : Int} (hM : Wf M) (hK : 66562 ≤ K) (hn : nmT x) (hb : (1 + l.length) * 8 ≤ 140737488355328) : types_Where.f K (some M) l x id = some (whereS M l x id) := by
 unfold types_Where.f whereS
 rw [ahead_some hK hn (by simpa using hb)]
 simp only [List.all_cons, List.all_nil, Bool.and_true, Option.bind_some]
 by_cases hl : (inb id M.length && hypsOk M l) = true
 ·simp only [hl, if_true]
  rw [Bool.and_eq_true] at hl
  by_cases hc : checkT x ≠ 0
  ·simp [hc]
  ·obtain ⟨h1, h2, h3⟩ := checkT_ok hc
   have e1 := (tc_prog hM (depT x) (by omega) x h3 (Nat.le_refl _)).2 (scS l) (scS_ok hl.2) id hl.1 K (by omega)
   simp only [hc, decide_false, Bool.false_eq_true, if_false, e1, Option.bind_some, code_err]
 ·simp [hl]
theorem CheckF_some {K : Nat} {M : List Nd} {l : List Hyp} {x : PTerm} {id : Int} (hM : Wf M) (hK : 66562 ≤ K) (hn : nmT x) (hb : (1 + l.length) * 8 ≤ 140737488355328) : types_Check.f K (some M) l x id = some (whereS M l x id).2 := by
 unfold types_Check.f
 rw [Where_some hM hK hn hb]; rfl
theorem heads13 : law13_heads.f 70000 = some true := by decide +kernel
end Go.Proofs.YtjebgcoknpcadaaGreatDoor
end
section
namespace Go.Proofs.YtjebgcoknpcadaaGreatDoor
open Gw
def ref09_to.f (a0 : Sq) (a1 : Int) : Option Sq :=
 some ({ a0 with goal := a1 })
def ref09_with.f (a0 : Sq) (a1 : Int) (a2 : Int) : Option Sq :=
 (ref05_With.f a0.left a1).bind fun r5 => (ref05_With.f r5 a2).bind fun r8 => some ({ a0 with left := r8 })
def ref03_T_Two.f (a0 : Tb) (a1 : Int) (a2 : Int) (a3 : Int) : Option (Tb × Int × Int) :=
 (ref03_T_Put.f a0 ({ Nd.z with kind := a1, l := a2, r := a3 })).bind fun r1 => some (r1.1, r1.2.1, r1.2.2)
def ref03_T_Imp.f (a0 : Tb) (a1 : Int) (a2 : Int) : Option (Tb × Int × Int) :=
 (ref03_T_Two.f a0 5 a1 a2).bind fun r1 => some (r1.1, r1.2.1, r1.2.2)
def ref03_T_Cut.f (a0 : Tb) (a1 : Int) : Option (Tb × Int) :=
 chk a0.isSome (if (decide (a1 < 0)) || (decide (((a0.getD []).length : Int) < a1)) then some ((some (a0.getD [])), 2) else chk (decide (0 ≤ a1 ∧ a1 ≤ ((a0.getD []).length : Int))) (some ((some ((a0.getD []).take (a1).toNat)), 0)))
def ref09_imps.f (a0 : Tb) (a1 : Int) (a2 : Int) (a3 : Int) (a4 : Int) : Option (Tb × Int × Int × Int) :=
 chk a0.isSome ((ref03_T_Imp.f (some (a0.getD [])) a1 a2).bind fun r5 => if decide (r5.2.2 ≠ 0) then some (r5.1, 0, 0, r5.2.2) else (if decide (a3 < 0) then some ((r5.2.1, r5.1)) else some ((a3, r5.1))).bind fun (o9 : Int × Tb) => (if decide (a4 < 0) then some ((r5.2.1, o9.2)) else some ((a4, o9.2))).bind fun (o13 : Int × Tb) => (ref03_T_Imp.f o13.2 o9.1 o13.1).bind fun r17 => if decide (r17.2.2 ≠ 0) then (ref03_T_Cut.f r17.1 ((a0.getD []).length : Int)).bind fun r21 => some (r21.1, 0, 0, r17.2.2) else some (r17.1, r5.2.1, r17.2.1, 0))
def ref09_Premises.f (a0 : Tb) (a1 : Sq) (a2 : Int) (a3 : Int) : Option (Tb × List Sq × Int) :=
 (ref09_Fits.f a0 a1 a2 a3).bind fun r3 => if !r3 then some (a0, ([] : List Sq), 90) else chk a0.isSome (chk (inb a3 (a0.getD []).length) ((ref05_Drop.f a1.left a3).bind fun r18 => (if decide (a2 = 1) then some ((decide (a2 = 1), (some (a0.getD [])))) else some ((decide (a2 = 2), (some (a0.getD []))))).bind fun (o22 : Bool × Tb) => if o22.1 then some (o22.2, ([] : List Sq), 0) else if decide (a2 = 3) then (ref09_with.f ({ a1 with left := r18 }) ((at_ Nd.z (a0.getD []) a3).l) ((at_ Nd.z (a0.getD []) a3).r)).bind fun r28 => some (o22.2, [r28], 0) else if decide (a2 = 4) then (ref09_with.f ({ a1 with left := r18 }) ((at_ Nd.z (a0.getD []) a3).r) ((at_ Nd.z (a0.getD []) a3).r)).bind fun r35 => some (o22.2, [r35], 0) else if decide (a2 = 5) then some (o22.2, [{ a1 with left := r18 }], 0) else if decide (a2 = 6) then chk o22.2.isSome (chk (inb ((at_ Nd.z (a0.getD []) a3).l) (o22.2.getD []).length) ((ref09_imps.f (some (o22.2.getD [])) ((at_ Nd.z (o22.2.getD []) ((at_ Nd.z (a0.getD []) a3).l)).r) ((at_ Nd.z (a0.getD []) a3).r) ((at_ Nd.z (o22.2.getD []) ((at_ Nd.z (a0.getD []) a3).l)).l) (-1)).bind fun r55 => if decide (r55.2.2.2 ≠ 0) then some (r55.1, ([] : List Sq), r55.2.2.2) else (ref09_with.f ({ a1 with left := r18 }) r55.2.2.1 r55.2.2.1).bind fun r59 => some (r55.1, [r59], 0))) else if decide (a2 = 7) then chk o22.2.isSome (chk (inb ((at_ Nd.z (a0.getD []) a3).l) (o22.2.getD []).length) ((ref09_imps.f (some (o22.2.getD [])) ((at_ Nd.z (o22.2.getD []) ((at_ Nd.z (a0.getD []) a3).l)).l) ((at_ Nd.z (a0.getD []) a3).r) ((at_ Nd.z (o22.2.getD []) ((at_ Nd.z (a0.getD []) a3).l)).r) ((at_ Nd.z (a0.getD []) a3).r)).bind fun r75 => if decide (r75.2.2.2 ≠ 0) then some (r75.1, ([] : List Sq), r75.2.2.2) else (ref09_with.f ({ a1 with left := r18 }) r75.2.1 r75.2.2.1).bind fun r79 => some (r75.1, [r79], 0))) else if decide (a2 = 8) then (ref09_with.f a1 ((at_ Nd.z (a0.getD []) a3).l) ((at_ Nd.z (a0.getD []) a3).l)).bind fun r86 => (ref09_to.f r86 ((at_ Nd.z (a0.getD []) a3).r)).bind fun r88 => some (o22.2, [r88], 0) else if decide (a2 = 9) then (ref09_to.f a1 ((at_ Nd.z (a0.getD []) a3).l)).bind fun r95 => (ref09_to.f a1 ((at_ Nd.z (a0.getD []) a3).r)).bind fun r97 => some (o22.2, [r95, r97], 0) else if decide (a2 = 10) then (ref09_with.f ({ a1 with left := r18 }) ((at_ Nd.z (a0.getD []) a3).l) ((at_ Nd.z (a0.getD []) a3).l)).bind fun r104 => (ref09_with.f ({ a1 with left := r18 }) ((at_ Nd.z (a0.getD []) a3).r) ((at_ Nd.z (a0.getD []) a3).r)).bind fun r106 => some (o22.2, [r104, r106], 0) else if decide (a2 = 11) then (ref09_to.f a1 ((at_ Nd.z (a0.getD []) a3).l)).bind fun r113 => some (o22.2, [r113], 0) else if decide (a2 = 12) then (ref09_to.f a1 ((at_ Nd.z (a0.getD []) a3).r)).bind fun r120 => some (o22.2, [r120], 0) else chk o22.2.isSome (chk (inb ((at_ Nd.z (a0.getD []) a3).l) (o22.2.getD []).length) ((ref03_T_Imp.f (some (o22.2.getD [])) ((at_ Nd.z (o22.2.getD []) ((at_ Nd.z (a0.getD []) a3).l)).r) ((at_ Nd.z (a0.getD []) a3).r)).bind fun r135 => if decide (r135.2.2 ≠ 0) then some (r135.1, ([] : List Sq), r135.2.2) else (ref09_with.f ({ a1 with left := r18 }) r135.2.1 r135.2.1).bind fun r139 => (ref09_to.f r139 ((at_ Nd.z (a0.getD []) a3).l)).bind fun r140 => (ref09_with.f ({ a1 with left := r18 }) ((at_ Nd.z (a0.getD []) a3).r) ((at_ Nd.z (a0.getD []) a3).r)).bind fun r142 => some (r135.1, [r140, r142], 0)))))
end Go.Proofs.YtjebgcoknpcadaaGreatDoor
end
section
namespace Go.Proofs.YtjebgcoknpcadaaGreatDoor
open Gw
end Go.Proofs.YtjebgcoknpcadaaGreatDoor
end
section
namespace Go.Proofs.YtjebgcoknpcadaaGreatDoor
open Gw
theorem jG {b : Bits} (n : Int) : (b.add n).okB = true := Bits.ok_okB (Bits.add_ok _ _)
theorem xq {b : Bits} (n : Int) : (b.del n).okB = true := Bits.ok_okB (Bits.del_ok _ _)
theorem union_one {b : Bits} {x : Int} (hx : 0 ≤ x ∧ x < 1024) : b.union (Bits.ofs [x]).1 = b.add x := by
 refine Bits.eq_of_has (Bits.union_ok _ _) (Bits.add_ok _ _) fun m hm => ?_
 rw [Bits.union_has, Bits.add_has _ _ _ hx]
 unfold Bits.ofs
 rw [if_pos (by simpa using hx), show Bits.ofl [x] = Bits.z.add x from rfl, Bits.add_has _ _ _ hx, Bits.z_has, Bool.or_false, Bool.or_comm]
theorem union_two {b : Bits} {x y : Int} (hx : 0 ≤ x ∧ x < 1024) (hy : 0 ≤ y ∧ y < 1024) : b.union (Bits.ofs [x, y]).1 = (b.add x).add y := by
 refine Bits.eq_of_has (Bits.union_ok _ _) (Bits.add_ok _ _) fun m hm => ?_
 rw [Bits.union_has, Bits.add_has _ _ _ hy, Bits.add_has _ _ _ hx]
 unfold Bits.ofs
 rw [if_pos (by intro n hn; rcases List.mem_cons.1 hn with rfl | hn; exact hx; rw [List.mem_singleton.1 hn]; exact hy), show Bits.ofl [x, y] = (Bits.z.add x).add y from rfl, Bits.add_has _ _ _ hy, Bits.add_has _ _ _ hx, Bits.z_has, Bool.or_false]
 cases b.has m <;> simp
theorem add_add {b : Bits} {x : Int} (hx : 0 ≤ x ∧ x < 1024) : (b.add x).add x = b.add x := by
 refine Bits.eq_of_has (Bits.add_ok _ _) (Bits.add_ok _ _) fun m hm => ?_
 rw [Bits.add_has _ _ _ hx, Bits.add_has _ _ _ hx]
 cases b.has m <;> simp
theorem withP1 {s : Sq} {x : Int} (hb : s.left.okB = true) (hx : 0 ≤ x ∧ x < 1024) : rule_with.f s [x] = some { s with left := s.left.add x } := by
 unfold rule_with.f bits_Of.f bits_Union.f
 simp only [Option.bind_some]
 rw [chk, if_pos (by rw [hb, Bits.ok_okB (Bits.ofs_ok _)]; rfl), union_one hx]; rfl
theorem withP2 {s : Sq} {x y : Int} (hb : s.left.okB = true) (hx : 0 ≤ x ∧ x < 1024) (hy : 0 ≤ y ∧ y < 1024) : rule_with.f s [x, y] = some { s with left := (s.left.add x).add y } := by
 unfold rule_with.f bits_Of.f bits_Union.f
 simp only [Option.bind_some]
 rw [chk, if_pos (by rw [hb, Bits.ok_okB (Bits.ofs_ok _)]; rfl), union_two hx hy]; rfl
theorem withD2 {s : Sq} {x y : Int} (hb : s.left.okB = true) (hx : 0 ≤ x ∧ x < 1024) (hy : 0 ≤ y ∧ y < 1024) : ref09_with.f s x y = some { s with left := (s.left.add x).add y } := by
 have h1 : ref05_With.f s.left x = some (s.left.add x) := by
  unfold ref05_With.f
  rw [chk, if_pos]
  rw [hb, decide_eq_true hx.1, decide_eq_true hx.2]; rfl
 have h2 : ref05_With.f (s.left.add x) y = some ((s.left.add x).add y) := by
  unfold ref05_With.f
  rw [chk, if_pos]
  rw [jG, decide_eq_true hy.1, decide_eq_true hy.2]; rfl
 unfold ref09_with.f
 rw [h1, Option.bind_some, h2, Option.bind_some]
theorem withD1 {s : Sq} {x : Int} (hb : s.left.okB = true) (hx : 0 ≤ x ∧ x < 1024) : ref09_with.f s x x = some { s with left := s.left.add x } := by
 rw [withD2 hb hx hx, add_add hx]
theorem vg {B : Bits} {g x : Int} (hb : B.okB = true) (hx : 0 ≤ x ∧ x < 1024) : rule_with.f ⟨B, g⟩ [x] = some ⟨B.add x, g⟩ := withP1 (s := ⟨B, g⟩) hb hx
theorem withP2m {B : Bits} {g x y : Int} (hb : B.okB = true) (hx : 0 ≤ x ∧ x < 1024) (hy : 0 ≤ y ∧ y < 1024) : rule_with.f ⟨B, g⟩ [x, y] = some ⟨(B.add x).add y, g⟩ := withP2 (s := ⟨B, g⟩) hb hx hy
theorem withD1m {B : Bits} {g x : Int} (hb : B.okB = true) (hx : 0 ≤ x ∧ x < 1024) : ref09_with.f ⟨B, g⟩ x x = some ⟨B.add x, g⟩ := withD1 (s := ⟨B, g⟩) hb hx
theorem withD2m {B : Bits} {g x y : Int} (hb : B.okB = true) (hx : 0 ≤ x ∧ x < 1024) (hy : 0 ≤ y ∧ y < 1024) : ref09_with.f ⟨B, g⟩ x y = some ⟨(B.add x).add y, g⟩ := withD2 (s := ⟨B, g⟩) hb hx hy
theorem both1 {B : Bits} {g x : Int} (hb : B.okB = true) (hx : 0 ≤ x ∧ x < 1024) : ∃ q, rule_with.f ⟨B, g⟩ [x] = some q ∧ ref09_with.f ⟨B, g⟩ x x = some q := ⟨_, vg hb hx, withD1m hb hx⟩
theorem both2 {B : Bits} {g x y : Int} (hb : B.okB = true) (hx : 0 ≤ x ∧ x < 1024) (hy : 0 ≤ y ∧ y < 1024) : ∃ q, rule_with.f ⟨B, g⟩ [x, y] = some q ∧ ref09_with.f ⟨B, g⟩ x y = some q := ⟨_, withP2m hb hx hy, withD2m hb hx hy⟩
theorem yi {N : List Nd} {n : Nd} (hN : N.length ≤ 1024) (hd : N.Nodup) : ((putS N n).2.2 ≠ 0 → (putS N n).1 = N) ∧ ((putS N n).2.2 = 0 → 0 ≤ (putS N n).2.1 ∧ (putS N n).2.1 < 1024) ∧ (putS N n).1.take N.length = N ∧ (putS N n).1.Nodup ∧ (putS N n).1.length ≤ 1024 ∧ N.length ≤ (putS N n).1.length := by
 by_cases hf : yU N n = 0
 ·cases hk : N.idxOf? n with
  | some k =>
   rw [put_old hf hk]
   have := (List.idxOf?_eq_some_iff.1 hk).1
   exact ⟨fun h => absurd rfl h, fun _ => ⟨by simp, by simp; omega⟩, by simp, hd, hN, Nat.le_refl _⟩
  | none =>
   by_cases hl : 1024 ≤ N.length
   ·rw [zbi hf hk hl]
    exact ⟨fun _ => rfl, fun h => absurd h (by simp), by simp, hd, hN, Nat.le_refl _⟩
   ·rw [put_new hf hk hl]
    refine ⟨fun h => absurd rfl h, fun _ => ⟨by simp, by simp; omega⟩, by simp, ?_, by simp; omega, by simp⟩
    rw [List.nodup_append]
    refine ⟨hd, by simp, fun a ha b hb e => ?_⟩
    rw [List.mem_singleton.1 hb] at e
    subst e
    have := List.idxOf?_eq_none_iff.1 hk
    exact this ha
 ·rw [put_bad hf]
  exact ⟨fun _ => rfl, fun h => absurd h hf, by simp, hd, hN, Nat.le_refl _⟩
theorem impP (N : List Nd) (a b : Int) : formula_Table_Imp.f (some N) a b = some (some (putS N (impN a b)).1, (putS N (impN a b)).2.1, (putS N (impN a b)).2.2) := rfl
theorem impD {N : List Nd} (hN : N.length ≤ 1024) (a b : Int) : ref03_T_Imp.f (some N) a b = some (some (putS N (impN a b)).1, (putS N (impN a b)).2.1, (putS N (impN a b)).2.2) := by
 unfold ref03_T_Imp.f ref03_T_Two.f
 rw [docPut hN (by show (ByteArray.empty).size < _; decide)]
 rfl
theorem cutP {N M : List Nd} (h1 : N.take M.length = M) (h2 : N.Nodup) (h3 : M.length ≤ N.length) : formula_Table_Cut.f (some N) (M.length : Int) = some (some M, 0) := by
 unfold formula_Table_Cut.f
 have h4 : ¬ (M.length : Int) < 0 := by omega
 have h5 : ¬ (N.length : Int) < (M.length : Int) := by omega
 simp [h4, h5, chk, h2, h1]
theorem cutD {N M : List Nd} (h1 : N.take M.length = M) (h3 : M.length ≤ N.length) : ref03_T_Cut.f (some N) (M.length : Int) = some (some M, 0) := by
 unfold ref03_T_Cut.f
 have h4 : ¬ (M.length : Int) < 0 := by omega
 have h5 : ¬ (N.length : Int) < (M.length : Int) := by omega
 have h6 : 0 ≤ (M.length : Int) ∧ (M.length : Int) ≤ (N.length : Int) := by omega
 simp [h4, h5, chk, h6, h1]
def Agree (M : List Nd) (s : Sq) (r i : Int) : Prop := ∃ (M' : List Nd) (L : List Sq) (e : Int), rule_Premises.f (some M) s r i = some (some M', L, e) ∧ ref09_Premises.f (some M) s r i = some (some M', L, e)
theorem xf {M : List Nd} {i : Int} (hM : M.length ≤ 1024) (h : inb i M.length = true) : 0 ≤ i ∧ i < 1024 := by have := xv h; omega
theorem on_cases {M : List Nd} {b : Bits} {i r : Int} (h : onV M b i = r) (h0 : r ≠ 0) : (r = 1 ∧ (nd M i).kind = 2) ∨ (r = 3 ∧ (nd M i).kind = 3) ∨ (r = 10 ∧ (nd M i).kind = 4) ∨ ((nd M i).kind = 5 ∧ ((r = 4 ∧ (nd M (nd M i).l).kind = 1) ∨ (r = 5 ∧ (nd M (nd M i).l).kind = 2) ∨ (r = 6 ∧ (nd M (nd M i).l).kind = 3) ∨ (r = 7 ∧ (nd M (nd M i).l).kind = 4) ∨ (r = 13 ∧ (nd M (nd M i).l).kind = 5))) := by
 by_cases k2 : (nd M i).kind = 2
 ·rw [onV, if_pos k2] at h; exact .inl ⟨h.symm, k2⟩
 by_cases k3 : (nd M i).kind = 3
 ·rw [onV, if_neg k2, if_pos k3] at h; exact .inr (.inl ⟨h.symm, k3⟩)
 by_cases k4 : (nd M i).kind = 4
 ·rw [onV, if_neg k2, if_neg k3, if_pos k4] at h; exact .inr (.inr (.inl ⟨h.symm, k4⟩))
 by_cases k5 : (nd M i).kind = 5
 ·rw [onV, if_neg k2, if_neg k3, if_neg k4, if_pos k5] at h
  refine .inr (.inr (.inr ⟨k5, ?_⟩))
  by_cases c1 : (nd M (nd M i).l).kind = 1
  ·rw [if_pos c1] at h
   split at h
   ·exact .inl ⟨h.symm, c1⟩
   ·exact absurd h.symm h0
  rw [if_neg c1] at h
  by_cases c2 : (nd M (nd M i).l).kind = 2
  ·rw [if_pos c2] at h; exact .inr (.inl ⟨h.symm, c2⟩)
  rw [if_neg c2] at h
  by_cases c3 : (nd M (nd M i).l).kind = 3
  ·rw [if_pos c3] at h; exact .inr (.inr (.inl ⟨h.symm, c3⟩))
  rw [if_neg c3] at h
  by_cases c4 : (nd M (nd M i).l).kind = 4
  ·rw [if_pos c4] at h; exact .inr (.inr (.inr (.inl ⟨h.symm, c4⟩)))
  rw [if_neg c4] at h
  by_cases c5 : (nd M (nd M i).l).kind = 5
  ·rw [if_pos c5] at h; exact .inr (.inr (.inr (.inr ⟨h.symm, c5⟩)))
  rw [if_neg c5] at h
  exact absurd h.symm h0
 ·rw [onV, if_neg k2, if_neg k3, if_neg k4, if_neg k5] at h; exact absurd h.symm h0
theorem zah {M : List Nd} {s : Sq} {r i : Int} (h : yG M s r i = true) : inb i M.length = true ∧ (r = 2 ∨ (r = 8 ∧ (nd M i).kind = 5) ∨ (r = 9 ∧ (nd M i).kind = 3) ∨ ((r = 11 ∨ r = 12) ∧ (nd M i).kind = 4) ∨ (r = 1 ∧ (nd M i).kind = 2) ∨ (r = 3 ∧ (nd M i).kind = 3) ∨ (r = 10 ∧ (nd M i).kind = 4) ∨ ((nd M i).kind = 5 ∧ ((r = 4 ∧ (nd M (nd M i).l).kind = 1) ∨ (r = 5 ∧ (nd M (nd M i).l).kind = 2) ∨ (r = 6 ∧ (nd M (nd M i).l).kind = 3) ∨ (r = 7 ∧ (nd M (nd M i).l).kind = 4) ∨ (r = 13 ∧ (nd M (nd M i).l).kind = 5)))) := by
 unfold yG at h
 cases hi : inb i M.length with
 | false => simp [hi] at h
 | true =>
  refine ⟨rfl, ?_⟩
  simp only [hi, Bool.true_eq_false, if_false] at h
  split at h
  ·exact .inl ‹_›
  split at h
  ·simp only [Bool.and_eq_true, decide_eq_true_eq] at h; exact .inr (.inl ⟨‹_›, h.2⟩)
  split at h
  ·simp only [Bool.and_eq_true, decide_eq_true_eq] at h; exact .inr (.inr (.inl ⟨‹_›, h.2⟩))
  split at h
  ·simp only [Bool.and_eq_true, decide_eq_true_eq] at h; exact .inr (.inr (.inr (.inl ⟨‹_›, h.2⟩)))
  ·simp only [Bool.and_eq_true, decide_eq_true_eq, ne_eq] at h
   exact .inr (.inr (.inr (.inr (on_cases h.2 h.1.1))))
theorem prem_2 {M : List Nd} {s : Sq} {i : Int} (hw : Wf M) (hl : xJ M s = true) (hb : s.left.okB = true) (hf : yG M s 2 i = true) (hi : inb i M.length = true) : Agree M s 2 i := by
 have h := vq hb hl
 have hd := hw.nodup
 unfold Agree
 have hP : ∀ M' L, rule_premises.f (some M) s 2 i = some (some M', L, 0) → rule_Premises.f (some M) s 2 i = some (some M', L, 0) := by
  intro M' L e
  simp [rule_Premises.f, xu hb, hl, xA hb, hf, formula_Table_Len.f, e]
 have hE : ∀ N L e, e ≠ 0 → rule_premises.f (some M) s 2 i = some (some N, L, e) → N.take M.length = M → N.Nodup → M.length ≤ N.length → rule_Premises.f (some M) s 2 i = some (some M, [], e) := by
  intro N L e he e1 h1 h2 h3
  simp [rule_Premises.f, xu hb, hl, xA hb, hf, formula_Table_Len.f, e1, he, cutP h1 h2 h3]
 have hbd : ({ s with left := s.left.del i } : Sq).left.okB = true := xq i
 have k345 : (nd M i).kind = 3 ∨ (nd M i).kind = 4 ∨ (nd M i).kind = 5 → (0 ≤ (nd M i).l ∧ (nd M i).l < 1024) ∧ (0 ≤ (nd M i).r ∧ (nd M i).r < 1024) := fun k => ⟨xf hw.len (hw.left hi k), xf hw.len (hw.right hi k)⟩
 exact ⟨M, [], 0, hP _ _ (by simp -implicitDefEqProofs [rule_premises.f, zI, bits_Drop.f, chk, hb]), by simp -implicitDefEqProofs [ref09_Premises.f, vd hw hb, hf, chk, hi, vr hi, ref05_Drop.f, hb]⟩
theorem prem_8 {M : List Nd} {s : Sq} {i : Int} (hw : Wf M) (hl : xJ M s = true) (hb : s.left.okB = true) (hf : yG M s 8 i = true) (hi : inb i M.length = true) (k : (nd M i).kind = 5) : Agree M s 8 i := by
 have h := vq hb hl
 have hd := hw.nodup
 unfold Agree
 have hP : ∀ M' L, rule_premises.f (some M) s 8 i = some (some M', L, 0) → rule_Premises.f (some M) s 8 i = some (some M', L, 0) := by
  intro M' L e
  simp [rule_Premises.f, xu hb, hl, xA hb, hf, formula_Table_Len.f, e]
 have hE : ∀ N L e, e ≠ 0 → rule_premises.f (some M) s 8 i = some (some N, L, e) → N.take M.length = M → N.Nodup → M.length ≤ N.length → rule_Premises.f (some M) s 8 i = some (some M, [], e) := by
  intro N L e he e1 h1 h2 h3
  simp [rule_Premises.f, xu hb, hl, xA hb, hf, formula_Table_Len.f, e1, he, cutP h1 h2 h3]
 have hbd : ({ s with left := s.left.del i } : Sq).left.okB = true := xq i
 have k345 : (nd M i).kind = 3 ∨ (nd M i).kind = 4 ∨ (nd M i).kind = 5 → (0 ≤ (nd M i).l ∧ (nd M i).l < 1024) ∧ (0 ≤ (nd M i).r ∧ (nd M i).r < 1024) := fun k => ⟨xf hw.len (hw.left hi k), xf hw.len (hw.right hi k)⟩
 obtain ⟨hx, hy⟩ := k345 (.inr (.inr k))
 exact ⟨M, _, 0, hP _ _ (by simp -implicitDefEqProofs [rule_premises.f, zI, bits_Drop.f, chk, hb, withP1 hb hx, rule_to.f]; rfl), by simp -implicitDefEqProofs [ref09_Premises.f, vd hw hb, hf, chk, hi, vr hi, ref05_Drop.f, hb, withD1 hb hx, ref09_to.f]⟩
theorem prem_9 {M : List Nd} {s : Sq} {i : Int} (hw : Wf M) (hl : xJ M s = true) (hb : s.left.okB = true) (hf : yG M s 9 i = true) (hi : inb i M.length = true) (k : (nd M i).kind = 3) : Agree M s 9 i := by
 have h := vq hb hl
 have hd := hw.nodup
 unfold Agree
 have hP : ∀ M' L, rule_premises.f (some M) s 9 i = some (some M', L, 0) → rule_Premises.f (some M) s 9 i = some (some M', L, 0) := by
  intro M' L e
  simp [rule_Premises.f, xu hb, hl, xA hb, hf, formula_Table_Len.f, e]
 have hE : ∀ N L e, e ≠ 0 → rule_premises.f (some M) s 9 i = some (some N, L, e) → N.take M.length = M → N.Nodup → M.length ≤ N.length → rule_Premises.f (some M) s 9 i = some (some M, [], e) := by
  intro N L e he e1 h1 h2 h3
  simp [rule_Premises.f, xu hb, hl, xA hb, hf, formula_Table_Len.f, e1, he, cutP h1 h2 h3]
 have hbd : ({ s with left := s.left.del i } : Sq).left.okB = true := xq i
 have k345 : (nd M i).kind = 3 ∨ (nd M i).kind = 4 ∨ (nd M i).kind = 5 → (0 ≤ (nd M i).l ∧ (nd M i).l < 1024) ∧ (0 ≤ (nd M i).r ∧ (nd M i).r < 1024) := fun k => ⟨xf hw.len (hw.left hi k), xf hw.len (hw.right hi k)⟩
 exact ⟨M, _, 0, hP _ _ (by simp -implicitDefEqProofs [rule_premises.f, zI, bits_Drop.f, chk, hb, rule_to.f]; rfl), by simp -implicitDefEqProofs [ref09_Premises.f, vd hw hb, hf, chk, hi, vr hi, ref05_Drop.f, hb, ref09_to.f]⟩
theorem prem_11 {M : List Nd} {s : Sq} {i : Int} (hw : Wf M) (hl : xJ M s = true) (hb : s.left.okB = true) (hf : yG M s 11 i = true) (hi : inb i M.length = true) (k : (nd M i).kind = 4) : Agree M s 11 i := by
 have h := vq hb hl
 have hd := hw.nodup
 unfold Agree
 have hP : ∀ M' L, rule_premises.f (some M) s 11 i = some (some M', L, 0) → rule_Premises.f (some M) s 11 i = some (some M', L, 0) := by
  intro M' L e
  simp [rule_Premises.f, xu hb, hl, xA hb, hf, formula_Table_Len.f, e]
 have hE : ∀ N L e, e ≠ 0 → rule_premises.f (some M) s 11 i = some (some N, L, e) → N.take M.length = M → N.Nodup → M.length ≤ N.length → rule_Premises.f (some M) s 11 i = some (some M, [], e) := by
  intro N L e he e1 h1 h2 h3
  simp [rule_Premises.f, xu hb, hl, xA hb, hf, formula_Table_Len.f, e1, he, cutP h1 h2 h3]
 have hbd : ({ s with left := s.left.del i } : Sq).left.okB = true := xq i
 have k345 : (nd M i).kind = 3 ∨ (nd M i).kind = 4 ∨ (nd M i).kind = 5 → (0 ≤ (nd M i).l ∧ (nd M i).l < 1024) ∧ (0 ≤ (nd M i).r ∧ (nd M i).r < 1024) := fun k => ⟨xf hw.len (hw.left hi k), xf hw.len (hw.right hi k)⟩
 exact ⟨M, _, 0, hP _ _ (by simp -implicitDefEqProofs [rule_premises.f, zI, bits_Drop.f, chk, hb, rule_to.f]; rfl), by simp -implicitDefEqProofs [ref09_Premises.f, vd hw hb, hf, chk, hi, vr hi, ref05_Drop.f, hb, ref09_to.f]⟩
theorem prem_12 {M : List Nd} {s : Sq} {i : Int} (hw : Wf M) (hl : xJ M s = true) (hb : s.left.okB = true) (hf : yG M s 12 i = true) (hi : inb i M.length = true) (k : (nd M i).kind = 4) : Agree M s 12 i := by
 have h := vq hb hl
 have hd := hw.nodup
 unfold Agree
 have hP : ∀ M' L, rule_premises.f (some M) s 12 i = some (some M', L, 0) → rule_Premises.f (some M) s 12 i = some (some M', L, 0) := by
  intro M' L e
  simp [rule_Premises.f, xu hb, hl, xA hb, hf, formula_Table_Len.f, e]
 have hE : ∀ N L e, e ≠ 0 → rule_premises.f (some M) s 12 i = some (some N, L, e) → N.take M.length = M → N.Nodup → M.length ≤ N.length → rule_Premises.f (some M) s 12 i = some (some M, [], e) := by
  intro N L e he e1 h1 h2 h3
  simp [rule_Premises.f, xu hb, hl, xA hb, hf, formula_Table_Len.f, e1, he, cutP h1 h2 h3]
 have hbd : ({ s with left := s.left.del i } : Sq).left.okB = true := xq i
 have k345 : (nd M i).kind = 3 ∨ (nd M i).kind = 4 ∨ (nd M i).kind = 5 → (0 ≤ (nd M i).l ∧ (nd M i).l < 1024) ∧ (0 ≤ (nd M i).r ∧ (nd M i).r < 1024) := fun k => ⟨xf hw.len (hw.left hi k), xf hw.len (hw.right hi k)⟩
 exact ⟨M, _, 0, hP _ _ (by simp -implicitDefEqProofs [rule_premises.f, zI, bits_Drop.f, chk, hb, rule_to.f]; rfl), by simp -implicitDefEqProofs [ref09_Premises.f, vd hw hb, hf, chk, hi, vr hi, ref05_Drop.f, hb, ref09_to.f]⟩
theorem prem_1 {M : List Nd} {s : Sq} {i : Int} (hw : Wf M) (hl : xJ M s = true) (hb : s.left.okB = true) (hf : yG M s 1 i = true) (hi : inb i M.length = true) (k : (nd M i).kind = 2) : Agree M s 1 i := by
 have h := vq hb hl
 have hd := hw.nodup
 unfold Agree
 have hP : ∀ M' L, rule_premises.f (some M) s 1 i = some (some M', L, 0) → rule_Premises.f (some M) s 1 i = some (some M', L, 0) := by
  intro M' L e
  simp [rule_Premises.f, xu hb, hl, xA hb, hf, formula_Table_Len.f, e]
 have hE : ∀ N L e, e ≠ 0 → rule_premises.f (some M) s 1 i = some (some N, L, e) → N.take M.length = M → N.Nodup → M.length ≤ N.length → rule_Premises.f (some M) s 1 i = some (some M, [], e) := by
  intro N L e he e1 h1 h2 h3
  simp [rule_Premises.f, xu hb, hl, xA hb, hf, formula_Table_Len.f, e1, he, cutP h1 h2 h3]
 have hbd : ({ s with left := s.left.del i } : Sq).left.okB = true := xq i
 have k345 : (nd M i).kind = 3 ∨ (nd M i).kind = 4 ∨ (nd M i).kind = 5 → (0 ≤ (nd M i).l ∧ (nd M i).l < 1024) ∧ (0 ≤ (nd M i).r ∧ (nd M i).r < 1024) := fun k => ⟨xf hw.len (hw.left hi k), xf hw.len (hw.right hi k)⟩
 exact ⟨M, [], 0, hP _ _ (by simp -implicitDefEqProofs [rule_premises.f, zI, bits_Drop.f, chk, hb]), by simp -implicitDefEqProofs [ref09_Premises.f, vd hw hb, hf, chk, hi, vr hi, ref05_Drop.f, hb]⟩
theorem prem_3 {M : List Nd} {s : Sq} {i : Int} (hw : Wf M) (hl : xJ M s = true) (hb : s.left.okB = true) (hf : yG M s 3 i = true) (hi : inb i M.length = true) (k : (nd M i).kind = 3) : Agree M s 3 i := by
 have h := vq hb hl
 have hd := hw.nodup
 unfold Agree
 have hP : ∀ M' L, rule_premises.f (some M) s 3 i = some (some M', L, 0) → rule_Premises.f (some M) s 3 i = some (some M', L, 0) := by
  intro M' L e
  simp [rule_Premises.f, xu hb, hl, xA hb, hf, formula_Table_Len.f, e]
 have hE : ∀ N L e, e ≠ 0 → rule_premises.f (some M) s 3 i = some (some N, L, e) → N.take M.length = M → N.Nodup → M.length ≤ N.length → rule_Premises.f (some M) s 3 i = some (some M, [], e) := by
  intro N L e he e1 h1 h2 h3
  simp [rule_Premises.f, xu hb, hl, xA hb, hf, formula_Table_Len.f, e1, he, cutP h1 h2 h3]
 have hbd : ({ s with left := s.left.del i } : Sq).left.okB = true := xq i
 have k345 : (nd M i).kind = 3 ∨ (nd M i).kind = 4 ∨ (nd M i).kind = 5 → (0 ≤ (nd M i).l ∧ (nd M i).l < 1024) ∧ (0 ≤ (nd M i).r ∧ (nd M i).r < 1024) := fun k => ⟨xf hw.len (hw.left hi k), xf hw.len (hw.right hi k)⟩
 obtain ⟨hx, hy⟩ := k345 (.inl k)
 obtain ⟨q, p1, p2⟩ := both2 (g := s.goal) (xq (b := s.left) i) hx hy
 exact ⟨M, _, 0, hP _ _ (by simp -implicitDefEqProofs [rule_premises.f, zI, bits_Drop.f, chk, hb, p1]; rfl), by simp -implicitDefEqProofs [ref09_Premises.f, vd hw hb, hf, chk, hi, vr hi, ref05_Drop.f, hb, p2]⟩
theorem prem_10 {M : List Nd} {s : Sq} {i : Int} (hw : Wf M) (hl : xJ M s = true) (hb : s.left.okB = true) (hf : yG M s 10 i = true) (hi : inb i M.length = true) (k : (nd M i).kind = 4) : Agree M s 10 i := by
 have h := vq hb hl
 have hd := hw.nodup
 unfold Agree
 have hP : ∀ M' L, rule_premises.f (some M) s 10 i = some (some M', L, 0) → rule_Premises.f (some M) s 10 i = some (some M', L, 0) := by
  intro M' L e
  simp [rule_Premises.f, xu hb, hl, xA hb, hf, formula_Table_Len.f, e]
 have hE : ∀ N L e, e ≠ 0 → rule_premises.f (some M) s 10 i = some (some N, L, e) → N.take M.length = M → N.Nodup → M.length ≤ N.length → rule_Premises.f (some M) s 10 i = some (some M, [], e) := by
  intro N L e he e1 h1 h2 h3
  simp [rule_Premises.f, xu hb, hl, xA hb, hf, formula_Table_Len.f, e1, he, cutP h1 h2 h3]
 have hbd : ({ s with left := s.left.del i } : Sq).left.okB = true := xq i
 have k345 : (nd M i).kind = 3 ∨ (nd M i).kind = 4 ∨ (nd M i).kind = 5 → (0 ≤ (nd M i).l ∧ (nd M i).l < 1024) ∧ (0 ≤ (nd M i).r ∧ (nd M i).r < 1024) := fun k => ⟨xf hw.len (hw.left hi k), xf hw.len (hw.right hi k)⟩
 obtain ⟨hx, hy⟩ := k345 (.inr (.inl k))
 obtain ⟨q, p1, p2⟩ := both1 (g := s.goal) (xq (b := s.left) i) hx
 obtain ⟨q', p3, p4⟩ := both1 (g := s.goal) (xq (b := s.left) i) hy
 exact ⟨M, _, 0, hP _ _ (by simp -implicitDefEqProofs [rule_premises.f, zI, bits_Drop.f, chk, hb, p1, p3]; rfl), by simp -implicitDefEqProofs [ref09_Premises.f, vd hw hb, hf, chk, hi, vr hi, ref05_Drop.f, hb, p2, p4]⟩
theorem prem_4 {M : List Nd} {s : Sq} {i : Int} (hw : Wf M) (hl : xJ M s = true) (hb : s.left.okB = true) (hf : yG M s 4 i = true) (hi : inb i M.length = true) (k : (nd M i).kind = 5) (c : (nd M (nd M i).l).kind = 1) : Agree M s 4 i := by
 have h := vq hb hl
 have hd := hw.nodup
 unfold Agree
 have hP : ∀ M' L, rule_premises.f (some M) s 4 i = some (some M', L, 0) → rule_Premises.f (some M) s 4 i = some (some M', L, 0) := by
  intro M' L e
  simp [rule_Premises.f, xu hb, hl, xA hb, hf, formula_Table_Len.f, e]
 have hE : ∀ N L e, e ≠ 0 → rule_premises.f (some M) s 4 i = some (some N, L, e) → N.take M.length = M → N.Nodup → M.length ≤ N.length → rule_Premises.f (some M) s 4 i = some (some M, [], e) := by
  intro N L e he e1 h1 h2 h3
  simp [rule_Premises.f, xu hb, hl, xA hb, hf, formula_Table_Len.f, e1, he, cutP h1 h2 h3]
 have hbd : ({ s with left := s.left.del i } : Sq).left.okB = true := xq i
 have k345 : (nd M i).kind = 3 ∨ (nd M i).kind = 4 ∨ (nd M i).kind = 5 → (0 ≤ (nd M i).l ∧ (nd M i).l < 1024) ∧ (0 ≤ (nd M i).r ∧ (nd M i).r < 1024) := fun k => ⟨xf hw.len (hw.left hi k), xf hw.len (hw.right hi k)⟩
 obtain ⟨hx, hy⟩ := k345 (.inr (.inr k))
 have hli := hw.left hi (.inr (.inr k))
 obtain ⟨q, p1, p2⟩ := both1 (g := s.goal) (xq (b := s.left) i) hy
 exact ⟨M, _, 0, hP _ _ (by simp -implicitDefEqProofs [rule_premises.f, zI, bits_Drop.f, chk, hb, p1]; rfl), by simp -implicitDefEqProofs [ref09_Premises.f, vd hw hb, hf, chk, hi, vr hi, ref05_Drop.f, hb, p2]⟩
theorem prem_5 {M : List Nd} {s : Sq} {i : Int} (hw : Wf M) (hl : xJ M s = true) (hb : s.left.okB = true) (hf : yG M s 5 i = true) (hi : inb i M.length = true) (k : (nd M i).kind = 5) (c : (nd M (nd M i).l).kind = 2) : Agree M s 5 i := by
 have h := vq hb hl
 have hd := hw.nodup
 unfold Agree
 have hP : ∀ M' L, rule_premises.f (some M) s 5 i = some (some M', L, 0) → rule_Premises.f (some M) s 5 i = some (some M', L, 0) := by
  intro M' L e
  simp [rule_Premises.f, xu hb, hl, xA hb, hf, formula_Table_Len.f, e]
 have hE : ∀ N L e, e ≠ 0 → rule_premises.f (some M) s 5 i = some (some N, L, e) → N.take M.length = M → N.Nodup → M.length ≤ N.length → rule_Premises.f (some M) s 5 i = some (some M, [], e) := by
  intro N L e he e1 h1 h2 h3
  simp [rule_Premises.f, xu hb, hl, xA hb, hf, formula_Table_Len.f, e1, he, cutP h1 h2 h3]
 have hbd : ({ s with left := s.left.del i } : Sq).left.okB = true := xq i
 have k345 : (nd M i).kind = 3 ∨ (nd M i).kind = 4 ∨ (nd M i).kind = 5 → (0 ≤ (nd M i).l ∧ (nd M i).l < 1024) ∧ (0 ≤ (nd M i).r ∧ (nd M i).r < 1024) := fun k => ⟨xf hw.len (hw.left hi k), xf hw.len (hw.right hi k)⟩
 obtain ⟨hx, hy⟩ := k345 (.inr (.inr k))
 have hli := hw.left hi (.inr (.inr k))
 exact ⟨M, _, 0, hP _ _ (by simp -implicitDefEqProofs [rule_premises.f, zI, bits_Drop.f, chk, hb]; rfl), by simp -implicitDefEqProofs [ref09_Premises.f, vd hw hb, hf, chk, hi, vr hi, ref05_Drop.f, hb]⟩
theorem prem_6 {M : List Nd} {s : Sq} {i : Int} (hw : Wf M) (hl : xJ M s = true) (hb : s.left.okB = true) (hf : yG M s 6 i = true) (hi : inb i M.length = true) (k : (nd M i).kind = 5) (c : (nd M (nd M i).l).kind = 3) : Agree M s 6 i := by
 have h := vq hb hl
 have hd := hw.nodup
 unfold Agree
 have hP : ∀ M' L, rule_premises.f (some M) s 6 i = some (some M', L, 0) → rule_Premises.f (some M) s 6 i = some (some M', L, 0) := by
  intro M' L e
  simp [rule_Premises.f, xu hb, hl, xA hb, hf, formula_Table_Len.f, e]
 have hE : ∀ N L e, e ≠ 0 → rule_premises.f (some M) s 6 i = some (some N, L, e) → N.take M.length = M → N.Nodup → M.length ≤ N.length → rule_Premises.f (some M) s 6 i = some (some M, [], e) := by
  intro N L e he e1 h1 h2 h3
  simp [rule_Premises.f, xu hb, hl, xA hb, hf, formula_Table_Len.f, e1, he, cutP h1 h2 h3]
 have hbd : ({ s with left := s.left.del i } : Sq).left.okB = true := xq i
 have k345 : (nd M i).kind = 3 ∨ (nd M i).kind = 4 ∨ (nd M i).kind = 5 → (0 ≤ (nd M i).l ∧ (nd M i).l < 1024) ∧ (0 ≤ (nd M i).r ∧ (nd M i).r < 1024) := fun k => ⟨xf hw.len (hw.left hi k), xf hw.len (hw.right hi k)⟩
 obtain ⟨hx, hy⟩ := k345 (.inr (.inr k))
 have hli := hw.left hi (.inr (.inr k))
 have hkk := hw.kids _ hli (.inl c)
 have hc0 : ¬ (nd M (nd M i).l).l < 0 := by omega
 have hc1 : ¬ (nd M (nd M i).l).r < 0 := by omega
 have hr0 : ¬ (nd M i).r < 0 := by omega
 obtain ⟨a1, b1, t1, d1, l1, g1⟩ := yi (n := impN (nd M (nd M i).l).r (nd M i).r) hw.len hd
 generalize hp1 : putS M (impN (nd M (nd M i).l).r (nd M i).r) = P1 at a1 b1 t1 d1 l1 g1
 by_cases e1 : P1.2.2 = 0
 ·obtain ⟨a2, b2, t2, d2, l2, g2⟩ := yi (n := impN (nd M (nd M i).l).l P1.2.1) l1 d1
  generalize hp2 : putS P1.1 (impN (nd M (nd M i).l).l P1.2.1) = P2 at a2 b2 t2 d2 l2 g2
  have tt : P2.1.take M.length = M := by
   have := congrArg (List.take M.length) t2
   rw [List.take_take, Nat.min_eq_left g1, t1] at this
   exact this
  by_cases e2 : P2.2.2 = 0
  ·obtain ⟨q, p1, p2⟩ := both1 (g := s.goal) (xq (b := s.left) i) (b2 e2)
   exact ⟨P2.1, [q], 0, hP _ _ (by simp -implicitDefEqProofs [rule_premises.f, zI, bits_Drop.f, chk, hb, rule_pair.f, rule_imps__rule_pair_1__rule_premises_1.f, rule_pair_1.f, rule_premises_1.f, impP, hp1, hp2, e1, e2, at_, inb, p1]), by simp -implicitDefEqProofs [ref09_Premises.f, vd hw hb, hf, chk, hi, hli, vr hi, vr hli, ref05_Drop.f, hb, ref09_imps.f, impD hw.len, impD l1, hp1, hp2, e1, e2, hc0, hc1, hr0, p2]⟩
  ·exact ⟨M, [], P2.2.2, hE P2.1 [] _ e2 (by simp -implicitDefEqProofs [rule_premises.f, zI, bits_Drop.f, chk, hb, rule_pair.f, rule_imps__rule_pair_1__rule_premises_1.f, rule_pair_1.f, rule_premises_1.f, impP, hp1, hp2, e1, e2, at_, inb]) tt d2 (by omega), by simp -implicitDefEqProofs [ref09_Premises.f, vd hw hb, hf, chk, hi, hli, vr hi, vr hli, ref05_Drop.f, hb, ref09_imps.f, impD hw.len, impD l1, hp1, hp2, e1, e2, hc0, hc1, hr0, cutD tt (by omega)]⟩
 ·exact ⟨M, [], P1.2.2, hE P1.1 [] _ e1 (by simp -implicitDefEqProofs [rule_premises.f, zI, bits_Drop.f, chk, hb, rule_pair.f, rule_imps__rule_pair_1__rule_premises_1.f, rule_pair_1.f, rule_premises_1.f, impP, hp1, e1, at_, inb]) t1 d1 g1, by simp -implicitDefEqProofs [ref09_Premises.f, vd hw hb, hf, chk, hi, hli, vr hi, vr hli, ref05_Drop.f, hb, ref09_imps.f, impD hw.len, hp1, e1, a1 e1]⟩
theorem prem_7 {M : List Nd} {s : Sq} {i : Int} (hw : Wf M) (hl : xJ M s = true) (hb : s.left.okB = true) (hf : yG M s 7 i = true) (hi : inb i M.length = true) (k : (nd M i).kind = 5) (c : (nd M (nd M i).l).kind = 4) : Agree M s 7 i := by
 have h := vq hb hl
 have hd := hw.nodup
 unfold Agree
 have hP : ∀ M' L, rule_premises.f (some M) s 7 i = some (some M', L, 0) → rule_Premises.f (some M) s 7 i = some (some M', L, 0) := by
  intro M' L e
  simp [rule_Premises.f, xu hb, hl, xA hb, hf, formula_Table_Len.f, e]
 have hE : ∀ N L e, e ≠ 0 → rule_premises.f (some M) s 7 i = some (some N, L, e) → N.take M.length = M → N.Nodup → M.length ≤ N.length → rule_Premises.f (some M) s 7 i = some (some M, [], e) := by
  intro N L e he e1 h1 h2 h3
  simp [rule_Premises.f, xu hb, hl, xA hb, hf, formula_Table_Len.f, e1, he, cutP h1 h2 h3]
 have hbd : ({ s with left := s.left.del i } : Sq).left.okB = true := xq i
 have k345 : (nd M i).kind = 3 ∨ (nd M i).kind = 4 ∨ (nd M i).kind = 5 → (0 ≤ (nd M i).l ∧ (nd M i).l < 1024) ∧ (0 ≤ (nd M i).r ∧ (nd M i).r < 1024) := fun k => ⟨xf hw.len (hw.left hi k), xf hw.len (hw.right hi k)⟩
 obtain ⟨hx, hy⟩ := k345 (.inr (.inr k))
 have hli := hw.left hi (.inr (.inr k))
 have hkk := hw.kids _ hli (.inr (.inl c))
 have hc0 : ¬ (nd M (nd M i).l).l < 0 := by omega
 have hc1 : ¬ (nd M (nd M i).l).r < 0 := by omega
 have hr0 : ¬ (nd M i).r < 0 := by omega
 obtain ⟨a1, b1, t1, d1, l1, g1⟩ := yi (n := impN (nd M (nd M i).l).l (nd M i).r) hw.len hd
 generalize hp1 : putS M (impN (nd M (nd M i).l).l (nd M i).r) = P1 at a1 b1 t1 d1 l1 g1
 by_cases e1 : P1.2.2 = 0
 ·obtain ⟨a2, b2, t2, d2, l2, g2⟩ := yi (n := impN (nd M (nd M i).l).r (nd M i).r) l1 d1
  generalize hp2 : putS P1.1 (impN (nd M (nd M i).l).r (nd M i).r) = P2 at a2 b2 t2 d2 l2 g2
  have tt : P2.1.take M.length = M := by
   have := congrArg (List.take M.length) t2
   rw [List.take_take, Nat.min_eq_left g1, t1] at this
   exact this
  by_cases e2 : P2.2.2 = 0
  ·obtain ⟨q, p1, p2⟩ := both2 (g := s.goal) (xq (b := s.left) i) (b1 e1) (b2 e2)
   exact ⟨P2.1, [q], 0, hP _ _ (by simp -implicitDefEqProofs [rule_premises.f, zI, bits_Drop.f, chk, hb, rule_pair.f, rule_imps__rule_pair_1__rule_pair_1.f, rule_pair_1.f, rule_premises_1.f, impP, hp1, hp2, e1, e2, at_, inb, p1]), by simp -implicitDefEqProofs [ref09_Premises.f, vd hw hb, hf, chk, hi, hli, vr hi, vr hli, ref05_Drop.f, hb, ref09_imps.f, impD hw.len, impD l1, hp1, hp2, e1, e2, hc0, hc1, hr0, p2]⟩
  ·exact ⟨M, [], P2.2.2, hE P2.1 [] _ e2 (by simp -implicitDefEqProofs [rule_premises.f, zI, bits_Drop.f, chk, hb, rule_pair.f, rule_imps__rule_pair_1__rule_pair_1.f, rule_pair_1.f, rule_premises_1.f, impP, hp1, hp2, e1, e2, at_, inb]) tt d2 (by omega), by simp -implicitDefEqProofs [ref09_Premises.f, vd hw hb, hf, chk, hi, hli, vr hi, vr hli, ref05_Drop.f, hb, ref09_imps.f, impD hw.len, impD l1, hp1, hp2, e1, e2, hc0, hc1, hr0, cutD tt (by omega)]⟩
 ·exact ⟨M, [], P1.2.2, hE P1.1 [] _ e1 (by simp -implicitDefEqProofs [rule_premises.f, zI, bits_Drop.f, chk, hb, rule_pair.f, rule_imps__rule_pair_1__rule_pair_1.f, rule_pair_1.f, rule_premises_1.f, impP, hp1, e1, at_, inb]) t1 d1 g1, by simp -implicitDefEqProofs [ref09_Premises.f, vd hw hb, hf, chk, hi, hli, vr hi, vr hli, ref05_Drop.f, hb, ref09_imps.f, impD hw.len, hp1, e1, a1 e1]⟩
theorem prem_13 {M : List Nd} {s : Sq} {i : Int} (hw : Wf M) (hl : xJ M s = true) (hb : s.left.okB = true) (hf : yG M s 13 i = true) (hi : inb i M.length = true) (k : (nd M i).kind = 5) (c : (nd M (nd M i).l).kind = 5) : Agree M s 13 i := by
 have h := vq hb hl
 have hd := hw.nodup
 unfold Agree
 have hP : ∀ M' L, rule_premises.f (some M) s 13 i = some (some M', L, 0) → rule_Premises.f (some M) s 13 i = some (some M', L, 0) := by
  intro M' L e
  simp [rule_Premises.f, xu hb, hl, xA hb, hf, formula_Table_Len.f, e]
 have hE : ∀ N L e, e ≠ 0 → rule_premises.f (some M) s 13 i = some (some N, L, e) → N.take M.length = M → N.Nodup → M.length ≤ N.length → rule_Premises.f (some M) s 13 i = some (some M, [], e) := by
  intro N L e he e1 h1 h2 h3
  simp [rule_Premises.f, xu hb, hl, xA hb, hf, formula_Table_Len.f, e1, he, cutP h1 h2 h3]
 have hbd : ({ s with left := s.left.del i } : Sq).left.okB = true := xq i
 have k345 : (nd M i).kind = 3 ∨ (nd M i).kind = 4 ∨ (nd M i).kind = 5 → (0 ≤ (nd M i).l ∧ (nd M i).l < 1024) ∧ (0 ≤ (nd M i).r ∧ (nd M i).r < 1024) := fun k => ⟨xf hw.len (hw.left hi k), xf hw.len (hw.right hi k)⟩
 obtain ⟨hx, hy⟩ := k345 (.inr (.inr k))
 have hli := hw.left hi (.inr (.inr k))
 obtain ⟨a1, b1, t1, d1, l1, g1⟩ := yi (n := impN (nd M (nd M i).l).r (nd M i).r) hw.len hd
 generalize hp1 : putS M (impN (nd M (nd M i).l).r (nd M i).r) = P1 at a1 b1 t1 d1 l1 g1
 by_cases e1 : P1.2.2 = 0
 ·obtain ⟨q, p1, p2⟩ := both1 (g := s.goal) (xq (b := s.left) i) (b1 e1)
  obtain ⟨q', p3, p4⟩ := both1 (g := s.goal) (xq (b := s.left) i) hy
  exact ⟨P1.1, _, 0, hP _ _ (by simp -implicitDefEqProofs [rule_premises.f, zI, bits_Drop.f, chk, hb, rule_pair.f, rule_imps__rule_pair_1.f, rule_pair_1.f, impP, hp1, e1, at_, inb, p1, p3, rule_to.f]; rfl), by simp -implicitDefEqProofs [ref09_Premises.f, vd hw hb, hf, chk, hi, hli, vr hi, vr hli, ref05_Drop.f, hb, impD hw.len, hp1, e1, p2, p4, ref09_to.f]⟩
 ·exact ⟨M, [], P1.2.2, hE P1.1 [] _ e1 (by simp -implicitDefEqProofs [rule_premises.f, zI, bits_Drop.f, chk, hb, rule_pair.f, rule_imps__rule_pair_1.f, rule_pair_1.f, impP, hp1, e1, at_, inb]) t1 d1 g1, by simp -implicitDefEqProofs [ref09_Premises.f, vd hw hb, hf, chk, hi, hli, vr hi, vr hli, ref05_Drop.f, hb, impD hw.len, hp1, e1, a1 e1]⟩
theorem prem_eq {M : List Nd} {s : Sq} {r i : Int} (hw : Wf M) (hl : xJ M s = true) (hb : s.left.okB = true) : Agree M s r i := by
 cases hf : yG M s r i with
 | false => exact ⟨M, [], 90, by simp [rule_Premises.f, xu hb, hl, xA hb, hf], by simp [ref09_Premises.f, vd hw hb, hf]⟩
 | true =>
  obtain ⟨hi, hc⟩ := zah hf
  rcases hc with rfl | ⟨rfl, k⟩ | ⟨rfl, k⟩ | ⟨hr, k⟩ | ⟨rfl, k⟩ | ⟨rfl, k⟩ | ⟨rfl, k⟩ | ⟨k, hc⟩
  ·exact prem_2 hw hl hb hf hi
  ·exact prem_8 hw hl hb hf hi k
  ·exact prem_9 hw hl hb hf hi k
  ·rcases hr with rfl | rfl
   ·exact prem_11 hw hl hb hf hi k
   ·exact prem_12 hw hl hb hf hi k
  ·exact prem_1 hw hl hb hf hi k
  ·exact prem_3 hw hl hb hf hi k
  ·exact prem_10 hw hl hb hf hi k
  ·rcases hc with ⟨rfl, c⟩ | ⟨rfl, c⟩ | ⟨rfl, c⟩ | ⟨rfl, c⟩ | ⟨rfl, c⟩
   ·exact prem_4 hw hl hb hf hi k c
   ·exact prem_5 hw hl hb hf hi k c
   ·exact prem_6 hw hl hb hf hi k c
   ·exact prem_7 hw hl hb hf hi k c
   ·exact prem_13 hw hl hb hf hi k c
end Go.Proofs.YtjebgcoknpcadaaGreatDoor
end
section
namespace Go.Proofs.YtjebgcoknpcadaaGreatDoor
open Gw
end Go.Proofs.YtjebgcoknpcadaaGreatDoor
end
section
namespace Go.Proofs.YtjebgcoknpcadaaGreatDoor
open Gw
abbrev vl (V : List Bool) (i : Int) : Bool := at_ false V i
def Sem (N : List Nd) (V : List Bool) (n : Int) : Prop := ∀ i : Int, 0 ≤ i → i < n → ((nd N i).kind = 2 → vl V i = false) ∧ ((nd N i).kind = 3 → vl V i = (vl V (nd N i).l && vl V (nd N i).r)) ∧ ((nd N i).kind = 4 → vl V i = (vl V (nd N i).l || vl V (nd N i).r)) ∧ ((nd N i).kind = 5 → vl V i = (!vl V (nd N i).l || vl V (nd N i).r))
theorem uS {b : Bits} {x : Int} (hx : 0 ≤ x ∧ x < 1024) {p : Int → Prop} : (∀ j : Int, (b.add x).has j = true → p j) ↔ p x ∧ ∀ j : Int, b.has j = true → p j := by
 constructor
 ·intro h
  exact ⟨h x (by rw [Bits.add_has _ _ _ hx]; simp), fun j hj => h j (by rw [Bits.add_has _ _ _ hx, hj]; simp)⟩
 ·rintro ⟨h1, h2⟩ j hj
  rw [Bits.add_has _ _ _ hx] at hj
  simp only [Bool.or_eq_true, decide_eq_true_eq] at hj
  rcases hj with rfl | hj
  ·exact h1
  ·exact h2 j hj
theorem all_del {b : Bits} {x : Int} (hx : b.has x = true) {p : Int → Prop} : (∀ j : Int, b.has j = true → p j) ↔ p x ∧ ∀ j : Int, (b.del x).has j = true → p j := by
 constructor
 ·intro h
  refine ⟨h x hx, fun j hj => h j ?_⟩
  rw [Bits.del_has] at hj
  simp only [Bool.and_eq_true] at hj
  exact hj.2
 ·rintro ⟨h1, h2⟩ j hj
  by_cases e : j = x
  ·rw [e]; exact h1
  ·exact h2 j (by rw [Bits.del_has, hj]; simp [e])
theorem nd_app {N K : List Nd} {i : Int} (hi : inb i N.length = true) : nd (N ++ K) i = nd N i := by
 have h1 := xv hi
 have h2 : i.toNat < N.length := by omega
 unfold nd ju yR
 rw [if_pos (by simp; omega), if_pos (by simp; omega)]
 simp only
 rw [List.getD_eq_getElem?_getD, List.getElem?_append_left h2, ← List.getD_eq_getElem?_getD]
theorem vD {N : List Nd} {n : Nd} (hw : Wf N) (he : (putS N n).2.2 = 0) : nd (putS N n).1 (putS N n).2.1 = n ∧ Wf (putS N n).1 ∧ inb (putS N n).2.1 (putS N n).1.length = true ∧ (∀ i : Int, inb i N.length = true → nd (putS N n).1 i = nd N i) ∧ N.length ≤ (putS N n).1.length := by
 by_cases hf : yU N n = 0
 ·cases hk : N.idxOf? n with
  | some k =>
   rw [put_old hf hk]
   obtain ⟨h1, h2, _⟩ := List.idxOf?_eq_some_iff.1 hk
   have hin : inb (k : Int) N.length = true := by rw [zaw]; simpa using h1
   refine ⟨?_, hw, hin, fun _ _ => rfl, Nat.le_refl _⟩
   rw [← vr hin, zaY h1]
   simpa using h2
  | none =>
   by_cases hl : 1024 ≤ N.length
   ·rw [zbi hf hk hl] at he; simp at he
   ·rw [put_new hf hk hl]
    refine ⟨?_, wf_push hw hf (by omega) (List.idxOf?_eq_none_iff.1 hk), by rw [zaw]; simp, fun i hi => nd_app hi, by simp⟩
    unfold nd ju yR
    rw [if_pos (by simp; omega)]
    simp
 ·rw [put_bad hf] at he; exact absurd he hf
end Go.Proofs.YtjebgcoknpcadaaGreatDoor
end
section
namespace Go.Proofs.YtjebgcoknpcadaaGreatDoor
open Gw
inductive PremR (M : List Nd) (s : Sq) (i : Int) : Int → List Nd → List Sq → Prop
 | bot (h : s.left.has i = true) (k : (nd M i).kind = 2) : PremR M s i 1 M []
 | ax (h : s.left.has i = true) (g : i = s.goal) : PremR M s i 2 M []
 | andL (h : s.left.has i = true) (k : (nd M i).kind = 3) : PremR M s i 3 M [⟨((s.left.del i).add (nd M i).l).add (nd M i).r, s.goal⟩]
 | atom (h : s.left.has i = true) (k : (nd M i).kind = 5) (c : (nd M (nd M i).l).kind = 1) (a : s.left.has (nd M i).l = true) : PremR M s i 4 M [⟨(s.left.del i).add (nd M i).r, s.goal⟩]
 | botL (h : s.left.has i = true) (k : (nd M i).kind = 5) (c : (nd M (nd M i).l).kind = 2) : PremR M s i 5 M [⟨s.left.del i, s.goal⟩]
 | conj (h : s.left.has i = true) (k : (nd M i).kind = 5) (c : (nd M (nd M i).l).kind = 3) (e1 : (putS M (impN (nd M (nd M i).l).r (nd M i).r)).2.2 = 0)
   (e2 : (putS (putS M (impN (nd M (nd M i).l).r (nd M i).r)).1 (impN (nd M (nd M i).l).l (putS M (impN (nd M (nd M i).l).r (nd M i).r)).2.1)).2.2 = 0) :
   PremR M s i 6 (putS (putS M (impN (nd M (nd M i).l).r (nd M i).r)).1 (impN (nd M (nd M i).l).l (putS M (impN (nd M (nd M i).l).r (nd M i).r)).2.1)).1
    [⟨(s.left.del i).add (putS (putS M (impN (nd M (nd M i).l).r (nd M i).r)).1 (impN (nd M (nd M i).l).l (putS M (impN (nd M (nd M i).l).r (nd M i).r)).2.1)).2.1, s.goal⟩]
 | disj (h : s.left.has i = true) (k : (nd M i).kind = 5) (c : (nd M (nd M i).l).kind = 4) (e1 : (putS M (impN (nd M (nd M i).l).l (nd M i).r)).2.2 = 0)
   (e2 : (putS (putS M (impN (nd M (nd M i).l).l (nd M i).r)).1 (impN (nd M (nd M i).l).r (nd M i).r)).2.2 = 0) :
   PremR M s i 7 (putS (putS M (impN (nd M (nd M i).l).l (nd M i).r)).1 (impN (nd M (nd M i).l).r (nd M i).r)).1
    [⟨((s.left.del i).add (putS M (impN (nd M (nd M i).l).l (nd M i).r)).2.1).add (putS (putS M (impN (nd M (nd M i).l).l (nd M i).r)).1 (impN (nd M (nd M i).l).r (nd M i).r)).2.1, s.goal⟩]
 | impR (g : i = s.goal) (k : (nd M i).kind = 5) : PremR M s i 8 M [⟨s.left.add (nd M i).l, (nd M i).r⟩]
 | andR (g : i = s.goal) (k : (nd M i).kind = 3) : PremR M s i 9 M [⟨s.left, (nd M i).l⟩, ⟨s.left, (nd M i).r⟩]
 | orL (h : s.left.has i = true) (k : (nd M i).kind = 4) : PremR M s i 10 M [⟨(s.left.del i).add (nd M i).l, s.goal⟩, ⟨(s.left.del i).add (nd M i).r, s.goal⟩]
 | orR1 (g : i = s.goal) (k : (nd M i).kind = 4) : PremR M s i 11 M [⟨s.left, (nd M i).l⟩]
 | orR2 (g : i = s.goal) (k : (nd M i).kind = 4) : PremR M s i 12 M [⟨s.left, (nd M i).r⟩]
 | impL (h : s.left.has i = true) (k : (nd M i).kind = 5) (c : (nd M (nd M i).l).kind = 5) (e1 : (putS M (impN (nd M (nd M i).l).r (nd M i).r)).2.2 = 0) :
   PremR M s i 13 (putS M (impN (nd M (nd M i).l).r (nd M i).r)).1 [⟨(s.left.del i).add (putS M (impN (nd M (nd M i).l).r (nd M i).r)).2.1, (nd M i).l⟩, ⟨(s.left.del i).add (nd M i).r, s.goal⟩]
end Go.Proofs.YtjebgcoknpcadaaGreatDoor
end
section
namespace Go.Proofs.YtjebgcoknpcadaaGreatDoor
open Gw
theorem fits_has {M : List Nd} {s : Sq} {r i : Int} (h : yG M s r i = true) : ((r = 8 ∨ r = 9 ∨ r = 11 ∨ r = 12) → i = s.goal) ∧ (r ≠ 8 → r ≠ 9 → r ≠ 11 → r ≠ 12 → s.left.has i = true) ∧ (r = 2 → i = s.goal) ∧ (r = 4 → s.left.has (nd M i).l = true) := by
 unfold yG at h
 cases hi : inb i M.length with
 | false => simp [hi] at h
 | true =>
  simp only [hi, Bool.true_eq_false, if_false] at h
  by_cases r2 : r = 2
  ·rw [if_pos r2] at h
   simp only [Bool.and_eq_true, decide_eq_true_eq] at h
   exact ⟨fun q => by omega, fun _ _ _ _ => h.2, fun _ => h.1, fun q => by omega⟩
  rw [if_neg r2] at h
  by_cases r8 : r = 8
  ·rw [if_pos r8] at h
   simp only [Bool.and_eq_true, decide_eq_true_eq] at h
   exact ⟨fun _ => h.1, fun q => absurd r8 q, fun q => by omega, fun q => by omega⟩
  rw [if_neg r8] at h
  by_cases r9 : r = 9
  ·rw [if_pos r9] at h
   simp only [Bool.and_eq_true, decide_eq_true_eq] at h
   exact ⟨fun _ => h.1, fun _ q => absurd r9 q, fun q => by omega, fun q => by omega⟩
  rw [if_neg r9] at h
  by_cases r11 : r = 11 ∨ r = 12
  ·rw [if_pos r11] at h
   simp only [Bool.and_eq_true, decide_eq_true_eq] at h
   exact ⟨fun _ => h.1, fun _ _ q q' => by omega, fun q => by omega, fun q => by omega⟩
  rw [if_neg r11] at h
  simp only [Bool.and_eq_true, decide_eq_true_eq, ne_eq] at h
  refine ⟨fun q => by omega, fun _ _ _ _ => h.1.2, fun q => by omega, fun q => ?_⟩
  subst q
  have h4 := h.2
  unfold onV at h4
  by_cases k5 : (nd M i).kind = 5
  ·by_cases c1 : (nd M (nd M i).l).kind = 1
   ·rw [if_neg (by omega), if_neg (by omega), if_neg (by omega), if_pos k5, if_pos c1] at h4
    split at h4
    ·assumption
    ·omega
   ·exfalso
    rcases on_cases (M := M) (b := s.left) (i := i) (r := 4) h.2 (by decide) with q | q | q | ⟨_, q⟩ <;> omega
  ·exfalso
   rcases on_cases (M := M) (b := s.left) (i := i) (r := 4) h.2 (by decide) with q | q | q | ⟨q, _⟩ <;> omega
theorem prem_rel {M : List Nd} {s : Sq} {r i : Int} {T : Tb} {L : List Sq} (hw : Wf M) (hb : s.left.okB = true) (hf : yG M s r i = true) (h : rule_premises.f (some M) s r i = some (T, L, 0)) : ∃ N, T = some N ∧ PremR M s i r N L := by
 obtain ⟨hi, hc⟩ := zah hf
 obtain ⟨g1, g2, g3, g4⟩ := fits_has hf
 have k345 : (nd M i).kind = 3 ∨ (nd M i).kind = 4 ∨ (nd M i).kind = 5 → (0 ≤ (nd M i).l ∧ (nd M i).l < 1024) ∧ (0 ≤ (nd M i).r ∧ (nd M i).r < 1024) := fun k => ⟨xf hw.len (hw.left hi k), xf hw.len (hw.right hi k)⟩
 rcases hc with rfl | ⟨rfl, k⟩ | ⟨rfl, k⟩ | ⟨hr, k⟩ | ⟨rfl, k⟩ | ⟨rfl, k⟩ | ⟨rfl, k⟩ | ⟨k, hc⟩
 ·simp -implicitDefEqProofs [rule_premises.f, zI, bits_Drop.f, chk, hb] at h
  obtain ⟨rfl, rfl⟩ := h
  exact ⟨M, rfl, PremR.ax (g2 (by decide) (by decide) (by decide) (by decide)) (g3 rfl)⟩
 ·obtain ⟨hx, hy⟩ := k345 (.inr (.inr k))
  simp -implicitDefEqProofs [rule_premises.f, zI, bits_Drop.f, chk, hb, withP1 hb hx, rule_to.f] at h
  obtain ⟨rfl, rfl⟩ := h
  exact ⟨M, rfl, PremR.impR (g1 (by decide)) k⟩
 ·simp -implicitDefEqProofs [rule_premises.f, zI, bits_Drop.f, chk, hb, rule_to.f] at h
  obtain ⟨rfl, rfl⟩ := h
  exact ⟨M, rfl, PremR.andR (g1 (by decide)) k⟩
 ·rcases hr with rfl | rfl
  ·simp -implicitDefEqProofs [rule_premises.f, zI, bits_Drop.f, chk, hb, rule_to.f] at h
   obtain ⟨rfl, rfl⟩ := h
   exact ⟨M, rfl, PremR.orR1 (g1 (by decide)) k⟩
  ·simp -implicitDefEqProofs [rule_premises.f, zI, bits_Drop.f, chk, hb, rule_to.f] at h
   obtain ⟨rfl, rfl⟩ := h
   exact ⟨M, rfl, PremR.orR2 (g1 (by decide)) k⟩
 ·simp -implicitDefEqProofs [rule_premises.f, zI, bits_Drop.f, chk, hb] at h
  obtain ⟨rfl, rfl⟩ := h
  exact ⟨M, rfl, PremR.bot (g2 (by decide) (by decide) (by decide) (by decide)) k⟩
 ·obtain ⟨hx, hy⟩ := k345 (.inl k)
  simp -implicitDefEqProofs [rule_premises.f, zI, bits_Drop.f, chk, hb, withP2m (xq i) hx hy] at h
  obtain ⟨rfl, rfl⟩ := h
  exact ⟨M, rfl, PremR.andL (g2 (by decide) (by decide) (by decide) (by decide)) k⟩
 ·obtain ⟨hx, hy⟩ := k345 (.inr (.inl k))
  simp -implicitDefEqProofs [rule_premises.f, zI, bits_Drop.f, chk, hb, vg (xq i) hx, vg (xq i) hy] at h
  obtain ⟨rfl, rfl⟩ := h
  exact ⟨M, rfl, PremR.orL (g2 (by decide) (by decide) (by decide) (by decide)) k⟩
 ·obtain ⟨hx, hy⟩ := k345 (.inr (.inr k))
  rcases hc with ⟨rfl, c⟩ | ⟨rfl, c⟩ | ⟨rfl, c⟩ | ⟨rfl, c⟩ | ⟨rfl, c⟩
  ·simp -implicitDefEqProofs [rule_premises.f, zI, bits_Drop.f, chk, hb, vg (xq i) hy] at h
   obtain ⟨rfl, rfl⟩ := h
   exact ⟨M, rfl, PremR.atom (g2 (by decide) (by decide) (by decide) (by decide)) k c (g4 rfl)⟩
  ·simp -implicitDefEqProofs [rule_premises.f, zI, bits_Drop.f, chk, hb] at h
   obtain ⟨rfl, rfl⟩ := h
   exact ⟨M, rfl, PremR.botL (g2 (by decide) (by decide) (by decide) (by decide)) k c⟩
  ·have q1 := yi (n := impN (nd M (nd M i).l).r (nd M i).r) hw.len hw.nodup
   have con := @PremR.conj M s i (g2 (by decide) (by decide) (by decide) (by decide)) k c
   generalize hA : putS M (impN (nd M (nd M i).l).r (nd M i).r) = A1 at q1 con
   have q2 := (yi (n := impN (nd M (nd M i).l).l A1.2.1) q1.2.2.2.2.1 q1.2.2.2.1).2.1
   generalize hB : putS A1.1 (impN (nd M (nd M i).l).l A1.2.1) = A2 at q2 con
   by_cases e1 : A1.2.2 = 0
   ·by_cases e2 : A2.2.2 = 0
    ·simp -implicitDefEqProofs [rule_premises.f, zI, bits_Drop.f, chk, hb, rule_pair.f, rule_imps__rule_pair_1__rule_premises_1.f, rule_pair_1.f, rule_premises_1.f, impP, at_, inb, hA, hB, e1, e2, vg (xq i) (q2 e2)] at h
     obtain ⟨rfl, rfl⟩ := h
     exact ⟨_, rfl, con e1 e2⟩
    ·simp -implicitDefEqProofs [rule_premises.f, zI, bits_Drop.f, chk, hb, rule_pair.f, rule_imps__rule_pair_1__rule_premises_1.f, rule_pair_1.f, rule_premises_1.f, impP, at_, inb, hA, hB, e1, e2] at h
   ·simp -implicitDefEqProofs [rule_premises.f, zI, bits_Drop.f, chk, hb, rule_pair.f, rule_imps__rule_pair_1__rule_premises_1.f, rule_pair_1.f, rule_premises_1.f, impP, at_, inb, hA, e1] at h
  ·have q1 := yi (n := impN (nd M (nd M i).l).l (nd M i).r) hw.len hw.nodup
   have con := @PremR.disj M s i (g2 (by decide) (by decide) (by decide) (by decide)) k c
   generalize hA : putS M (impN (nd M (nd M i).l).l (nd M i).r) = A1 at q1 con
   have q2 := (yi (n := impN (nd M (nd M i).l).r (nd M i).r) q1.2.2.2.2.1 q1.2.2.2.1).2.1
   generalize hB : putS A1.1 (impN (nd M (nd M i).l).r (nd M i).r) = A2 at q2 con
   by_cases e1 : A1.2.2 = 0
   ·by_cases e2 : A2.2.2 = 0
    ·simp -implicitDefEqProofs [rule_premises.f, zI, bits_Drop.f, chk, hb, rule_pair.f, rule_imps__rule_pair_1__rule_pair_1.f, rule_pair_1.f, rule_premises_1.f, impP, at_, inb, hA, hB, e1, e2, withP2m (xq i) (q1.2.1 e1) (q2 e2)] at h
     obtain ⟨rfl, rfl⟩ := h
     exact ⟨_, rfl, con e1 e2⟩
    ·simp -implicitDefEqProofs [rule_premises.f, zI, bits_Drop.f, chk, hb, rule_pair.f, rule_imps__rule_pair_1__rule_pair_1.f, rule_pair_1.f, rule_premises_1.f, impP, at_, inb, hA, hB, e1, e2] at h
   ·simp -implicitDefEqProofs [rule_premises.f, zI, bits_Drop.f, chk, hb, rule_pair.f, rule_imps__rule_pair_1__rule_pair_1.f, rule_pair_1.f, rule_premises_1.f, impP, at_, inb, hA, e1] at h
  ·have p1 := (yi (n := impN (nd M (nd M i).l).r (nd M i).r) hw.len hw.nodup).2.1
   have con := @PremR.impL M s i (g2 (by decide) (by decide) (by decide) (by decide)) k c
   generalize hA : putS M (impN (nd M (nd M i).l).r (nd M i).r) = A1 at p1 con
   by_cases e1 : A1.2.2 = 0
   ·simp -implicitDefEqProofs [rule_premises.f, zI, bits_Drop.f, chk, hb, rule_pair.f, rule_imps__rule_pair_1.f, rule_pair_1.f, impP, hA, e1, vg (xq i) (p1 e1), vg (xq i) hy, rule_to.f] at h
    obtain ⟨rfl, rfl⟩ := h
    exact ⟨_, rfl, con e1⟩
   ·simp -implicitDefEqProofs [rule_premises.f, zI, bits_Drop.f, chk, hb, rule_pair.f, rule_imps__rule_pair_1.f, rule_pair_1.f, impP, hA, e1] at h
end Go.Proofs.YtjebgcoknpcadaaGreatDoor
end
section
namespace Go.Proofs.YtjebgcoknpcadaaGreatDoor
open Gw
end Go.Proofs.YtjebgcoknpcadaaGreatDoor
end
section
namespace Go.Proofs.YtjebgcoknpcadaaGreatDoor
open Gw
theorem Premises_rel {M : List Nd} {s : Sq} (r i : Int) (hw : Wf M) (hl : xJ M s = true) (hb : s.left.okB = true) :
  ∃ N L e, rule_Premises.f (some M) s r i = some (some N, L, e) ∧ (e = 0 → yG M s r i = true ∧ PremR M s i r N L) := by
 obtain ⟨N, L, e, h, _⟩ := prem_eq (r := r) (i := i) hw hl hb
 refine ⟨N, L, e, h, fun he => ?_⟩
 subst he
 unfold rule_Premises.f at h
 rw [xu hb, hl, xA hb] at h
 simp only [if_true, ne_eq, not_true_eq_false, decide_false, Bool.false_eq_true, if_false, Option.bind_some] at h
 cases hf : yG M s r i with
 | false => simp [hf] at h
 | true =>
  refine ⟨rfl, ?_⟩
  simp only [hf, Bool.not_true, Bool.false_eq_true, if_false] at h
  obtain ⟨n, h1, h⟩ := zp h
  obtain ⟨⟨T, L', e'⟩, h2, h⟩ := zp h
  by_cases he : e' = 0
  ·subst he
   simp only [not_true_eq_false, decide_false, Bool.false_eq_true, if_false, Option.some.injEq, Prod.mk.injEq] at h
   obtain ⟨rfl, rfl, _⟩ := h
   obtain ⟨N', e1, h3⟩ := prem_rel hw hb hf h2
   cases e1
   exact h3
  ·simp only [he, not_false_eq_true, decide_true, if_true] at h
   obtain ⟨_, _, h⟩ := zp h
   simp only [Option.some.injEq, Prod.mk.injEq] at h
   exact absurd h.2.2 he
theorem xo {i : Int} {m n : Nat} (h : inb i m = true) (hmn : m ≤ n) : inb i n = true := by
 have := xv h
 simp only [inb, Bool.and_eq_true, decide_eq_true_eq]; omega
theorem xt {M : List Nd} {s : Sq} : xJ M s = true ↔ (∀ j : Int, s.left.has j = true → inb j M.length = true) ∧ inb s.goal M.length = true := by
 unfold xJ
 rw [Bool.and_eq_true, List.all_eq_true]
 refine and_congr ⟨fun h j hj => ?_, fun h j hj => ?_⟩ Iff.rfl
 ·have hr : 0 ≤ j ∧ j < 1024 := by
   refine Decidable.byContradiction fun q => ?_
   rw [Bits.has_out _ _ (by omega)] at hj; cases hj
  have hjn : ((j.toNat : Nat) : Int) = j := by omega
  have := h j.toNat (Bits.mem_list.2 ⟨by omega, by rw [hjn]; exact hj⟩)
  rw [← hjn, zaw]; exact this
 ·have := h j (Bits.mem_list.1 hj).2
  rw [zaw] at this; exact this
theorem kJ {M N : List Nd} {s : Sq} {i r : Int} {L : List Sq} (hw : Wf M) (hb : s.left.okB = true) (hl : xJ M s = true) (hi : inb i M.length = true) (h : PremR M s i r N L) :
  Wf N ∧ M.length ≤ N.length ∧ (∀ j : Int, inb j M.length = true → nd N j = nd M j) ∧ ∀ p ∈ L, p.left.okB = true ∧ xJ N p = true := by
 obtain ⟨hl1, hl2⟩ := xt.1 hl
 have k345 : (nd M i).kind = 3 ∨ (nd M i).kind = 4 ∨ (nd M i).kind = 5 → inb (nd M i).l M.length = true ∧ inb (nd M i).r M.length = true := fun k => ⟨hw.left hi k, hw.right hi k⟩
 have hdel : ∀ j : Int, (s.left.del i).has j = true → inb j M.length = true := fun j hj => by
  rw [Bits.del_has] at hj; simp only [Bool.and_eq_true] at hj; exact hl1 j hj.2
 cases h with
 | bot h k => exact ⟨hw, Nat.le_refl _, fun _ _ => rfl, fun p hp => by cases hp⟩
 | ax h g => exact ⟨hw, Nat.le_refl _, fun _ _ => rfl, fun p hp => by cases hp⟩
 | andL h k =>
  obtain ⟨hx, hy⟩ := k345 (.inl k)
  refine ⟨hw, Nat.le_refl _, fun _ _ => rfl, fun p hp => ?_⟩
  rw [List.mem_singleton] at hp; subst hp
  exact ⟨jG _, xt.2 ⟨(uS (xf hw.len hy)).2 ⟨hy, (uS (xf hw.len hx)).2 ⟨hx, hdel⟩⟩, hl2⟩⟩
 | atom h k c a =>
  obtain ⟨hx, hy⟩ := k345 (.inr (.inr k))
  refine ⟨hw, Nat.le_refl _, fun _ _ => rfl, fun p hp => ?_⟩
  rw [List.mem_singleton] at hp; subst hp
  exact ⟨jG _, xt.2 ⟨(uS (xf hw.len hy)).2 ⟨hy, hdel⟩, hl2⟩⟩
 | botL h k c =>
  refine ⟨hw, Nat.le_refl _, fun _ _ => rfl, fun p hp => ?_⟩
  rw [List.mem_singleton] at hp; subst hp
  exact ⟨xq _, xt.2 ⟨hdel, hl2⟩⟩
 | impR g k =>
  obtain ⟨hx, hy⟩ := k345 (.inr (.inr k))
  refine ⟨hw, Nat.le_refl _, fun _ _ => rfl, fun p hp => ?_⟩
  rw [List.mem_singleton] at hp; subst hp
  exact ⟨jG _, xt.2 ⟨(uS (xf hw.len hx)).2 ⟨hx, hl1⟩, hy⟩⟩
 | andR g k =>
  obtain ⟨hx, hy⟩ := k345 (.inl k)
  refine ⟨hw, Nat.le_refl _, fun _ _ => rfl, fun p hp => ?_⟩
  simp only [List.mem_cons, List.not_mem_nil, or_false] at hp
  rcases hp with rfl | rfl
  ·exact ⟨hb, xt.2 ⟨hl1, hx⟩⟩
  ·exact ⟨hb, xt.2 ⟨hl1, hy⟩⟩
 | orL h k =>
  obtain ⟨hx, hy⟩ := k345 (.inr (.inl k))
  refine ⟨hw, Nat.le_refl _, fun _ _ => rfl, fun p hp => ?_⟩
  simp only [List.mem_cons, List.not_mem_nil, or_false] at hp
  rcases hp with rfl | rfl
  ·exact ⟨jG _, xt.2 ⟨(uS (xf hw.len hx)).2 ⟨hx, hdel⟩, hl2⟩⟩
  ·exact ⟨jG _, xt.2 ⟨(uS (xf hw.len hy)).2 ⟨hy, hdel⟩, hl2⟩⟩
 | orR1 g k =>
  obtain ⟨hx, hy⟩ := k345 (.inr (.inl k))
  refine ⟨hw, Nat.le_refl _, fun _ _ => rfl, fun p hp => ?_⟩
  rw [List.mem_singleton] at hp; subst hp
  exact ⟨hb, xt.2 ⟨hl1, hx⟩⟩
 | orR2 g k =>
  obtain ⟨hx, hy⟩ := k345 (.inr (.inl k))
  refine ⟨hw, Nat.le_refl _, fun _ _ => rfl, fun p hp => ?_⟩
  rw [List.mem_singleton] at hp; subst hp
  exact ⟨hb, xt.2 ⟨hl1, hy⟩⟩
 | conj h k c e1 e2 =>
  obtain ⟨n1, w1, i1, q1, l1⟩ := vD hw e1
  obtain ⟨n2, w2, i2, q2, l2⟩ := vD w1 e2
  generalize hA1 : putS M (impN (nd M (nd M i).l).r (nd M i).r) = A1 at n1 w1 i1 q1 l1 n2 w2 i2 q2 l2 e1 e2 ⊢
  generalize hA2 : putS A1.1 (impN (nd M (nd M i).l).l A1.2.1) = A2 at n2 w2 i2 q2 l2 e2 ⊢
  refine ⟨w2, by omega, fun j hj => by rw [q2 j (xo hj l1), q1 j hj], fun p hp => ?_⟩
  rw [List.mem_singleton] at hp; subst hp
  exact ⟨jG _, xt.2 ⟨(uS (xf w2.len i2)).2 ⟨i2, fun j hj => xo (hdel j hj) (by omega)⟩, xo hl2 (by omega)⟩⟩
 | disj h k c e1 e2 =>
  obtain ⟨n1, w1, i1, q1, l1⟩ := vD hw e1
  obtain ⟨n2, w2, i2, q2, l2⟩ := vD w1 e2
  generalize hA1 : putS M (impN (nd M (nd M i).l).l (nd M i).r) = A1 at n1 w1 i1 q1 l1 n2 w2 i2 q2 l2 e1 e2 ⊢
  generalize hA2 : putS A1.1 (impN (nd M (nd M i).l).r (nd M i).r) = A2 at n2 w2 i2 q2 l2 e2 ⊢
  refine ⟨w2, by omega, fun j hj => by rw [q2 j (xo hj l1), q1 j hj], fun p hp => ?_⟩
  rw [List.mem_singleton] at hp; subst hp
  exact ⟨jG _, xt.2 ⟨(uS (xf w2.len i2)).2 ⟨i2, (uS (xf w1.len i1)).2 ⟨xo i1 l2, fun j hj => xo (hdel j hj) (by omega)⟩⟩, xo hl2 (by omega)⟩⟩
 | impL h k c e1 =>
  obtain ⟨n1, w1, i1, q1, l1⟩ := vD hw e1
  generalize hA1 : putS M (impN (nd M (nd M i).l).r (nd M i).r) = A1 at n1 w1 i1 q1 l1 e1 ⊢
  obtain ⟨hx, hy⟩ := k345 (.inr (.inr k))
  refine ⟨w1, l1, q1, fun p hp => ?_⟩
  simp only [List.mem_cons, List.not_mem_nil, or_false] at hp
  rcases hp with rfl | rfl
  ·exact ⟨jG _, xt.2 ⟨(uS (xf w1.len i1)).2 ⟨i1, fun j hj => xo (hdel j hj) l1⟩, xo hx l1⟩⟩
  ·exact ⟨jG _, xt.2 ⟨(uS (xf hw.len hy)).2 ⟨xo hy l1, fun j hj => xo (hdel j hj) l1⟩, xo hl2 l1⟩⟩
theorem fits_inb {M : List Nd} {s : Sq} {r i : Int} (h : yG M s r i = true) : inb i M.length = true := (zah h).1
theorem choices_len {M : List Nd} {s : Sq} (hM : M.length ≤ 1024) : (jL M s).1.length = (jL M s).2.length ∧ (jL M s).1.length ≤ 4096 := by
 unfold jL
 have h1 : ((List.range M.length).filter fun (j : Nat) => s.left.has j && decide (onV M s.left j = 13)).length ≤ M.length := by simpa using List.length_filter_le (fun (j : Nat) => s.left.has j && decide (onV M s.left j = 13)) (List.range M.length)
 split
 ·split <;> simp <;> omega
 ·simp
end Go.Proofs.YtjebgcoknpcadaaGreatDoor
end
section
namespace Go.Proofs.YtjebgcoknpcadaaGreatDoor
open Gw
inductive Fm where
 | atom (a : Int)
 | bot
 | and (x y : Fm)
 | or (x y : Fm)
 | imp (x y : Fm)
structure Kr where
 W : Type
 le : W → W → Prop
 refl : ∀ w, le w w
 trans : ∀ {a b c : W}, le a b → le b c → le a c
 val : W → Int → Prop
 mono : ∀ {a b : W} {p : Int}, le a b → val a p → val b p
def Kr.fc (K : Kr) : Fm → K.W → Prop
 | .atom a, w => K.val w a
 | .bot, _ => False
 | .and x y, w => K.fc x w ∧ K.fc y w
 | .or x y, w => K.fc x w ∨ K.fc y w
 | .imp x y, w => ∀ v, K.le w v → K.fc x v → K.fc y v
theorem Kr.up (K : Kr) : ∀ (x : Fm) {w v : K.W}, K.le w v → K.fc x w → K.fc x v
 | .atom _, _, _, h, hx => K.mono h hx
 | .bot, _, _, _, hx => hx
 | .and x y, _, _, h, hx => ⟨K.up x h hx.1, K.up y h hx.2⟩
 | .or x y, _, _, h, hx => hx.imp (K.up x h) (K.up y h)
 | .imp x y, _, _, h, hx => fun u hu => hx u (K.trans h hu)
def fmF (M : List Nd) : Nat → Int → Fm
 | 0, _ => .bot
 | n + 1, i => if (nd M i).kind = 1 then .atom i else if (nd M i).kind = 3 then .and (fmF M n (nd M i).l) (fmF M n (nd M i).r) else if (nd M i).kind = 4 then .or (fmF M n (nd M i).l) (fmF M n (nd M i).r)
  else if (nd M i).kind = 5 then .imp (fmF M n (nd M i).l) (fmF M n (nd M i).r) else .bot
def fm (M : List Nd) (i : Int) : Fm := fmF M (i.toNat + 1) i
theorem fmF_two {M N : List Nd} (hw : Wf M) (hN : ∀ j : Int, inb j M.length = true → nd N j = nd M j) : ∀ (n m : Nat) (i : Int), inb i M.length = true → i.toNat < n → i.toNat < m → fmF N n i = fmF M m i := by
 intro n
 induction n with
 | zero => intro m i _ h; omega
 | succ n ih =>
  intro m i hi h1 h2
  obtain ⟨m, rfl⟩ : ∃ q, m = q + 1 := ⟨m - 1, by omega⟩
  rw [fmF, fmF, hN i hi]
  have hk := hw.kind i hi
  have h0 := xv hi
  by_cases k : (nd M i).kind = 3 ∨ (nd M i).kind = 4 ∨ (nd M i).kind = 5
  ·have hks := hw.kids i hi k
   rw [ih m _ (hw.left hi k) (by omega) (by omega), ih m _ (hw.right hi k) (by omega) (by omega)]
  ·have k12 : (nd M i).kind = 1 ∨ (nd M i).kind = 2 := by omega
   rcases k12 with k | k <;> simp [k]
theorem fm_ext {M N : List Nd} (hw : Wf M) (hN : ∀ j : Int, inb j M.length = true → nd N j = nd M j) {i : Int} (hi : inb i M.length = true) : fm N i = fm M i := fmF_two hw hN _ _ i hi (by omega) (by omega)
theorem fm_at {M : List Nd} (hw : Wf M) {i : Int} (hi : inb i M.length = true) {n : Nat} (h : i.toNat < n) : fmF M n i = fm M i := fmF_two hw (fun _ _ => rfl) _ _ i hi h (by omega)
theorem fm1 {M : List Nd} {i : Int} (k : (nd M i).kind = 1) : fm M i = .atom i := by simp [fm, fmF, k]
theorem fm2 {M : List Nd} {i : Int} (k : (nd M i).kind = 2) : fm M i = .bot := by simp [fm, fmF, k]
theorem fm3 {M : List Nd} (hw : Wf M) {i : Int} (hi : inb i M.length = true) (k : (nd M i).kind = 3) : fm M i = .and (fm M (nd M i).l) (fm M (nd M i).r) := by
 have h0 := xv hi
 have hks := hw.kids i hi (.inl k)
 rw [fm, fmF, if_neg (by omega), if_pos k, fm_at hw (hw.left hi (.inl k)) (by omega), fm_at hw (hw.right hi (.inl k)) (by omega)]
theorem fm4 {M : List Nd} (hw : Wf M) {i : Int} (hi : inb i M.length = true) (k : (nd M i).kind = 4) : fm M i = .or (fm M (nd M i).l) (fm M (nd M i).r) := by
 have h0 := xv hi
 have hks := hw.kids i hi (.inr (.inl k))
 rw [fm, fmF, if_neg (by omega), if_neg (by omega), if_pos k, fm_at hw (hw.left hi (.inr (.inl k))) (by omega), fm_at hw (hw.right hi (.inr (.inl k))) (by omega)]
theorem fm5 {M : List Nd} (hw : Wf M) {i : Int} (hi : inb i M.length = true) (k : (nd M i).kind = 5) : fm M i = .imp (fm M (nd M i).l) (fm M (nd M i).r) := by
 have h0 := xv hi
 have hks := hw.kids i hi (.inr (.inr k))
 rw [fm, fmF, if_neg (by omega), if_neg (by omega), if_neg (by omega), if_pos k, fm_at hw (hw.left hi (.inr (.inr k))) (by omega), fm_at hw (hw.right hi (.inr (.inr k))) (by omega)]
theorem fmI {N : List Nd} (hw : Wf N) {y a b : Int} (hi : inb y N.length = true) (hn : nd N y = impN a b) : fm N y = .imp (fm N a) (fm N b) := by
 rw [fm5 hw hi (by rw [hn]; rfl), hn]; rfl
def Hd (K : Kr) (w : K.W) (M : List Nd) (b : Bits) : Prop := ∀ j : Int, b.has j = true → K.fc (fm M j) w
theorem Hd.up {K : Kr} {w v : K.W} {M : List Nd} {b : Bits} (h : Hd K w M b) (hv : K.le w v) : Hd K v M b := fun j hj => K.up _ hv (h j hj)
def kx (M : List Nd) (s : Sq) : Prop := ∀ (K : Kr) (w : K.W), Hd K w M s.left → K.fc (fm M s.goal) w
def Refd (M : List Nd) (s : Sq) : Prop := ∃ (K : Kr) (w : K.W), Hd K w M s.left ∧ ¬ K.fc (fm M s.goal) w
theorem not_both {M : List Nd} {s : Sq} (h : kx M s) (k : Refd M s) : False := by
 obtain ⟨K, w, h1, h2⟩ := k
 exact h2 (h K w h1)
structure TExt (M N : List Nd) : Prop where
 len : M.length ≤ N.length
 eq : ∀ j : Int, inb j M.length = true → nd N j = nd M j
theorem TExt.refl (M : List Nd) : TExt M M := ⟨Nat.le_refl _, fun _ _ => rfl⟩
theorem TExt.trans {A B C : List Nd} (h : TExt A B) (k : TExt B C) : TExt A C := ⟨Nat.le_trans h.len k.len, fun j hj => by rw [k.eq j (xo hj h.len), h.eq j hj]⟩
theorem TExt.fm {M N : List Nd} (h : TExt M N) (hw : Wf M) {i : Int} (hi : inb i M.length = true) : fm N i = fm M i := fm_ext hw h.eq hi
theorem TExt.look {M N : List Nd} (h : TExt M N) {s : Sq} (hl : xJ M s = true) : xJ N s = true := by
 obtain ⟨k1, k2⟩ := xt.1 hl
 exact xt.2 ⟨fun j hj => xo (k1 j hj) h.len, xo k2 h.len⟩
theorem TExt.hd {M N : List Nd} (h : TExt M N) (hw : Wf M) {b : Bits} (hb : ∀ j : Int, b.has j = true → inb j M.length = true) (K : Kr) (w : K.W) : Hd K w N b ↔ Hd K w M b := by
 refine ⟨fun q j hj => ?_, fun q j hj => ?_⟩
 ·have := q j hj; rwa [h.fm hw (hb j hj)] at this
 ·rw [h.fm hw (hb j hj)]; exact q j hj
theorem TExt.valid {M N : List Nd} (h : TExt M N) (hw : Wf M) {s : Sq} (hl : xJ M s = true) : kx N s ↔ kx M s := by
 obtain ⟨k1, k2⟩ := xt.1 hl
 unfold kx
 refine forall_congr' fun K => forall_congr' fun w => ?_
 rw [h.hd hw k1, h.fm hw k2]
theorem TExt.refd {M N : List Nd} (h : TExt M N) (hw : Wf M) {s : Sq} (hl : xJ M s = true) : Refd N s ↔ Refd M s := by
 obtain ⟨k1, k2⟩ := xt.1 hl
 unfold Refd
 refine exists_congr fun K => exists_congr fun w => ?_
 rw [h.hd hw k1, h.fm hw k2]
theorem vF {K : Kr} {w : K.W} {M : List Nd} {b : Bits} {x : Int} (hx : 0 ≤ x ∧ x < 1024) : Hd K w M (b.add x) ↔ K.fc (fm M x) w ∧ Hd K w M b := uS hx
theorem ja {K : Kr} {w : K.W} {M : List Nd} {b : Bits} {x : Int} (hx : b.has x = true) : Hd K w M b ↔ K.fc (fm M x) w ∧ Hd K w M (b.del x) := all_del hx
theorem prem_valid {M N : List Nd} {s : Sq} {i r : Int} {L : List Sq} (hw : Wf M) (hb : s.left.okB = true) (hl : xJ M s = true) (hi : inb i M.length = true) (h : PremR M s i r N L) (hv : ∀ p ∈ L, kx N p) : kx N s := by
 obtain ⟨wN, lN, qN, _⟩ := kJ hw hb hl hi h
 have hE : TExt M N := ⟨lN, qN⟩
 have k345 : (nd M i).kind = 3 ∨ (nd M i).kind = 4 ∨ (nd M i).kind = 5 → (0 ≤ (nd M i).l ∧ (nd M i).l < 1024) ∧ (0 ≤ (nd M i).r ∧ (nd M i).r < 1024) := fun k => ⟨xf hw.len (hw.left hi k), xf hw.len (hw.right hi k)⟩
 have f3 : (nd M i).kind = 3 → fm N i = .and (fm N (nd M i).l) (fm N (nd M i).r) := fun k => by rw [hE.fm hw hi, hE.fm hw (hw.left hi (.inl k)), hE.fm hw (hw.right hi (.inl k))]; exact fm3 hw hi k
 have f4 : (nd M i).kind = 4 → fm N i = .or (fm N (nd M i).l) (fm N (nd M i).r) := fun k => by rw [hE.fm hw hi, hE.fm hw (hw.left hi (.inr (.inl k))), hE.fm hw (hw.right hi (.inr (.inl k)))]; exact fm4 hw hi k
 have f5 : (nd M i).kind = 5 → fm N i = .imp (fm N (nd M i).l) (fm N (nd M i).r) := fun k => by rw [hE.fm hw hi, hE.fm hw (hw.left hi (.inr (.inr k))), hE.fm hw (hw.right hi (.inr (.inr k)))]; exact fm5 hw hi k
 intro K w H
 cases h with
 | bot h k => have := H i h; rw [fm2 k] at this; exact this.elim
 | ax h g => rw [← g]; exact H i h
 | andL h k =>
  obtain ⟨hx, hy⟩ := k345 (.inl k)
  have h1 := (ja h).1 H
  rw [f3 k] at h1
  exact hv _ (List.mem_singleton.2 rfl) K w ((vF hy).2 ⟨h1.1.2, (vF hx).2 ⟨h1.1.1, h1.2⟩⟩)
 | atom h k c a =>
  obtain ⟨hx, hy⟩ := k345 (.inr (.inr k))
  have h1 := (ja h).1 H
  rw [f5 k] at h1
  exact hv _ (List.mem_singleton.2 rfl) K w ((vF hy).2 ⟨h1.1 w (K.refl w) (H _ a), h1.2⟩)
 | botL h k c => exact hv _ (List.mem_singleton.2 rfl) K w ((ja h).1 H).2
 | impR g k =>
  obtain ⟨hx, hy⟩ := k345 (.inr (.inr k))
  rw [← g, f5 k]
  intro v hwv hv1
  exact hv _ (List.mem_singleton.2 rfl) K v ((vF hx).2 ⟨hv1, H.up hwv⟩)
 | andR g k =>
  rw [← g, f3 k]
  exact ⟨hv _ (List.mem_cons_self ..) K w H, hv _ (List.mem_cons_of_mem _ (List.mem_cons_self ..)) K w H⟩
 | orL h k =>
  obtain ⟨hx, hy⟩ := k345 (.inr (.inl k))
  have h1 := (ja h).1 H
  rw [f4 k] at h1
  rcases h1.1 with q | q
  ·exact hv _ (List.mem_cons_self ..) K w ((vF hx).2 ⟨q, h1.2⟩)
  ·exact hv _ (List.mem_cons_of_mem _ (List.mem_cons_self ..)) K w ((vF hy).2 ⟨q, h1.2⟩)
 | orR1 g k =>
  rw [← g, f4 k]
  exact .inl (hv _ (List.mem_singleton.2 rfl) K w H)
 | orR2 g k =>
  rw [← g, f4 k]
  exact .inr (hv _ (List.mem_singleton.2 rfl) K w H)
 | conj h k c e1 e2 =>
  obtain ⟨n1, w1, i1, q1, l1⟩ := vD hw e1
  obtain ⟨n2, w2, i2, q2, l2⟩ := vD w1 e2
  generalize hA1 : putS M (impN (nd M (nd M i).l).r (nd M i).r) = A1 at *
  generalize hA2 : putS A1.1 (impN (nd M (nd M i).l).l A1.2.1) = A2 at *
  have hli := hw.left hi (.inr (.inr k))
  have fc : fm A2.1 (nd M i).l = .and (fm A2.1 (nd M (nd M i).l).l) (fm A2.1 (nd M (nd M i).l).r) := by rw [hE.fm hw hli, hE.fm hw (hw.left hli (.inl c)), hE.fm hw (hw.right hli (.inl c))]; exact fm3 hw hli c
  have fx : fm A2.1 A1.2.1 = .imp (fm A2.1 (nd M (nd M i).l).r) (fm A2.1 (nd M i).r) := fmI wN (xo i1 l2) (by rw [q2 _ i1]; exact n1)
  have fy : fm A2.1 A2.2.1 = .imp (fm A2.1 (nd M (nd M i).l).l) (fm A2.1 A1.2.1) := fmI wN i2 n2
  have h1 := (ja h).1 H
  rw [f5 k, fc] at h1
  refine hv _ (List.mem_singleton.2 rfl) K w ((vF (xf wN.len i2)).2 ⟨?_, h1.2⟩)
  rw [fy, fx]
  intro v hv1 hC u hu hD
  exact h1.1 u (K.trans hv1 hu) ⟨K.up _ hu hC, hD⟩
 | disj h k c e1 e2 =>
  obtain ⟨n1, w1, i1, q1, l1⟩ := vD hw e1
  obtain ⟨n2, w2, i2, q2, l2⟩ := vD w1 e2
  generalize hA1 : putS M (impN (nd M (nd M i).l).l (nd M i).r) = A1 at *
  generalize hA2 : putS A1.1 (impN (nd M (nd M i).l).r (nd M i).r) = A2 at *
  have hli := hw.left hi (.inr (.inr k))
  have fc : fm A2.1 (nd M i).l = .or (fm A2.1 (nd M (nd M i).l).l) (fm A2.1 (nd M (nd M i).l).r) := by rw [hE.fm hw hli, hE.fm hw (hw.left hli (.inr (.inl c))), hE.fm hw (hw.right hli (.inr (.inl c)))]; exact fm4 hw hli c
  have fx : fm A2.1 A1.2.1 = .imp (fm A2.1 (nd M (nd M i).l).l) (fm A2.1 (nd M i).r) := fmI wN (xo i1 l2) (by rw [q2 _ i1]; exact n1)
  have fy : fm A2.1 A2.2.1 = .imp (fm A2.1 (nd M (nd M i).l).r) (fm A2.1 (nd M i).r) := fmI wN i2 n2
  have h1 := (ja h).1 H
  rw [f5 k, fc] at h1
  refine hv _ (List.mem_singleton.2 rfl) K w ((vF (xf wN.len i2)).2 ⟨?_, (vF (xf w1.len i1)).2 ⟨?_, h1.2⟩⟩)
  ·rw [fy]; exact fun v hv1 hC => h1.1 v hv1 (.inr hC)
  ·rw [fx]; exact fun v hv1 hC => h1.1 v hv1 (.inl hC)
 | impL h k c e1 =>
  obtain ⟨n1, w1, i1, q1, l1⟩ := vD hw e1
  generalize hA1 : putS M (impN (nd M (nd M i).l).r (nd M i).r) = A1 at *
  have hli := hw.left hi (.inr (.inr k))
  obtain ⟨_, hy⟩ := k345 (.inr (.inr k))
  have fc : fm A1.1 (nd M i).l = .imp (fm A1.1 (nd M (nd M i).l).l) (fm A1.1 (nd M (nd M i).l).r) := by rw [hE.fm hw hli, hE.fm hw (hw.left hli (.inr (.inr c))), hE.fm hw (hw.right hli (.inr (.inr c)))]; exact fm5 hw hli c
  have fx : fm A1.1 A1.2.1 = .imp (fm A1.1 (nd M (nd M i).l).r) (fm A1.1 (nd M i).r) := fmI wN i1 n1
  have h1 := (ja h).1 H
  rw [f5 k] at h1
  have hCD : K.fc (fm A1.1 (nd M i).l) w := by
   refine hv _ (List.mem_cons_self ..) K w ((vF (xf wN.len i1)).2 ⟨?_, h1.2⟩)
   rw [fx]
   refine fun v hv1 hD => h1.1 v hv1 ?_
   rw [fc]
   exact fun u hu _ => K.up _ hu hD
  exact hv _ (List.mem_cons_of_mem _ (List.mem_cons_self ..)) K w ((vF hy).2 ⟨h1.1 w (K.refl w) hCD, h1.2⟩)
theorem prem_refd {M N : List Nd} {s p : Sq} {i r : Int} {L : List Sq} (hw : Wf M) (hb : s.left.okB = true) (hl : xJ M s = true) (hi : inb i M.length = true) (h : PremR M s i r N L) (hp : p ∈ L) (hr : r ≠ 11 ∧ r ≠ 12) (h13 : r = 13 → L[1]? = some p) (hv : Refd N p) : Refd N s := by
 obtain ⟨wN, lN, qN, _⟩ := kJ hw hb hl hi h
 have hE : TExt M N := ⟨lN, qN⟩
 have k345 : (nd M i).kind = 3 ∨ (nd M i).kind = 4 ∨ (nd M i).kind = 5 → (0 ≤ (nd M i).l ∧ (nd M i).l < 1024) ∧ (0 ≤ (nd M i).r ∧ (nd M i).r < 1024) := fun k => ⟨xf hw.len (hw.left hi k), xf hw.len (hw.right hi k)⟩
 have f3 : (nd M i).kind = 3 → fm N i = .and (fm N (nd M i).l) (fm N (nd M i).r) := fun k => by rw [hE.fm hw hi, hE.fm hw (hw.left hi (.inl k)), hE.fm hw (hw.right hi (.inl k))]; exact fm3 hw hi k
 have f4 : (nd M i).kind = 4 → fm N i = .or (fm N (nd M i).l) (fm N (nd M i).r) := fun k => by rw [hE.fm hw hi, hE.fm hw (hw.left hi (.inr (.inl k))), hE.fm hw (hw.right hi (.inr (.inl k)))]; exact fm4 hw hi k
 have f5 : (nd M i).kind = 5 → fm N i = .imp (fm N (nd M i).l) (fm N (nd M i).r) := fun k => by rw [hE.fm hw hi, hE.fm hw (hw.left hi (.inr (.inr k))), hE.fm hw (hw.right hi (.inr (.inr k)))]; exact fm5 hw hi k
 obtain ⟨K, w, H, hg⟩ := hv
 refine ⟨K, w, ?_⟩
 cases h with
 | bot h k => cases hp
 | ax h g => cases hp
 | andL h k =>
  obtain ⟨hx, hy⟩ := k345 (.inl k)
  rw [List.mem_singleton] at hp; subst hp
  obtain ⟨h1, h2⟩ := (vF hy).1 H
  obtain ⟨h3, h4⟩ := (vF hx).1 h2
  exact ⟨(ja h).2 ⟨by rw [f3 k]; exact ⟨h3, h1⟩, h4⟩, hg⟩
 | atom h k c a =>
  obtain ⟨hx, hy⟩ := k345 (.inr (.inr k))
  rw [List.mem_singleton] at hp; subst hp
  obtain ⟨h1, h2⟩ := (vF hy).1 H
  exact ⟨(ja h).2 ⟨by rw [f5 k]; exact fun v hv _ => K.up _ hv h1, h2⟩, hg⟩
 | botL h k c =>
  rw [List.mem_singleton] at hp; subst hp
  refine ⟨(ja h).2 ⟨?_, H⟩, hg⟩
  rw [f5 k, fm2 c]
  exact fun v _ q => q.elim
 | impR g k =>
  obtain ⟨hx, hy⟩ := k345 (.inr (.inr k))
  rw [List.mem_singleton] at hp; subst hp
  obtain ⟨h1, h2⟩ := (vF hx).1 H
  refine ⟨h2, ?_⟩
  rw [← g, f5 k]
  exact fun q => hg (q w (K.refl w) h1)
 | andR g k =>
  simp only [List.mem_cons, List.not_mem_nil, or_false] at hp
  rw [← g, f3 k]
  rcases hp with rfl | rfl
  ·exact ⟨H, fun q => hg q.1⟩
  ·exact ⟨H, fun q => hg q.2⟩
 | orL h k =>
  obtain ⟨hx, hy⟩ := k345 (.inr (.inl k))
  simp only [List.mem_cons, List.not_mem_nil, or_false] at hp
  rcases hp with rfl | rfl
  ·obtain ⟨h1, h2⟩ := (vF hx).1 H
   exact ⟨(ja h).2 ⟨by rw [f4 k]; exact .inl h1, h2⟩, hg⟩
  ·obtain ⟨h1, h2⟩ := (vF hy).1 H
   exact ⟨(ja h).2 ⟨by rw [f4 k]; exact .inr h1, h2⟩, hg⟩
 | orR1 g k => exact absurd rfl hr.1
 | orR2 g k => exact absurd rfl hr.2
 | conj h k c e1 e2 =>
  obtain ⟨n1, w1, i1, q1, l1⟩ := vD hw e1
  obtain ⟨n2, w2, i2, q2, l2⟩ := vD w1 e2
  generalize hA1 : putS M (impN (nd M (nd M i).l).r (nd M i).r) = A1 at *
  generalize hA2 : putS A1.1 (impN (nd M (nd M i).l).l A1.2.1) = A2 at *
  have hli := hw.left hi (.inr (.inr k))
  have fc : fm A2.1 (nd M i).l = .and (fm A2.1 (nd M (nd M i).l).l) (fm A2.1 (nd M (nd M i).l).r) := by rw [hE.fm hw hli, hE.fm hw (hw.left hli (.inl c)), hE.fm hw (hw.right hli (.inl c))]; exact fm3 hw hli c
  have fx : fm A2.1 A1.2.1 = .imp (fm A2.1 (nd M (nd M i).l).r) (fm A2.1 (nd M i).r) := fmI wN (xo i1 l2) (by rw [q2 _ i1]; exact n1)
  have fy : fm A2.1 A2.2.1 = .imp (fm A2.1 (nd M (nd M i).l).l) (fm A2.1 A1.2.1) := fmI wN i2 n2
  rw [List.mem_singleton] at hp; subst hp
  obtain ⟨h1, h2⟩ := (vF (xf wN.len i2)).1 H
  refine ⟨(ja h).2 ⟨?_, h2⟩, hg⟩
  rw [f5 k, fc]
  rw [fy, fx] at h1
  exact fun v hv q => h1 v hv q.1 v (K.refl v) q.2
 | disj h k c e1 e2 =>
  obtain ⟨n1, w1, i1, q1, l1⟩ := vD hw e1
  obtain ⟨n2, w2, i2, q2, l2⟩ := vD w1 e2
  generalize hA1 : putS M (impN (nd M (nd M i).l).l (nd M i).r) = A1 at *
  generalize hA2 : putS A1.1 (impN (nd M (nd M i).l).r (nd M i).r) = A2 at *
  have hli := hw.left hi (.inr (.inr k))
  have fc : fm A2.1 (nd M i).l = .or (fm A2.1 (nd M (nd M i).l).l) (fm A2.1 (nd M (nd M i).l).r) := by rw [hE.fm hw hli, hE.fm hw (hw.left hli (.inr (.inl c))), hE.fm hw (hw.right hli (.inr (.inl c)))]; exact fm4 hw hli c
  have fx : fm A2.1 A1.2.1 = .imp (fm A2.1 (nd M (nd M i).l).l) (fm A2.1 (nd M i).r) := fmI wN (xo i1 l2) (by rw [q2 _ i1]; exact n1)
  have fy : fm A2.1 A2.2.1 = .imp (fm A2.1 (nd M (nd M i).l).r) (fm A2.1 (nd M i).r) := fmI wN i2 n2
  rw [List.mem_singleton] at hp; subst hp
  obtain ⟨h1, h2⟩ := (vF (xf wN.len i2)).1 H
  obtain ⟨h3, h4⟩ := (vF (xf w1.len i1)).1 h2
  refine ⟨(ja h).2 ⟨?_, h4⟩, hg⟩
  rw [f5 k, fc]
  rw [fy] at h1
  rw [fx] at h3
  exact fun v hv q => q.elim (h3 v hv) (h1 v hv)
 | impL h k c e1 =>
  obtain ⟨_, hy⟩ := k345 (.inr (.inr k))
  have hp := h13 rfl
  simp only [List.getElem?_cons_succ, List.getElem?_cons_zero, Option.some.injEq] at hp
  subst hp
  obtain ⟨h1, h2⟩ := (vF hy).1 H
  refine ⟨(ja h).2 ⟨?_, h2⟩, hg⟩
  rw [f5 k]
  exact fun v hv _ => K.up _ hv h1
end Go.Proofs.YtjebgcoknpcadaaGreatDoor
end
section
namespace Go.Proofs.YtjebgcoknpcadaaGreatDoor
open Gw
section
variable {ι : Type} (K : ι → Kr) (w0 : ∀ i, (K i).W)
inductive GLe : Option (Σ i, (K i).W) → Option (Σ i, (K i).W) → Prop
 | root : GLe none none
 | down {i : ι} {v : (K i).W} (h : (K i).le (w0 i) v) : GLe none (some ⟨i, v⟩)
 | inn {i : ι} {u v : (K i).W} (h : (K i).le u v) : GLe (some ⟨i, u⟩) (some ⟨i, v⟩)
theorem GLe.trans {a b c : Option (Σ i, (K i).W)} (h : GLe K w0 a b) (k : GLe K w0 b c) : GLe K w0 a c := by
 cases h with
 | root => exact k
 | down h =>
  cases k with
  | inn k => exact .down ((K _).trans h k)
 | inn h =>
  cases k with
  | inn k => exact .inn ((K _).trans h k)
def gval (at0 : Int → Prop) : Option (Σ i, (K i).W) → Int → Prop
 | none, a => at0 a
 | some ⟨i, v⟩, a => (K i).val v a
def glue (at0 : Int → Prop) (h0 : ∀ a i, at0 a → (K i).val (w0 i) a) : Kr where
 W := Option (Σ i, (K i).W)
 le := GLe K w0
 refl := fun w => match w with
  | none => .root
  | some ⟨i, v⟩ => .inn ((K i).refl v)
 trans := GLe.trans K w0
 val := gval K at0
 mono := fun {a b p} h hp => by
  cases h with
  | root => exact hp
  | down h => exact (K _).mono h (h0 _ _ hp)
  | inn h => exact (K _).mono h hp
theorem kI {at0 : Int → Prop} {h0 : ∀ a i, at0 a → (K i).val (w0 i) a} : ∀ (x : Fm) (i : ι) (v : (K i).W), (glue K w0 at0 h0).fc x (some ⟨i, v⟩) ↔ (K i).fc x v
 | .atom a, i, v => Iff.rfl
 | .bot, i, v => Iff.rfl
 | .and x y, i, v => and_congr (kI x i v) (kI y i v)
 | .or x y, i, v => or_congr (kI x i v) (kI y i v)
 | .imp x y, i, v => by
  constructor
  ·intro h u hu hx
   exact (kI y i u).1 (h (some ⟨i, u⟩) (.inn hu) ((kI x i u).2 hx))
  ·intro h u hu hx
   cases hu with
   | inn hu => exact (kI y i _).2 (h _ hu ((kI x i _).1 hx))
end
theorem stuck_refd {N : List Nd} {s : Sq} (hw : Wf N) (hl : xJ N s = true)
  (hk : ∀ j : Int, s.left.has j = true → (nd N j).kind = 1 ∨ ((nd N j).kind = 5 ∧ (nd N (nd N j).l).kind = 1 ∧ s.left.has (nd N j).l = false) ∨ ((nd N j).kind = 5 ∧ (nd N (nd N j).l).kind = 5))
  (hg : ((nd N s.goal).kind = 1 ∧ s.left.has s.goal = false) ∨ (nd N s.goal).kind = 2 ∨ (nd N s.goal).kind = 4)
  (hor : (nd N s.goal).kind = 4 → Refd N ⟨s.left, (nd N s.goal).l⟩ ∧ Refd N ⟨s.left, (nd N s.goal).r⟩)
  (himp : ∀ j : Int, s.left.has j = true → (nd N j).kind = 5 → (nd N (nd N j).l).kind = 5 → ∃ d : Int, (0 ≤ d ∧ d < 1024) ∧ fm N d = .imp (fm N (nd N (nd N j).l).r) (fm N (nd N j).r) ∧ Refd N ⟨(s.left.del j).add d, (nd N j).l⟩) : Refd N s := by
 obtain ⟨hin, hgin⟩ := xt.1 hl
 let Rel : Int → Prop := fun x => (x = -1 ∧ (nd N s.goal).kind = 4) ∨ (x = -2 ∧ (nd N s.goal).kind = 4) ∨ (0 ≤ x ∧ s.left.has x = true ∧ (nd N x).kind = 5 ∧ (nd N (nd N x).l).kind = 5)
 let tgt : Int → Int := fun x => if x = -1 then (nd N s.goal).l else if x = -2 then (nd N s.goal).r else (nd N x).l
 have hex : ∀ x : { x : Int // Rel x }, ∃ (K : Kr) (w : K.W), Hd K w N s.left ∧ ¬ K.fc (fm N (tgt x.1)) w := by
  rintro ⟨x, hx⟩
  rcases hx with ⟨rfl, h4⟩ | ⟨rfl, h4⟩ | ⟨h0, hh, k5, l5⟩
  ·obtain ⟨K, w, h1, h2⟩ := (hor h4).1
   exact ⟨K, w, h1, h2⟩
  ·obtain ⟨K, w, h1, h2⟩ := (hor h4).2
   exact ⟨K, w, h1, h2⟩
  ·obtain ⟨d, hd, fd, K, w, h1, h2⟩ := himp x hh k5 l5
   have ht : tgt x = (nd N x).l := by
    show (if x = -1 then _ else if x = -2 then _ else _) = _
    rw [if_neg (by omega), if_neg (by omega)]
   have hi := hin x hh
   have hli := hw.left hi (.inr (.inr k5))
   obtain ⟨h3, h4⟩ := (vF hd).1 h1
   rw [fd] at h3
   have hfl := fm5 hw hli l5
   simp only at h2
   rw [hfl] at h2
   have hv : ∃ v, K.le w v ∧ K.fc (fm N (nd N (nd N x).l).l) v ∧ ¬ K.fc (fm N (nd N (nd N x).l).r) v := by
    refine Classical.byContradiction fun q => h2 fun v hv hC => Classical.byContradiction fun hD => q ⟨v, hv, hC, hD⟩
   obtain ⟨v, hv, hC, hD⟩ := hv
   refine ⟨K, v, (ja hh).2 ⟨?_, h4.up hv⟩, ?_⟩
   ·rw [fm5 hw hi k5, hfl]
    intro u hu q
    exact h3 u (K.trans hv hu) (q u (K.refl u) (K.up _ hu hC))
   ·show ¬ K.fc (fm N (tgt x)) v
    rw [ht, hfl]
    exact fun q => hD (q v (K.refl v) hC)
 obtain ⟨K, hK⟩ := Classical.axiomOfChoice hex
 obtain ⟨w0, hw0⟩ := Classical.axiomOfChoice hK
 let at0 : Int → Prop := fun a => s.left.has a = true ∧ (nd N a).kind = 1
 have h0 : ∀ a i, at0 a → (K i).val (w0 i) a := by
  rintro a i ⟨h1, h2⟩
  have := (hw0 i).1 a h1
  rw [fm1 h2] at this; exact this
 have hinn : ∀ (x : Fm) (i : { x : Int // Rel x }) (v : (K i).W), (glue K w0 at0 h0).fc x (some ⟨i, v⟩) ↔ (K i).fc x v := kI K w0
 have hdown : ∀ (x : Fm) (i : { x : Int // Rel x }), (glue K w0 at0 h0).fc x none → (K i).fc x (w0 i) := fun x i h => (hinn x i _).1 ((glue K w0 at0 h0).up x (GLe.down ((K i).refl _)) h)
 refine ⟨glue K w0 at0 h0, none, fun j hj => ?_, ?_⟩
 ·have hi := hin j hj
  rcases hk j hj with k1 | ⟨k5, l1, hn⟩ | ⟨k5, l5⟩
  ·rw [fm1 k1]; exact ⟨hj, k1⟩
  ·have hf := fm5 hw hi k5
   rw [hf]
   intro v hv q
   cases hv with
   | root =>
    rw [fm1 l1] at q
    exact absurd q.1 (by rw [hn]; simp)
   | @down i' v' hv =>
    have := (hw0 i').1 j hj
    rw [hf] at this
    exact (hinn _ _ _).2 (this _ hv ((hinn _ _ _).1 q))
  ·have hf := fm5 hw hi k5
   rw [hf]
   intro v hv q
   cases hv with
   | root =>
    have hr : Rel j := .inr (.inr ⟨(xv hi).1, hj, k5, l5⟩)
    have ht : tgt j = (nd N j).l := by
     show (if j = -1 then _ else if j = -2 then _ else _) = _
     have := (xv hi).1
     rw [if_neg (by omega), if_neg (by omega)]
    have h2 := (hw0 ⟨j, hr⟩).2
    simp only [ht] at h2
    exact absurd (hdown _ ⟨j, hr⟩ q) h2
   | @down i' v' hv =>
    have := (hw0 i').1 j hj
    rw [hf] at this
    exact (hinn _ _ _).2 (this _ hv ((hinn _ _ _).1 q))
 ·rcases hg with ⟨k1, hn⟩ | k2 | k4
  ·rw [fm1 k1]
   exact fun q => absurd q.1 (by rw [hn]; simp)
  ·rw [fm2 k2]; exact fun q => q
  ·rw [fm4 hw hgin k4]
   rintro (q | q)
   ·have hr : Rel (-1) := .inl ⟨rfl, k4⟩
    exact (hw0 ⟨-1, hr⟩).2 (hdown _ ⟨-1, hr⟩ q)
   ·have hr : Rel (-2) := .inr (.inl ⟨rfl, k4⟩)
    exact (hw0 ⟨-2, hr⟩).2 (hdown _ ⟨-2, hr⟩ q)
end Go.Proofs.YtjebgcoknpcadaaGreatDoor
end
section
namespace Go.Proofs.YtjebgcoknpcadaaGreatDoor
open Gw
set_option maxRecDepth 100000
abbrev wt (W : List Int) (i : Int) : Int := at_ (0 : Int) W i
def Falls (l : List Int) : Prop := l.Pairwise fun a b => b ≤ a
def fms (s : Sq) : List Int := s.left.list.map (fun (n : Nat) => (n : Int)) ++ [s.goal]
def zbe : List Int → List Int → Bool
 | [], b => !b.isEmpty
 | _ :: _, [] => false
 | x :: a, y :: b => if x = y then zbe a b else decide (x < y)
theorem less_of_count {m : Int} : ∀ {a b : List Int}, Falls a → Falls b → (∀ u, m ≤ u → a.count u ≤ b.count u) → a.count m < b.count m → zbe a b = true
 | _, [], _, _, _, h => by simp at h
 | [], _ :: _, _, _, _, _ => rfl
 | x :: a, y :: b, ha, hb, hu, hm => by
  have ha' := List.pairwise_cons.1 ha
  have hb' := List.pairwise_cons.1 hb
  rw [zbe]
  by_cases e : x = y
  ·subst e
   rw [if_pos rfl]
   refine less_of_count (m := m) ha'.2 hb'.2 (fun u h => ?_) ?_
   ·have := hu u h
    rw [List.count_cons, List.count_cons] at this
    omega
   ·rw [List.count_cons, List.count_cons] at hm
    omega
  ·rw [if_neg e, decide_eq_true_eq]
   refine Int.lt_iff_le_and_ne.2 ⟨Int.not_lt.1 fun hlt => ?_, e⟩
   have hz : ∀ u, y < u → (y :: b).count u = 0 := fun u h => List.count_eq_zero.2 fun q => by
    rcases List.mem_cons.1 q with rfl | q
    ·omega
    ·have := hb'.1 u q; omega
   by_cases hxm : m ≤ x
   ·have h1 := hu x hxm
    rw [hz x hlt, List.count_cons_self] at h1
    omega
   ·rw [hz m (by omega)] at hm; omega
end Go.Proofs.YtjebgcoknpcadaaGreatDoor
end
section
namespace Go.Proofs.YtjebgcoknpcadaaGreatDoor
open Gw
end Go.Proofs.YtjebgcoknpcadaaGreatDoor
end
section
namespace Go.Proofs.YtjebgcoknpcadaaGreatDoor
open Gw
set_option maxRecDepth 100000
theorem countP_lt {α : Type} {p q : α → Bool} : ∀ {l : List α}, (∀ x ∈ l, p x = true → q x = true) → (∃ x ∈ l, q x = true ∧ p x = false) → l.countP p < l.countP q
 | [], _, h => by obtain ⟨x, hx, _⟩ := h; cases hx
 | y :: l, h, hs => by
  have hm : l.countP p ≤ l.countP q := List.countP_mono_left fun x hx => h x (List.mem_cons_of_mem _ hx)
  rw [List.countP_cons, List.countP_cons]
  have hy := h y (List.mem_cons_self ..)
  obtain ⟨x, hx, h1, h2⟩ := hs
  rcases List.mem_cons.1 hx with rfl | hx
  ·simp only [h1, h2, if_true, Bool.false_eq_true, if_false]; omega
  ·have := countP_lt (l := l) (fun x hx => h x (List.mem_cons_of_mem _ hx)) ⟨x, hx, h1, h2⟩
   by_cases hp : p y = true
   ·simp only [hp, hy hp, if_true]; omega
   ·simp only [hp, Bool.false_eq_true, if_false]; omega
def cl (W : List Int) (b : Bits) (u : Int) : Nat := b.list.countP fun (j : Nat) => decide (wt W j = u)
theorem cl_eq (W : List Int) (b : Bits) (u : Int) : cl W b u = (List.range 1024).countP fun (j : Nat) => decide (wt W j = u) && b.has j := by
 unfold cl Bits.list; rw [List.countP_filter]
theorem cl_le {W : List Int} {b c : Bits} {u : Int} (h : ∀ j : Int, c.has j = true → wt W j = u → b.has j = true) : cl W c u ≤ cl W b u := by
 rw [cl_eq, cl_eq]
 refine List.countP_mono_left fun j _ hj => ?_
 simp only [Bool.and_eq_true, decide_eq_true_eq] at hj ⊢
 exact ⟨hj.1, h _ hj.2 hj.1⟩
theorem cl_lt {W : List Int} {b c : Bits} {u i : Int} (h : ∀ j : Int, c.has j = true → wt W j = u → b.has j = true) (hi : b.has i = true) (hu : wt W i = u) (hn : c.has i = false) : cl W c u < cl W b u := by
 rw [cl_eq, cl_eq]
 have hr : 0 ≤ i ∧ i < 1024 := by
  refine Decidable.byContradiction fun q => ?_
  rw [Bits.has_out _ _ (by omega)] at hi; cases hi
 have hin : ((i.toNat : Nat) : Int) = i := by omega
 refine countP_lt (fun j _ hj => ?_) ⟨i.toNat, List.mem_range.2 (by omega), ?_, ?_⟩
 ·simp only [Bool.and_eq_true, decide_eq_true_eq] at hj ⊢
  exact ⟨hj.1, h _ hj.2 hj.1⟩
 ·rw [hin, hi, hu]; simp
 ·rw [hin, hn]; simp
theorem zaq (W : List Int) (s : Sq) (u : Int) : ((fms s).map (wt W)).count u = cl W s.left u + if wt W s.goal = u then 1 else 0 := by
 unfold fms cl
 rw [List.map_append, List.count_append, List.map_map, List.map_singleton, List.count_singleton, List.count_eq_countP, List.countP_map]
 congr 1
 by_cases h : wt W s.goal = u <;> simp [h]
def Lighter (W : List Int) (m : Int) (p s : Sq) : Prop := (∀ u, m ≤ u → ((fms p).map (wt W)).count u ≤ ((fms s).map (wt W)).count u) ∧ ((fms p).map (wt W)).count m < ((fms s).map (wt W)).count m
theorem ve {W : List Int} {m i : Int} {p s : Sq} (hm : wt W i = m) (his : s.left.has i = true) (hl : ∀ j : Int, p.left.has j = true → (s.left.has j = true ∧ j ≠ i) ∨ wt W j < m) (hg : p.goal = s.goal ∨ wt W p.goal < m) : Lighter W m p s := by
 have h1 : ∀ u, m ≤ u → ∀ j : Int, p.left.has j = true → wt W j = u → s.left.has j = true := fun u hu j hj e => (hl j hj).elim (·.1) (fun q => by omega)
 have h2 : p.left.has i = false := by
  cases h : p.left.has i with
  | false => rfl
  | true => exact ((hl i h).elim (fun q => absurd rfl q.2) (fun q => by omega))
 refine ⟨fun u hu => ?_, ?_⟩
 ·rw [zaq, zaq]
  have := cl_le (h1 u hu)
  rcases hg with e | e
  ·rw [e]; omega
  ·rw [if_neg (by omega)]; omega
 ·rw [zaq, zaq]
  have := cl_lt (h1 m (Int.le_refl _)) his hm h2
  rcases hg with e | e
  ·rw [e]; omega
  ·rw [if_neg (by omega)]; omega
theorem jc {W : List Int} {m : Int} {p s : Sq} (hm : wt W s.goal = m) (hl : ∀ j : Int, p.left.has j = true → s.left.has j = true ∨ wt W j < m) (hg : wt W p.goal < m) : Lighter W m p s := by
 have h1 : ∀ u, m ≤ u → ∀ j : Int, p.left.has j = true → wt W j = u → s.left.has j = true := fun u hu j hj e => (hl j hj).elim id (fun q => by omega)
 refine ⟨fun u hu => ?_, ?_⟩
 ·rw [zaq, zaq]
  have := cl_le (h1 u hu)
  rw [if_neg (by omega)]; omega
 ·rw [zaq, zaq]
  have := cl_le (h1 m (Int.le_refl _))
  rw [if_neg (by omega), if_pos hm]; omega
theorem uG {b : Bits} {x j : Int} (hx : 0 ≤ x ∧ x < 1024) (h : (b.add x).has j = true) : j = x ∨ b.has j = true := by
 rw [Bits.add_has _ _ _ hx] at h
 simpa using h
theorem jd {b : Bits} {x j : Int} (h : (b.del x).has j = true) : b.has j = true ∧ j ≠ x := by
 rw [Bits.del_has] at h
 simp only [Bool.and_eq_true, Bool.not_eq_true', decide_eq_false_iff_not] at h
 exact ⟨h.2, h.1⟩
theorem fms_inb {N : List Nd} {s : Sq} (hl : xJ N s = true) : ∀ x ∈ fms s, inb x N.length = true := by
 obtain ⟨l1, l2⟩ := xt.1 hl
 intro x hx
 rcases List.mem_append.1 hx with hx | hx
 ·obtain ⟨j, hj, rfl⟩ := List.mem_map.1 hx
  exact l1 j (Bits.mem_list.1 hj).2
 ·rw [List.mem_singleton.1 hx]; exact l2
theorem prem_len {M N : List Nd} {s : Sq} {i r : Int} {L : List Sq} (h : PremR M s i r N L) : L.length ≤ 2 := by cases h <;> simp
end Go.Proofs.YtjebgcoknpcadaaGreatDoor
end
section
namespace Go.Proofs.YtjebgcoknpcadaaGreatDoor
open Gw
def uwF (M : List Nd) : Nat → Int → Int
 | 0, _ => 1
 | n + 1, i => if (nd M i).kind = 1 ∨ (nd M i).kind = 2 then 1 else uwF M n (nd M i).l + uwF M n (nd M i).r + (if (nd M i).kind = 3 then 2 else 1)
def uw (M : List Nd) : List Int := (List.range M.length).map fun (j : Nat) => uwF M (j + 1) j
theorem uwF_two {M N : List Nd} (hw : Wf M) (hN : ∀ j : Int, inb j M.length = true → nd N j = nd M j) : ∀ (n m : Nat) (i : Int), inb i M.length = true → i.toNat < n → i.toNat < m → uwF N n i = uwF M m i := by
 intro n
 induction n with
 | zero => intro m i _ h; omega
 | succ n ih =>
  intro m i hi h1 h2
  obtain ⟨m, rfl⟩ : ∃ q, m = q + 1 := ⟨m - 1, by omega⟩
  rw [uwF, uwF, hN i hi]
  have hk := hw.kind i hi
  have h0 := xv hi
  by_cases k12 : (nd M i).kind = 1 ∨ (nd M i).kind = 2
  ·rw [if_pos k12, if_pos k12]
  ·have k : (nd M i).kind = 3 ∨ (nd M i).kind = 4 ∨ (nd M i).kind = 5 := by omega
   have hks := hw.kids i hi k
   rw [if_neg k12, if_neg k12, ih m _ (hw.left hi k) (by omega) (by omega), ih m _ (hw.right hi k) (by omega) (by omega)]
theorem uw_at {M : List Nd} {i : Int} (hi : inb i M.length = true) : wt (uw M) i = uwF M (i.toNat + 1) i := by
 have h0 := xv hi
 have h1 : i.toNat < M.length := by omega
 unfold wt at_ uw
 rw [List.getD_eq_getElem?_getD, List.getElem?_map, List.getElem?_range h1]
 have : ((i.toNat : Nat) : Int) = i := by omega
 simp [this]
theorem uwF_pos (M : List Nd) : ∀ (n : Nat) (i : Int), 1 ≤ uwF M n i
 | 0, _ => by simp [uwF]
 | n + 1, i => by
  have h1 := uwF_pos M n (nd M i).l
  have h2 := uwF_pos M n (nd M i).r
  rw [uwF]
  split
  ·omega
  ·split <;> omega
theorem uw_ext {M N : List Nd} (hw : Wf M) (h : TExt M N) {i : Int} (hi : inb i M.length = true) : wt (uw N) i = wt (uw M) i := by
 rw [uw_at hi, uw_at (xo hi h.len)]
 exact uwF_two hw h.eq _ _ i hi (by omega) (by omega)
theorem w_unc {N : List Nd} {i : Int} (hw : Wf N) (hi : inb i N.length = true) (hk : (nd N i).kind = 3 ∨ (nd N i).kind = 4 ∨ (nd N i).kind = 5) :
  wt (uw N) i = wt (uw N) (nd N i).l + wt (uw N) (nd N i).r + (if (nd N i).kind = 3 then 2 else 1) ∧ 1 ≤ wt (uw N) (nd N i).l ∧ 1 ≤ wt (uw N) (nd N i).r := by
 have hl := hw.left hi hk
 have hr := hw.right hi hk
 have hks := hw.kids i hi hk
 rw [uw_at hi, uw_at hl, uw_at hr]
 refine ⟨?_, uwF_pos _ _ _, uwF_pos _ _ _⟩
 rw [uwF, if_neg (by omega), uwF_two hw (fun _ _ => rfl) i.toNat ((nd N i).l.toNat + 1) _ hl (by omega) (by omega), uwF_two hw (fun _ _ => rfl) i.toNat ((nd N i).r.toNat + 1) _ hr (by omega) (by omega)]
theorem w_new' {N : List Nd} {y a b : Int} (hw : Wf N) (hi : inb y N.length = true) (hn : nd N y = impN a b) : wt (uw N) y ≤ wt (uw N) a + wt (uw N) b + 1 := by
 have hk : (nd N y).kind = 5 := by rw [hn]; rfl
 have h := (w_unc hw hi (.inr (.inr hk))).1
 have e2 : (impN a b).l = a := rfl
 have e3 : (impN a b).r = b := rfl
 rw [if_neg (by omega), hn, e2, e3] at h
 omega
theorem prem_lighter {M N : List Nd} {s : Sq} {i r : Int} {L : List Sq} (hw : Wf M) (hb : s.left.okB = true) (hl : xJ M s = true) (hi : inb i M.length = true) (h : PremR M s i r N L) : ∀ p ∈ L, Lighter (uw N) (wt (uw N) i) p s := by
 obtain ⟨wN, lN, qN, _⟩ := kJ hw hb hl hi h
 have hiN := xo hi lN
 have mn : (s.left.has i = true ∨ i = s.goal) → (nd M i).kind = 3 ∨ (nd M i).kind = 4 ∨ (nd M i).kind = 5 → wt (uw N) i = wt (uw N) (nd M i).l + wt (uw N) (nd M i).r + (if (nd M i).kind = 3 then 2 else 1) ∧ 1 ≤ wt (uw N) (nd M i).l ∧ 1 ≤ wt (uw N) (nd M i).r := fun _ k => by
  have := w_unc wN hiN (by rw [qN i hi]; exact k)
  rw [qN i hi] at this; exact this
 have mn2 : s.left.has i = true → (nd M i).kind = 5 → (nd M (nd M i).l).kind = 3 ∨ (nd M (nd M i).l).kind = 4 ∨ (nd M (nd M i).l).kind = 5 → wt (uw N) (nd M i).l = wt (uw N) (nd M (nd M i).l).l + wt (uw N) (nd M (nd M i).l).r + (if (nd M (nd M i).l).kind = 3 then 2 else 1) ∧ 1 ≤ wt (uw N) (nd M (nd M i).l).l ∧ 1 ≤ wt (uw N) (nd M (nd M i).l).r := fun _ k k2 => by
  have hli := hw.left hi (.inr (.inr k))
  have := w_unc wN (xo hli lN) (by rw [qN _ hli]; exact k2)
  rw [qN _ hli] at this; exact this
 have k345 : (nd M i).kind = 3 ∨ (nd M i).kind = 4 ∨ (nd M i).kind = 5 → (0 ≤ (nd M i).l ∧ (nd M i).l < 1024) ∧ (0 ≤ (nd M i).r ∧ (nd M i).r < 1024) := fun k => ⟨xf hw.len (hw.left hi k), xf hw.len (hw.right hi k)⟩
 cases h with
 | bot h k => intro p hp; cases hp
 | ax h g => intro p hp; cases hp
 | andL h k =>
  obtain ⟨hx, hy⟩ := k345 (.inl k)
  have := mn (.inl h) (.inl k)
  rw [if_pos k] at this
  intro p hp
  rw [List.mem_singleton] at hp; subst hp
  refine ve rfl h (fun j hj => ?_) (.inl rfl)
  rcases uG hy hj with rfl | hj
  ·exact .inr (by omega)
  rcases uG hx hj with rfl | hj
  ·exact .inr (by omega)
  ·exact .inl (jd hj)
 | atom h k c a =>
  obtain ⟨hx, hy⟩ := k345 (.inr (.inr k))
  have := mn (.inl h) (.inr (.inr k))
  rw [if_neg (by omega)] at this
  intro p hp
  rw [List.mem_singleton] at hp; subst hp
  refine ve rfl h (fun j hj => ?_) (.inl rfl)
  rcases uG hy hj with rfl | hj
  ·exact .inr (by omega)
  ·exact .inl (jd hj)
 | botL h k c =>
  intro p hp
  rw [List.mem_singleton] at hp; subst hp
  exact ve rfl h (fun j hj => .inl (jd hj)) (.inl rfl)
 | impR g k =>
  obtain ⟨hx, hy⟩ := k345 (.inr (.inr k))
  have := mn (.inr g) (.inr (.inr k))
  rw [if_neg (by omega)] at this
  intro p hp
  rw [List.mem_singleton] at hp; subst hp
  refine jc (by rw [g]) (fun j hj => ?_) (by show wt (uw _) (nd M i).r < _; omega)
  rcases uG hx hj with rfl | hj
  ·exact .inr (by omega)
  ·exact .inl hj
 | andR g k =>
  have := mn (.inr g) (.inl k)
  rw [if_pos k] at this
  intro p hp
  simp only [List.mem_cons, List.not_mem_nil, or_false] at hp
  rcases hp with rfl | rfl
  ·exact jc (by rw [g]) (fun j hj => .inl hj) (by show wt (uw _) (nd M i).l < _; omega)
  ·exact jc (by rw [g]) (fun j hj => .inl hj) (by show wt (uw _) (nd M i).r < _; omega)
 | orL h k =>
  obtain ⟨hx, hy⟩ := k345 (.inr (.inl k))
  have := mn (.inl h) (.inr (.inl k))
  rw [if_neg (by omega)] at this
  intro p hp
  simp only [List.mem_cons, List.not_mem_nil, or_false] at hp
  rcases hp with rfl | rfl
  ·refine ve rfl h (fun j hj => ?_) (.inl rfl)
   rcases uG hx hj with rfl | hj
   ·exact .inr (by omega)
   ·exact .inl (jd hj)
  ·refine ve rfl h (fun j hj => ?_) (.inl rfl)
   rcases uG hy hj with rfl | hj
   ·exact .inr (by omega)
   ·exact .inl (jd hj)
 | orR1 g k =>
  have := mn (.inr g) (.inr (.inl k))
  rw [if_neg (by omega)] at this
  intro p hp
  rw [List.mem_singleton] at hp; subst hp
  exact jc (by rw [g]) (fun j hj => .inl hj) (by show wt (uw _) (nd M i).l < _; omega)
 | orR2 g k =>
  have := mn (.inr g) (.inr (.inl k))
  rw [if_neg (by omega)] at this
  intro p hp
  rw [List.mem_singleton] at hp; subst hp
  exact jc (by rw [g]) (fun j hj => .inl hj) (by show wt (uw _) (nd M i).r < _; omega)
 | conj h k c e1 e2 =>
  have m1 := mn (.inl h) (.inr (.inr k))
  have m2 := mn2 h k (.inl c)
  rw [if_neg (by omega)] at m1
  rw [if_pos c] at m2
  obtain ⟨n1, w1, i1, q1, l1⟩ := vD hw e1
  obtain ⟨n2, w2, i2, q2, l2⟩ := vD w1 e2
  generalize hA1 : putS M (impN (nd M (nd M i).l).r (nd M i).r) = A1 at n1 w1 i1 q1 l1 n2 w2 i2 q2 l2 wN mn mn2 m1 m2 e1 e2 ⊢
  generalize hA2 : putS A1.1 (impN (nd M (nd M i).l).l A1.2.1) = A2 at n2 w2 i2 q2 l2 wN mn mn2 m1 m2 e2 ⊢
  have v1 := w_new' wN (xo i1 l2) (by rw [q2 _ i1]; exact n1)
  have v2 := w_new' wN i2 n2
  intro p hp
  rw [List.mem_singleton] at hp; subst hp
  refine ve rfl h (fun j hj => ?_) (.inl rfl)
  rcases uG (xf w2.len i2) hj with rfl | hj
  ·exact .inr (by omega)
  ·exact .inl (jd hj)
 | disj h k c e1 e2 =>
  have m1 := mn (.inl h) (.inr (.inr k))
  have m2 := mn2 h k (.inr (.inl c))
  rw [if_neg (by omega)] at m1 m2
  obtain ⟨n1, w1, i1, q1, l1⟩ := vD hw e1
  obtain ⟨n2, w2, i2, q2, l2⟩ := vD w1 e2
  generalize hA1 : putS M (impN (nd M (nd M i).l).l (nd M i).r) = A1 at n1 w1 i1 q1 l1 n2 w2 i2 q2 l2 wN mn mn2 m1 m2 e1 e2 ⊢
  generalize hA2 : putS A1.1 (impN (nd M (nd M i).l).r (nd M i).r) = A2 at n2 w2 i2 q2 l2 wN mn mn2 m1 m2 e2 ⊢
  have v1 := w_new' wN (xo i1 l2) (by rw [q2 _ i1]; exact n1)
  have v2 := w_new' wN i2 n2
  intro p hp
  rw [List.mem_singleton] at hp; subst hp
  refine ve rfl h (fun j hj => ?_) (.inl rfl)
  rcases uG (xf w2.len i2) hj with rfl | hj
  ·exact .inr (by omega)
  rcases uG (xf w1.len i1) hj with rfl | hj
  ·exact .inr (by omega)
  ·exact .inl (jd hj)
 | impL h k c e1 =>
  have m1 := mn (.inl h) (.inr (.inr k))
  have m2 := mn2 h k (.inr (.inr c))
  rw [if_neg (by omega)] at m1 m2
  obtain ⟨hx, hy⟩ := k345 (.inr (.inr k))
  obtain ⟨n1, w1, i1, q1, l1⟩ := vD hw e1
  generalize hA1 : putS M (impN (nd M (nd M i).l).r (nd M i).r) = A1 at n1 w1 i1 q1 l1 wN mn mn2 m1 m2 e1 ⊢
  have v1 := w_new' wN i1 n1
  intro p hp
  simp only [List.mem_cons, List.not_mem_nil, or_false] at hp
  rcases hp with rfl | rfl
  ·refine ve rfl h (fun j hj => ?_) (.inr (by show wt (uw _) (nd M i).l < _; omega))
   rcases uG (xf w1.len i1) hj with rfl | hj
   ·exact .inr (by omega)
   ·exact .inl (jd hj)
  ·refine ve rfl h (fun j hj => ?_) (.inl rfl)
   rcases uG hy hj with rfl | hj
   ·exact .inr (by omega)
   ·exact .inl (jd hj)
def srt (l : List Int) : List Int := l.mergeSort fun a b => decide (b ≤ a)
theorem srt_falls (l : List Int) : Falls (srt l) := by
 have := List.pairwise_mergeSort (le := fun (a b : Int) => decide (b ≤ a)) (fun a b c h1 h2 => by simp at *; omega) (fun a b => by simp; omega) l
 exact this.imp fun h => by simpa using h
theorem srt_perm (l : List Int) : (srt l).Perm l := List.mergeSort_perm _ _
def rank (M : List Nd) (q : Sq) : List Int := srt ((fms q).map (wt (uw M)))
def Below (M : List Nd) (p s : Sq) : Prop := zbe (rank M p) (rank M s) = true
theorem lessV_irr : ∀ a : List Int, zbe a a = false
 | [] => rfl
 | x :: a => by rw [zbe, if_pos rfl]; exact lessV_irr a
theorem lessV_trans : ∀ {a b c : List Int}, zbe a b = true → zbe b c = true → zbe a c = true
 | [], b, [], _, h => by cases b <;> simp [zbe] at h
 | [], _, _ :: _, _, _ => rfl
 | _ :: _, [], _, h, _ => by simp [zbe] at h
 | _ :: _, _ :: _, [], _, h => by simp [zbe] at h
 | x :: a, y :: b, z :: c, h, k => by
  rw [zbe] at h k ⊢
  by_cases e1 : x = y
  ·rw [if_pos e1] at h
   by_cases e2 : y = z
   ·rw [if_pos e2] at k; rw [if_pos (e1.trans e2)]; exact lessV_trans h k
   ·rw [if_neg e2] at k; rw [if_neg (by omega), e1]; exact k
  ·rw [if_neg e1, decide_eq_true_eq] at h
   by_cases e2 : y = z
   ·rw [if_neg (by omega), decide_eq_true_eq]; omega
   ·rw [if_neg e2, decide_eq_true_eq] at k
    rw [if_neg (by omega), decide_eq_true_eq]; omega
theorem Below.irr {M : List Nd} {s : Sq} (h : Below M s s) : False := by unfold Below at h; rw [lessV_irr] at h; cases h
theorem Below.trans {M : List Nd} {a b c : Sq} (h : Below M a b) (k : Below M b c) : Below M a c := lessV_trans h k
theorem rank_ext {M N : List Nd} (hw : Wf M) (h : TExt M N) {q : Sq} (hl : xJ M q = true) : rank N q = rank M q := by
 unfold rank
 rw [List.map_congr_left fun x hx => uw_ext hw h (fms_inb hl x hx)]
theorem Below.ext {M N : List Nd} (hw : Wf M) (h : TExt M N) {p s : Sq} (hp : xJ M p = true) (hs : xJ M s = true) (hb : Below M p s) : Below N p s := by
 unfold Below; rw [rank_ext hw h hp, rank_ext hw h hs]; exact hb
theorem below_of {M : List Nd} {p s : Sq} {m : Int} (h : Lighter (uw M) m p s) : Below M p s := by
 unfold Below rank
 refine less_of_count (m := m) (srt_falls _) (srt_falls _) (fun u hu => ?_) ?_
 ·rw [(srt_perm _).count_eq, (srt_perm _).count_eq]; exact h.1 u hu
 ·rw [(srt_perm _).count_eq, (srt_perm _).count_eq]; exact h.2
theorem prem_below {M N : List Nd} {s : Sq} {i r : Int} {L : List Sq} (hw : Wf M) (hb : s.left.okB = true) (hl : xJ M s = true) (hi : inb i M.length = true) (h : PremR M s i r N L) : ∀ p ∈ L, Below N p s := fun p hp => below_of (prem_lighter hw hb hl hi h p hp)
end Go.Proofs.YtjebgcoknpcadaaGreatDoor
end
section
namespace Go.Proofs.YtjebgcoknpcadaaGreatDoor
open Gw
end Go.Proofs.YtjebgcoknpcadaaGreatDoor
end
section
namespace Go.Proofs.YtjebgcoknpcadaaGreatDoor
open Gw
theorem look_ins {α β : Type} [DecidableEq α] (x y : α) (v : β) : ∀ l : List (α × β), Gw.look y (Gw.ins x v l) = if y = x then some v else Gw.look y l
 | [] => by simp [Gw.ins, Gw.look]
 | (k, u) :: l => by
  by_cases e : x = k
  ·subst e
   by_cases e2 : y = x <;> simp [Gw.ins, Gw.look, e2]
  ·by_cases e2 : y = k
   ·have : ¬ y = x := fun q => e (q.symm.trans e2)
    have : ¬ k = x := fun q => e q.symm
    simp [Gw.ins, Gw.look, e, e2, this]
   ·simp [Gw.ins, Gw.look, e, e2, look_ins x y v l]
structure SI (B : Int) (x : PFinder) (M : List Nd) : Prop where
 t : x.t = some M
 wf : Wf M
 bud : 0 ≤ x.left ∧ x.left + x.visits = B ∧ B ≤ 4096 ∧ (x.steps.length : Int) ≤ x.visits
 c1 : ∀ (i : Nat) (p : PStep), x.steps[i]? = some p → Gw.look p.seq x.at_ = some (i : Int)
 c2 : ∀ (q : Sq) (v : Int), Gw.look q x.at_ = some v → ∃ (i : Nat) (p : PStep), v = i ∧ x.steps[i]? = some p ∧ p.seq = q
 seq : ∀ p ∈ x.steps, p.seq.left.okB = true ∧ xJ M p.seq = true
 sem : ∀ p ∈ x.steps, (p.proved = true → kx M p.seq) ∧ (p.proved = false → Refd M p.seq)
 kids : ∀ (i : Nat) (p : PStep), x.steps[i]? = some p → ∀ j ∈ p.kids, ∃ (n : Nat) (q : PStep), j = n ∧ n < i ∧ x.steps[n]? = some q ∧ q.proved = p.proved
 kl : ∀ p ∈ x.steps, p.kids.length ≤ 4096
structure Mid (B : Int) (x y : PFinder) (M M' : List Nd) (s : Sq) : Prop where
 si : SI B y M'
 ext : TExt M M'
 new : ∃ K, y.steps = x.steps ++ K ∧ ∀ p ∈ K, Below M' p.seq s
 left : y.left ≤ x.left - 1
 cnt : y.visits - y.steps.length = x.visits + 1 - x.steps.length
structure Ps (B : Int) (x y : PFinder) (M M' : List Nd) (s : Sq) (av : Int) : Prop where
 si : SI B y M'
 ext : TExt M M'
 new : ∃ K, y.steps = x.steps ++ K ∧ ∀ p ∈ K, p.seq = s ∨ Below M' p.seq s
 left : y.left ≤ x.left
 cnt : y.visits - y.steps.length = x.visits - x.steps.length
 at_ : ∃ (i : Nat) (p : PStep), av = i ∧ y.steps[i]? = some p ∧ p.seq = s
 last : y.steps = x.steps ∨ av + 1 = (y.steps.length : Int)
structure Er (M : List Nd) (y : PFinder) : Prop where
 ex : ∃ N, y.t = some N ∧ N.take M.length = M ∧ N.Nodup ∧ M.length ≤ N.length
def Bd (e : Int) : Prop := e = 110 ∨ e = 30
def Out (B : Int) (x : PFinder) (M : List Nd) (s : Sq) (r : PFinder × Int × Int) : Prop :=
 (r.2.2 = 0 → ∃ M', Ps B x r.1 M M' s r.2.1) ∧ (r.2.2 ≠ 0 → Er M r.1 ∧ Bd r.2.2)
theorem take_of {M N : List Nd} (h : TExt M N) : N.take M.length = M := by
 have hl := h.len
 refine List.ext_getElem (by simp; omega) fun i h1 h2 => ?_
 have hi : inb (i : Int) M.length = true := by rw [zaw]; simpa using h2
 have := h.eq i hi
 rw [← vr hi, ← vr (xo hi hl), zaY h2, zaY (by omega)] at this
 rw [List.getElem_take]; exact this
theorem SI.er {B : Int} {y : PFinder} {M M' : List Nd} (h : SI B y M') (e : TExt M M') : Er M y := ⟨M', h.t, take_of e, h.wf.nodup, e.len⟩
theorem Er.mono {M M' : List Nd} {y : PFinder} (h : Er M' y) (e : TExt M M') : Er M y := by
 obtain ⟨N, h1, h2, h3, h4⟩ := h.ex
 refine ⟨N, h1, ?_, h3, Nat.le_trans e.len h4⟩
 have : M'.take M.length = M := take_of e
 rw [← this, ← h2, List.take_take, Nat.min_eq_left e.len]
 simp [Nat.min_eq_left e.len, List.take_take]
theorem SI.next {B : Int} {x y : PFinder} {M N : List Nd} (h : SI B x M) (e : TExt M N) (wN : Wf N) (ht : y.t = some N) (h1 : y.steps = x.steps) (h2 : y.at_ = x.at_) (hl : 0 ≤ y.left ∧ y.left + y.visits = B ∧ x.visits ≤ y.visits) : SI B y N where
 t := ht
 wf := wN
 bud := ⟨hl.1, hl.2.1, h.bud.2.2.1, by rw [h1]; have := h.bud.2.2.2; omega⟩
 c1 := by rw [h1, h2]; exact h.c1
 c2 := by rw [h1, h2]; exact h.c2
 seq := by rw [h1]; exact fun p hp => ⟨(h.seq p hp).1, e.look (h.seq p hp).2⟩
 sem := by
  rw [h1]
  intro p hp
  have hq := (h.seq p hp).2
  exact ⟨fun q => (e.valid h.wf hq).2 ((h.sem p hp).1 q), fun q => (e.refd h.wf hq).2 ((h.sem p hp).2 q)⟩
 kids := by rw [h1]; exact h.kids
 kl := by rw [h1]; exact h.kl
theorem end_some {B : Int} {x y : PFinder} {M M' : List Nd} {s : Sq} {p : PStep} (hx : SI B x M) (hs : Gw.look s x.at_ = none) (h : Mid B x y M M' s) (hb : s.left.okB = true) (hl : xJ M s = true) (hp : p.seq = s)
  (hsem : (p.proved = true → kx M' s) ∧ (p.proved = false → Refd M' s)) (hk : ∀ j ∈ p.kids, ∃ (n : Nat) (q : PStep), j = n ∧ y.steps[n]? = some q ∧ q.proved = p.proved) (hkl : p.kids.length ≤ 4096) :
  ∃ r, search_finder_end.f y p = some r ∧ r.2.2 = 0 ∧ Ps B x r.1 M M' s r.2.1 := by
 have hbud := h.si.bud
 have hxb := hx.bud
 have hcnt := h.cnt
 have hnone : Gw.look s y.at_ = none := by
  cases hv : Gw.look s y.at_ with
  | none => rfl
  | some v =>
   exfalso
   obtain ⟨i, q, _, h1, h2⟩ := h.si.c2 s v hv
   obtain ⟨K, hK, hbK⟩ := h.new
   rw [hK] at h1
   by_cases hi : i < x.steps.length
   ·rw [List.getElem?_append_left hi] at h1
    have := hx.c1 i q h1
    rw [h2, hs] at this; cases this
   ·rw [List.getElem?_append_right (by omega)] at h1
    have := hbK q (List.mem_of_getElem? h1)
    rw [h2] at this; exact this.irr
 have hchk : decide ((y.steps.length + 1) * 184 ≤ 140737488355328) = true := decide_eq_true (by omega)
 have hlen : ((y.steps ++ [p]).length : Int) = y.steps.length + 1 := by simp
 refine ⟨_, by unfold search_finder_end.f; exact chk_t hchk, rfl, ?_⟩
 have hget : ∀ (i : Nat) (q : PStep), (y.steps ++ [p])[i]? = some q → (y.steps[i]? = some q ∧ i < y.steps.length) ∨ (i = y.steps.length ∧ q = p) := fun i q hq => by
  by_cases hi : i < y.steps.length
  ·rw [List.getElem?_append_left hi] at hq; exact .inl ⟨hq, hi⟩
  ·rw [List.getElem?_append_right (by omega)] at hq
   have : i - y.steps.length = 0 := by
    have := (List.getElem?_eq_some_iff.1 hq).1; simp at this; omega
   rw [this] at hq
   simp at hq
   exact .inr ⟨by omega, hq.symm⟩
 have hold : ∀ (i : Nat) (q : PStep), y.steps[i]? = some q → (y.steps ++ [p])[i]? = some q := fun i q hq => by
  rw [List.getElem?_append_left (List.getElem?_eq_some_iff.1 hq).1]; exact hq
 have hne : ∀ (i : Nat) (q : PStep), y.steps[i]? = some q → q.seq ≠ s := fun i q hq e => by
  have := h.si.c1 i q hq
  rw [e, hnone] at this; cases this
 have hwr : IntKind.i64.wrap (((y.steps ++ [p]).length : Int) - 1) = y.steps.length := by rw [hlen, wrap_small (by omega)]; omega
 refine ⟨⟨h.si.t, h.si.wf, ⟨hbud.1, hbud.2.1, hbud.2.2.1, ?_⟩, ?_, ?_, ?_, ?_, ?_, ?_⟩, h.ext, ?_, ?_, ?_, ?_, .inr ?_⟩
 ·show ((y.steps ++ [p]).length : Int) ≤ y.visits
  omega
 ·intro i q hq
  show Gw.look q.seq (Gw.ins p.seq (y.steps.length : Int) y.at_) = _
  rw [look_ins]
  rcases hget i q hq with ⟨h1, h2⟩ | ⟨rfl, rfl⟩
  ·rw [if_neg (by rw [hp]; exact hne i q h1)]; exact h.si.c1 i q h1
  ·rw [if_pos rfl]
 ·intro q v hv
  change Gw.look q (Gw.ins p.seq (y.steps.length : Int) y.at_) = _ at hv
  rw [look_ins] at hv
  by_cases e : q = p.seq
  ·rw [if_pos e] at hv
   exact ⟨y.steps.length, p, (Option.some.inj hv).symm, by simp, e.symm⟩
  ·rw [if_neg e] at hv
   obtain ⟨i, q', h1, h2, h3⟩ := h.si.c2 q v hv
   exact ⟨i, q', h1, hold i q' h2, h3⟩
 ·intro q hq
  rcases List.mem_append.1 hq with hq | hq
  ·exact h.si.seq q hq
  ·rw [List.mem_singleton.1 hq, hp]; exact ⟨hb, h.ext.look hl⟩
 ·intro q hq
  rcases List.mem_append.1 hq with hq | hq
  ·exact h.si.sem q hq
  ·rw [List.mem_singleton.1 hq, hp]; exact hsem
 ·intro i q hq j hj
  rcases hget i q hq with ⟨h1, h2⟩ | ⟨rfl, rfl⟩
  ·obtain ⟨n, q', e1, e2, e3, e4⟩ := h.si.kids i q h1 j hj
   exact ⟨n, q', e1, e2, hold n q' e3, e4⟩
  ·obtain ⟨n, q', e1, e3, e4⟩ := hk j hj
   exact ⟨n, q', e1, (List.getElem?_eq_some_iff.1 e3).1, hold n q' e3, e4⟩
 ·intro q hq
  rcases List.mem_append.1 hq with hq | hq
  ·exact h.si.kl q hq
  ·rw [List.mem_singleton.1 hq]; exact hkl
 ·obtain ⟨K, hK, hbK⟩ := h.new
  refine ⟨K ++ [p], by show y.steps ++ [p] = _; rw [hK, List.append_assoc], fun q hq => ?_⟩
  rcases List.mem_append.1 hq with hq | hq
  ·exact .inr (hbK q hq)
  ·rw [List.mem_singleton.1 hq]; exact .inl hp
 ·show y.left ≤ x.left
  have := h.left; omega
 ·show y.visits - ((y.steps ++ [p]).length : Int) = _
  omega
 ·exact ⟨y.steps.length, p, hwr, by simp, hp⟩
 ·show IntKind.i64.wrap (((y.steps ++ [p]).length : Int) - 1) + 1 = ((y.steps ++ [p]).length : Int)
  omega
theorem mid_step {B : Int} {x y z : PFinder} {M M' M2 : List Nd} {s p : Sq} {v : Int} (h : Mid B x y M M' s) (hs : xJ M s = true) (hp : xJ M' p = true) (hb : Below M' p s) (k : Ps B y z M' M2 p v) : Mid B x z M M2 s := by
 obtain ⟨K, hK, hbK⟩ := h.new
 obtain ⟨J, hJ, hbJ⟩ := k.new
 have hsM' := h.ext.look hs
 have hps : Below M2 p s := hb.ext h.si.wf k.ext hp hsM'
 refine ⟨k.si, h.ext.trans k.ext, ⟨K ++ J, by rw [hJ, hK, List.append_assoc], fun q hq => ?_⟩, by have := h.left; have := k.left; omega, by have := h.cnt; have := k.cnt; omega⟩
 rcases List.mem_append.1 hq with hq | hq
 ·exact (hbK q hq).ext h.si.wf k.ext ((h.si.seq q (by rw [hK]; exact List.mem_append_right _ hq)).2) hsM'
 ·rcases hbJ q hq with e | e
  ·rw [e]; exact hps
  ·exact e.trans hps
theorem at_of {l : List PStep} {i : Nat} {p : PStep} (h : l[i]? = some p) : at_ PStep.z l (i : Int) = p ∧ inb (i : Int) l.length = true := by
 have hl := (List.getElem?_eq_some_iff.1 h).1
 refine ⟨?_, by rw [zaw]; simpa using hl⟩
 unfold at_
 rw [Int.toNat_natCast, List.getD_eq_getElem?_getD, h]; rfl
def RecOk (B : Int) (n : Nat) (rec : PFinder → Sq → Option (PFinder × Int × Int)) : Prop :=
 ∀ (x : PFinder) (M : List Nd) (s : Sq), SI B x M → s.left.okB = true → xJ M s = true → x.left.toNat < n → ∃ r, rec x s = some r ∧ Out B x M s r
theorem Premises_err {M : List Nd} {s : Sq} {r i : Int} {N : List Nd} {L : List Sq} {e : Int} (hw : Wf M) (hl : xJ M s = true) (hb : s.left.okB = true) (h : rule_Premises.f (some M) s r i = some (some N, L, e)) (he : e ≠ 0) : N = M := by
 unfold rule_Premises.f at h
 rw [xu hb, hl, xA hb] at h
 simp only [if_true, ne_eq, not_true_eq_false, decide_false, Bool.false_eq_true, if_false, Option.bind_some] at h
 cases hf : yG M s r i with
 | false => simp [hf] at h; exact h.1.symm
 | true =>
  simp only [hf, Bool.not_true, Bool.false_eq_true, if_false] at h
  obtain ⟨n, h1, h⟩ := zp h
  have hn : n = (M.length : Int) := by simpa [formula_Table_Len.f] using h1.symm
  obtain ⟨⟨T, L', e'⟩, h2, h⟩ := zp h
  by_cases he' : e' = 0
  ·simp [he'] at h; exact absurd h.2.2.symm he
  ·simp only [he', not_false_eq_true, decide_true, if_true] at h
   obtain ⟨⟨T2, c⟩, h3, h4⟩ := zp h
   simp only [Option.some.injEq, Prod.mk.injEq] at h4
   have key : ∃ N', T = some N' ∧ N'.take M.length = M ∧ N'.Nodup ∧ M.length ≤ N'.length := by
    obtain ⟨hi, hc⟩ := zah hf
    have k345 : (nd M i).kind = 3 ∨ (nd M i).kind = 4 ∨ (nd M i).kind = 5 → (0 ≤ (nd M i).l ∧ (nd M i).l < 1024) ∧ (0 ≤ (nd M i).r ∧ (nd M i).r < 1024) := fun k => ⟨xf hw.len (hw.left hi k), xf hw.len (hw.right hi k)⟩
    rcases hc with rfl | ⟨rfl, k⟩ | ⟨rfl, k⟩ | ⟨hr, k⟩ | ⟨rfl, k⟩ | ⟨rfl, k⟩ | ⟨rfl, k⟩ | ⟨k, hc⟩
    ·simp -implicitDefEqProofs [rule_premises.f, zI, bits_Drop.f, chk, hb] at h2; exact absurd h2.2.2.symm he'
    ·obtain ⟨hx, hy⟩ := k345 (.inr (.inr k))
     simp -implicitDefEqProofs [rule_premises.f, zI, bits_Drop.f, chk, hb, withP1 hb hx, rule_to.f] at h2; exact absurd h2.2.2.symm he'
    ·simp -implicitDefEqProofs [rule_premises.f, zI, bits_Drop.f, chk, hb, rule_to.f] at h2; exact absurd h2.2.2.symm he'
    ·rcases hr with rfl | rfl
     ·simp -implicitDefEqProofs [rule_premises.f, zI, bits_Drop.f, chk, hb, rule_to.f] at h2; exact absurd h2.2.2.symm he'
     ·simp -implicitDefEqProofs [rule_premises.f, zI, bits_Drop.f, chk, hb, rule_to.f] at h2; exact absurd h2.2.2.symm he'
    ·simp -implicitDefEqProofs [rule_premises.f, zI, bits_Drop.f, chk, hb] at h2; exact absurd h2.2.2.symm he'
    ·obtain ⟨hx, hy⟩ := k345 (.inl k)
     simp -implicitDefEqProofs [rule_premises.f, zI, bits_Drop.f, chk, hb, withP2m (xq i) hx hy] at h2; exact absurd h2.2.2.symm he'
    ·obtain ⟨hx, hy⟩ := k345 (.inr (.inl k))
     simp -implicitDefEqProofs [rule_premises.f, zI, bits_Drop.f, chk, hb, vg (xq i) hx, vg (xq i) hy] at h2; exact absurd h2.2.2.symm he'
    ·obtain ⟨hx, hy⟩ := k345 (.inr (.inr k))
     rcases hc with ⟨rfl, c⟩ | ⟨rfl, c⟩ | ⟨rfl, c⟩ | ⟨rfl, c⟩ | ⟨rfl, c⟩
     ·simp -implicitDefEqProofs [rule_premises.f, zI, bits_Drop.f, chk, hb, vg (xq i) hy] at h2; exact absurd h2.2.2.symm he'
     ·simp -implicitDefEqProofs [rule_premises.f, zI, bits_Drop.f, chk, hb] at h2; exact absurd h2.2.2.symm he'
     ·have q1 := yi (n := impN (nd M (nd M i).l).r (nd M i).r) hw.len hw.nodup
      generalize hA : putS M (impN (nd M (nd M i).l).r (nd M i).r) = A1 at q1
      have q2 := yi (n := impN (nd M (nd M i).l).l A1.2.1) q1.2.2.2.2.1 q1.2.2.2.1
      generalize hB : putS A1.1 (impN (nd M (nd M i).l).l A1.2.1) = A2 at q2
      by_cases e1 : A1.2.2 = 0
      ·by_cases e2 : A2.2.2 = 0
       ·simp -implicitDefEqProofs [rule_premises.f, zI, bits_Drop.f, chk, hb, rule_pair.f, rule_imps__rule_pair_1__rule_premises_1.f, rule_pair_1.f, rule_premises_1.f, impP, at_, inb, hA, hB, e1, e2, vg (xq i) (q2.2.1 e2)] at h2; exact absurd h2.2.2.symm he'
       ·simp -implicitDefEqProofs [rule_premises.f, zI, bits_Drop.f, chk, hb, rule_pair.f, rule_imps__rule_pair_1__rule_premises_1.f, rule_pair_1.f, rule_premises_1.f, impP, at_, inb, hA, hB, e1, e2] at h2
        have := q2.1 e2
        exact ⟨A2.1, h2.1.symm, by rw [this]; exact q1.2.2.1, q2.2.2.2.1, by rw [this]; exact q1.2.2.2.2.2⟩
      ·simp -implicitDefEqProofs [rule_premises.f, zI, bits_Drop.f, chk, hb, rule_pair.f, rule_imps__rule_pair_1__rule_premises_1.f, rule_pair_1.f, rule_premises_1.f, impP, at_, inb, hA, e1] at h2
       exact ⟨A1.1, h2.1.symm, q1.2.2.1, q1.2.2.2.1, q1.2.2.2.2.2⟩
     ·have q1 := yi (n := impN (nd M (nd M i).l).l (nd M i).r) hw.len hw.nodup
      generalize hA : putS M (impN (nd M (nd M i).l).l (nd M i).r) = A1 at q1
      have q2 := yi (n := impN (nd M (nd M i).l).r (nd M i).r) q1.2.2.2.2.1 q1.2.2.2.1
      generalize hB : putS A1.1 (impN (nd M (nd M i).l).r (nd M i).r) = A2 at q2
      by_cases e1 : A1.2.2 = 0
      ·by_cases e2 : A2.2.2 = 0
       ·simp -implicitDefEqProofs [rule_premises.f, zI, bits_Drop.f, chk, hb, rule_pair.f, rule_imps__rule_pair_1__rule_pair_1.f, rule_pair_1.f, rule_premises_1.f, impP, at_, inb, hA, hB, e1, e2, withP2m (xq i) (q1.2.1 e1) (q2.2.1 e2)] at h2; exact absurd h2.2.2.symm he'
       ·simp -implicitDefEqProofs [rule_premises.f, zI, bits_Drop.f, chk, hb, rule_pair.f, rule_imps__rule_pair_1__rule_pair_1.f, rule_pair_1.f, rule_premises_1.f, impP, at_, inb, hA, hB, e1, e2] at h2
        have := q2.1 e2
        exact ⟨A2.1, h2.1.symm, by rw [this]; exact q1.2.2.1, q2.2.2.2.1, by rw [this]; exact q1.2.2.2.2.2⟩
      ·simp -implicitDefEqProofs [rule_premises.f, zI, bits_Drop.f, chk, hb, rule_pair.f, rule_imps__rule_pair_1__rule_pair_1.f, rule_pair_1.f, rule_premises_1.f, impP, at_, inb, hA, e1] at h2
       exact ⟨A1.1, h2.1.symm, q1.2.2.1, q1.2.2.2.1, q1.2.2.2.2.2⟩
     ·have q1 := yi (n := impN (nd M (nd M i).l).r (nd M i).r) hw.len hw.nodup
      generalize hA : putS M (impN (nd M (nd M i).l).r (nd M i).r) = A1 at q1
      by_cases e1 : A1.2.2 = 0
      ·simp -implicitDefEqProofs [rule_premises.f, zI, bits_Drop.f, chk, hb, rule_pair.f, rule_imps__rule_pair_1.f, rule_pair_1.f, impP, hA, e1, vg (xq i) (q1.2.1 e1), vg (xq i) hy, rule_to.f] at h2; exact absurd h2.2.2.symm he'
      ·simp -implicitDefEqProofs [rule_premises.f, zI, bits_Drop.f, chk, hb, rule_pair.f, rule_imps__rule_pair_1.f, rule_pair_1.f, impP, hA, e1] at h2
       exact ⟨A1.1, h2.1.symm, q1.2.2.1, q1.2.2.2.1, q1.2.2.2.2.2⟩
   obtain ⟨N', rfl, h5, h6, h7⟩ := key
   rw [hn, cutP h5 h6 h7] at h3
   simp only [Option.some.injEq, Prod.mk.injEq] at h3
   have := h4.1
   rw [← h3.1] at this
   exact (Option.some.inj this).symm
end Go.Proofs.YtjebgcoknpcadaaGreatDoor
end
section
namespace Go.Proofs.YtjebgcoknpcadaaGreatDoor
open Gw
theorem imp_fits {N : List Nd} {a b : Int} (ha : inb a N.length = true) (hb : inb b N.length = true) : yU N (impN a b) = 0 := by
 have h1 : yR N a = true := by unfold yR; exact ha
 have h2 : yR N b = true := by unfold yR; exact hb
 have e1 : (impN a b).kind = 5 := rfl
 have e2 : (impN a b).l = a := rfl
 have e3 : (impN a b).r = b := rfl
 have e4 : (impN a b).name = ⟨#[]⟩ := rfl
 unfold yU
 rw [e1, e2, e3, e4, h1, h2]
 simp
theorem put_err {N : List Nd} {n : Nd} (hf : yU N n = 0) : (putS N n).2.2 = 0 ∨ (putS N n).2.2 = 30 := by
 cases hk : N.idxOf? n with
 | some k => rw [put_old hf hk]; exact .inl rfl
 | none =>
  by_cases hl : 1024 ≤ N.length
  ·rw [zbi hf hk hl]; exact .inr rfl
  ·rw [put_new hf hk hl]; exact .inl rfl
theorem prem_code {M : List Nd} {s : Sq} {r i : Int} {T : Tb} {L : List Sq} {e : Int} (hw : Wf M) (hb : s.left.okB = true) (hf : yG M s r i = true) (h : rule_premises.f (some M) s r i = some (T, L, e)) : e = 0 ∨ e = 30 := by
 obtain ⟨hi, hc⟩ := zah hf
 have k345 : (nd M i).kind = 3 ∨ (nd M i).kind = 4 ∨ (nd M i).kind = 5 → (0 ≤ (nd M i).l ∧ (nd M i).l < 1024) ∧ (0 ≤ (nd M i).r ∧ (nd M i).r < 1024) := fun k => ⟨xf hw.len (hw.left hi k), xf hw.len (hw.right hi k)⟩
 rcases hc with rfl | ⟨rfl, k⟩ | ⟨rfl, k⟩ | ⟨hr, k⟩ | ⟨rfl, k⟩ | ⟨rfl, k⟩ | ⟨rfl, k⟩ | ⟨k, hc⟩
 ·simp -implicitDefEqProofs [rule_premises.f, zI, bits_Drop.f, chk, hb] at h
  exact .inl h.2.2.symm
 ·obtain ⟨hx, hy⟩ := k345 (.inr (.inr k))
  simp -implicitDefEqProofs [rule_premises.f, zI, bits_Drop.f, chk, hb, withP1 hb hx, rule_to.f] at h
  exact .inl h.2.2.symm
 ·simp -implicitDefEqProofs [rule_premises.f, zI, bits_Drop.f, chk, hb, rule_to.f] at h
  exact .inl h.2.2.symm
 ·rcases hr with rfl | rfl
  ·simp -implicitDefEqProofs [rule_premises.f, zI, bits_Drop.f, chk, hb, rule_to.f] at h
   exact .inl h.2.2.symm
  ·simp -implicitDefEqProofs [rule_premises.f, zI, bits_Drop.f, chk, hb, rule_to.f] at h
   exact .inl h.2.2.symm
 ·simp -implicitDefEqProofs [rule_premises.f, zI, bits_Drop.f, chk, hb] at h
  exact .inl h.2.2.symm
 ·obtain ⟨hx, hy⟩ := k345 (.inl k)
  simp -implicitDefEqProofs [rule_premises.f, zI, bits_Drop.f, chk, hb, withP2m (xq i) hx hy] at h
  exact .inl h.2.2.symm
 ·obtain ⟨hx, hy⟩ := k345 (.inr (.inl k))
  simp -implicitDefEqProofs [rule_premises.f, zI, bits_Drop.f, chk, hb, vg (xq i) hx, vg (xq i) hy] at h
  exact .inl h.2.2.symm
 ·obtain ⟨hx, hy⟩ := k345 (.inr (.inr k))
  have hli := hw.left hi (.inr (.inr k))
  have hri := hw.right hi (.inr (.inr k))
  rcases hc with ⟨rfl, c⟩ | ⟨rfl, c⟩ | ⟨rfl, c⟩ | ⟨rfl, c⟩ | ⟨rfl, c⟩
  ·simp -implicitDefEqProofs [rule_premises.f, zI, bits_Drop.f, chk, hb, vg (xq i) hy] at h
   exact .inl h.2.2.symm
  ·simp -implicitDefEqProofs [rule_premises.f, zI, bits_Drop.f, chk, hb] at h
   exact .inl h.2.2.symm
  ·have q1 := yi (n := impN (nd M (nd M i).l).r (nd M i).r) hw.len hw.nodup
   have z1 := put_err (imp_fits (hw.right hli (.inl c)) hri)
   have pn := @vD M (impN (nd M (nd M i).l).r (nd M i).r) hw
   generalize hA : putS M (impN (nd M (nd M i).l).r (nd M i).r) = A1 at q1 z1 pn
   have q2 := (yi (n := impN (nd M (nd M i).l).l A1.2.1) q1.2.2.2.2.1 q1.2.2.2.1).2.1
   have z2 : A1.2.2 = 0 → (putS A1.1 (impN (nd M (nd M i).l).l A1.2.1)).2.2 = 0 ∨ (putS A1.1 (impN (nd M (nd M i).l).l A1.2.1)).2.2 = 30 := fun e1 => by
    obtain ⟨_, _, i1, _, l1⟩ := pn e1
    exact put_err (imp_fits (xo (hw.left hli (.inl c)) l1) i1)
   generalize hB : putS A1.1 (impN (nd M (nd M i).l).l A1.2.1) = A2 at q2 z2
   by_cases e1 : A1.2.2 = 0
   ·by_cases e2 : A2.2.2 = 0
    ·simp -implicitDefEqProofs [rule_premises.f, zI, bits_Drop.f, chk, hb, rule_pair.f, rule_imps__rule_pair_1__rule_premises_1.f, rule_pair_1.f, rule_premises_1.f, impP, at_, inb, hA, hB, e1, e2, vg (xq i) (q2 e2)] at h
     exact .inl h.2.2.symm
    ·simp -implicitDefEqProofs [rule_premises.f, zI, bits_Drop.f, chk, hb, rule_pair.f, rule_imps__rule_pair_1__rule_premises_1.f, rule_pair_1.f, rule_premises_1.f, impP, at_, inb, hA, hB, e1, e2] at h
     rw [← h.2.2]; exact z2 e1
   ·simp -implicitDefEqProofs [rule_premises.f, zI, bits_Drop.f, chk, hb, rule_pair.f, rule_imps__rule_pair_1__rule_premises_1.f, rule_pair_1.f, rule_premises_1.f, impP, at_, inb, hA, e1] at h
    rw [← h.2.2]; exact z1
  ·have q1 := yi (n := impN (nd M (nd M i).l).l (nd M i).r) hw.len hw.nodup
   have z1 := put_err (imp_fits (hw.left hli (.inr (.inl c))) hri)
   have pn := @vD M (impN (nd M (nd M i).l).l (nd M i).r) hw
   generalize hA : putS M (impN (nd M (nd M i).l).l (nd M i).r) = A1 at q1 z1 pn
   have q2 := (yi (n := impN (nd M (nd M i).l).r (nd M i).r) q1.2.2.2.2.1 q1.2.2.2.1).2.1
   have z2 : A1.2.2 = 0 → (putS A1.1 (impN (nd M (nd M i).l).r (nd M i).r)).2.2 = 0 ∨ (putS A1.1 (impN (nd M (nd M i).l).r (nd M i).r)).2.2 = 30 := fun e1 => by
    obtain ⟨_, _, i1, _, l1⟩ := pn e1
    exact put_err (imp_fits (xo (hw.right hli (.inr (.inl c))) l1) (xo hri l1))
   generalize hB : putS A1.1 (impN (nd M (nd M i).l).r (nd M i).r) = A2 at q2 z2
   by_cases e1 : A1.2.2 = 0
   ·by_cases e2 : A2.2.2 = 0
    ·simp -implicitDefEqProofs [rule_premises.f, zI, bits_Drop.f, chk, hb, rule_pair.f, rule_imps__rule_pair_1__rule_pair_1.f, rule_pair_1.f, rule_premises_1.f, impP, at_, inb, hA, hB, e1, e2, withP2m (xq i) (q1.2.1 e1) (q2 e2)] at h
     exact .inl h.2.2.symm
    ·simp -implicitDefEqProofs [rule_premises.f, zI, bits_Drop.f, chk, hb, rule_pair.f, rule_imps__rule_pair_1__rule_pair_1.f, rule_pair_1.f, rule_premises_1.f, impP, at_, inb, hA, hB, e1, e2] at h
     rw [← h.2.2]; exact z2 e1
   ·simp -implicitDefEqProofs [rule_premises.f, zI, bits_Drop.f, chk, hb, rule_pair.f, rule_imps__rule_pair_1__rule_pair_1.f, rule_pair_1.f, rule_premises_1.f, impP, at_, inb, hA, e1] at h
    rw [← h.2.2]; exact z1
  ·have p1 := (yi (n := impN (nd M (nd M i).l).r (nd M i).r) hw.len hw.nodup).2.1
   have z1 := put_err (imp_fits (hw.right hli (.inr (.inr c))) hri)
   generalize hA : putS M (impN (nd M (nd M i).l).r (nd M i).r) = A1 at p1 z1
   by_cases e1 : A1.2.2 = 0
   ·simp -implicitDefEqProofs [rule_premises.f, zI, bits_Drop.f, chk, hb, rule_pair.f, rule_imps__rule_pair_1.f, rule_pair_1.f, impP, hA, e1, vg (xq i) (p1 e1), vg (xq i) hy, rule_to.f] at h
    exact .inl h.2.2.symm
   ·simp -implicitDefEqProofs [rule_premises.f, zI, bits_Drop.f, chk, hb, rule_pair.f, rule_imps__rule_pair_1.f, rule_pair_1.f, impP, hA, e1] at h
    rw [← h.2.2]; exact z1
theorem Premises_code {M : List Nd} {s : Sq} {r i : Int} {T : Tb} {L : List Sq} {e : Int} (hw : Wf M) (hl : xJ M s = true) (hb : s.left.okB = true) (hf : yG M s r i = true) (h : rule_Premises.f (some M) s r i = some (T, L, e)) : e = 0 ∨ e = 30 := by
 unfold rule_Premises.f at h
 rw [xu hb, hl, xA hb] at h
 simp only [if_true, ne_eq, not_true_eq_false, decide_false, Bool.false_eq_true, if_false, Option.bind_some, hf, Bool.not_true] at h
 obtain ⟨n, h1, h⟩ := zp h
 obtain ⟨⟨T', L', e'⟩, h2, h⟩ := zp h
 have hc := prem_code hw hb hf h2
 by_cases he' : e' = 0
 ·simp [he'] at h; exact .inl h.2.2.symm
 ·simp only [he', not_false_eq_true, decide_true, if_true] at h
  obtain ⟨_, _, h⟩ := zp h
  simp only [Option.some.injEq, Prod.mk.injEq] at h
  rw [← h.2.2]; exact hc
theorem apply_fits {M : List Nd} {s : Sq} (hl : xJ M s = true) (h : (yJ M s).1 ≠ 14) : yG M s (yJ M s).1 (yJ M s).2 = true := by
 have hg := (xt.1 hl).2
 have on : ∀ (j : Nat) (r : Int), j < M.length → r ≠ 0 ∧ r ≠ 2 ∧ r ≠ 8 ∧ r ≠ 9 ∧ r ≠ 11 ∧ r ≠ 12 → s.left.has j = true → onV M s.left j = r → yG M s r j = true := fun j r hj hr hh ho => by
  rw [fits_on hr hj, hh, ho]; simp
 unfold yJ at h ⊢
 cases h1 : yX M s (fun r => decide (r = 1)) with
 | some j =>
  obtain ⟨a, b, c⟩ := uN h1
  exact on j 1 a (by decide) b (of_decide_eq_true c)
 | none =>
  simp only [h1] at h ⊢
  by_cases h2 : s.left.has s.goal = true
  ·simp only [h2, if_true]
   simp [yG, hg, h2]
  ·simp only [h2, if_false, Bool.false_eq_true] at h ⊢
   cases h3 : yX M s (fun r => decide (3 ≤ r) && decide (r ≤ 7)) with
   | some j =>
    obtain ⟨a, b, c⟩ := uN h3
    simp only [Bool.and_eq_true, decide_eq_true_eq] at c
    exact on j (onV M s.left j) a (by omega) b rfl
   | none =>
    simp only [h3] at h ⊢
    by_cases h5 : (nd M s.goal).kind = 5
    ·simp only [h5, if_true]
     simp [yG, hg, h5]
    ·simp only [h5, if_false] at h ⊢
     by_cases h6 : (nd M s.goal).kind = 3
     ·simp only [h6, if_true]
      simp [yG, hg, h6]
     ·simp only [h6, if_false] at h ⊢
      cases h7 : yX M s (fun r => decide (r = 10)) with
      | some j =>
       obtain ⟨a, b, c⟩ := uN h7
       exact on j 10 a (by decide) b (of_decide_eq_true c)
      | none => simp only [h7] at h; exact absurd rfl h
end Go.Proofs.YtjebgcoknpcadaaGreatDoor
end
section
namespace Go.Proofs.YtjebgcoknpcadaaGreatDoor
open Gw
theorem Mid.next {B : Int} {x y z : PFinder} {M M' N : List Nd} {s : Sq} (h : Mid B x y M M' s) (hs : xJ M s = true) (e : TExt M' N) (wN : Wf N) (ht : z.t = some N) (h1 : z.steps = y.steps) (h2 : z.at_ = y.at_) (h3 : z.left = y.left) (h4 : z.visits = y.visits) : Mid B x z M N s where
 si := h.si.next e wN ht h1 h2 (by rw [h3, h4]; exact ⟨h.si.bud.1, h.si.bud.2.1, Int.le_refl _⟩)
 ext := h.ext.trans e
 new := by
  obtain ⟨K, hK, hb⟩ := h.new
  refine ⟨K, by rw [h1, hK], fun p hp => (hb p hp).ext h.si.wf e ((h.si.seq p (by rw [hK]; exact List.mem_append_right _ hp)).2) (h.ext.look hs)⟩
 left := by rw [h3]; exact h.left
 cnt := by rw [h4, h1]; exact h.cnt
def Kids (y : PFinder) (b : Bool) (l : List Int) : Prop := ∀ j ∈ l, ∃ (n : Nat) (q : PStep), j = n ∧ y.steps[n]? = some q ∧ q.proved = b
theorem Kids.nil {y : PFinder} {b : Bool} : Kids y b [] := fun _ h => by cases h
theorem Kids.ext {y z : PFinder} {b : Bool} {l : List Int} (h : Kids y b l) {K : List PStep} (hK : z.steps = y.steps ++ K) : Kids z b l := fun j hj => by
 obtain ⟨n, q, h1, h2, h3⟩ := h j hj
 exact ⟨n, q, h1, by rw [hK, List.getElem?_append_left (List.getElem?_eq_some_iff.1 h2).1]; exact h2, h3⟩
theorem Kids.push {y : PFinder} {b : Bool} {l : List Int} (h : Kids y b l) {n : Nat} {q : PStep} (h1 : y.steps[n]? = some q) (h2 : q.proved = b) : Kids y b (l ++ [(n : Int)]) := fun j hj => by
 rcases List.mem_append.1 hj with hj | hj
 ·exact h j hj
 ·exact ⟨n, q, List.mem_singleton.1 hj, h1, h2⟩
theorem Kids.one {y : PFinder} {b : Bool} {n : Nat} {q : PStep} (h1 : y.steps[n]? = some q) (h2 : q.proved = b) : Kids y b [(n : Int)] := Kids.push (l := []) Kids.nil h1 h2
theorem chk_len {l : List Int} {n : Int} (h : l.length ≤ 4096) : decide ((l.length + ([n]).length) * 8 ≤ 140737488355328) = true := decide_eq_true (by rw [List.length_singleton]; omega)
theorem out_err {B : Int} {x : PFinder} {M M' : List Nd} {s : Sq} {y : PFinder} {v e : Int} (h : Er M' y ∧ Bd e) (k : TExt M M') (he : e ≠ 0) : Out B x M s (y, v, e) := ⟨fun q => absurd q he, fun _ => ⟨h.1.mono k, h.2⟩⟩
theorem decide_step {B : Int} {n : Nat} {rec : PFinder → Sq → Option (PFinder × Int × Int)} (hrec : RecOk B n rec) {x : PFinder} {M N : List Nd} {s : Sq} {r m : Int} {L : List Sq} (hx : SI B x M) (hs : Gw.look s x.at_ = none) (hb : s.left.okB = true) (hl : xJ M s = true) (hm : inb m M.length = true) (hP : PremR M s m r N L) (hr : r ≠ 11 ∧ r ≠ 12 ∧ r ≠ 13)
  {i : Nat} {kids : List Int} {y : PFinder} {M' : List Nd} (hiL : i < L.length) (hm' : Mid B x y M M' s) (hNM : TExt N M') (hleft : y.left.toNat < n) (hkl : kids.length ≤ 4096) (hk : Kids y true kids) :
   ∃ q, search_finder_decide.b0 rec (some N, L, 0) s (r, m, 0) i ⟨s, true, r, m, kids⟩ y = some q ∧
    ((∃ q', q = .ret q' ∧ Out B x M s q') ∨ ∃ a z M2, q = .go (⟨s, true, r, m, kids ++ [a]⟩, z) ∧ Mid B x z M M2 s ∧ TExt M' M2 ∧ z.left.toNat < n ∧ Kids z true (kids ++ [a]) ∧ kx M2 L[i]) := by
 obtain ⟨wN, lN, qN, pN⟩ := kJ hx.wf hb hl hm hP
 have eN : TExt M N := ⟨lN, qN⟩
 have hlN := eN.look hl
 have hLi : L[i]? = some L[i] := List.getElem?_eq_getElem hiL
 have hat : at_ Sq.z L (i : Int) = L[i] := by simp [at_, List.getD_eq_getElem?_getD, hiL]
 obtain ⟨bp, lp⟩ := pN L[i] (List.getElem_mem hiL)
 have lp' := hNM.look lp
 have hbel : Below M' L[i] s := (prem_below hx.wf hb hl hm hP L[i] (List.getElem_mem hiL)).ext wN hNM lp hlN
 obtain ⟨⟨z, v, e⟩, h1, h2, h3⟩ := hrec y M' L[i] hm'.si bp lp' hleft
 unfold search_finder_decide.b0
 simp only [hat, h1, Option.bind_some]
 by_cases he : e = 0
 ·subst he
  obtain ⟨M2, hps⟩ := h2 rfl
  simp only [ne_eq, not_true_eq_false, decide_false, Bool.false_eq_true, if_false]
  obtain ⟨a, p, hva, hap, hpp⟩ := hps.at_
  simp only at hva hap
  subst hva
  obtain ⟨a1, a2⟩ := at_of hap
  simp only [a1, a2, chk, if_true]
  have hmid := mid_step hm' hl lp' hbel hps
  have hNM2 := hNM.trans hps.ext
  obtain ⟨K, hK, _⟩ := hps.new
  have hsem := hps.si.sem p (List.mem_of_getElem? hap)
  rw [hpp] at hsem
  have hzl : z.left.toNat < n := by have := hps.left; simp only at this; omega
  cases hpv : p.proved with
  | false =>
   have hR : Refd M2 s := (hNM2.refd wN hlN).2 (prem_refd hx.wf hb hl hm hP (List.getElem_mem hiL) ⟨hr.1, hr.2.1⟩ (fun q => absurd q hr.2.2) ((hNM2.refd wN lp).1 (hsem.2 hpv)))
   obtain ⟨q, q1, q2, q3⟩ := end_some (p := ⟨s, false, r, m, [(a : Int)]⟩) hx hs hmid hb hl rfl ⟨fun q => (by cases q), fun _ => hR⟩ (Kids.one hap hpv) (by simp)
   simp only [Bool.not_false, if_true, q1, Option.bind_some]
   exact ⟨_, rfl, .inl ⟨_, rfl, fun _ => ⟨M2, q3⟩, fun h => absurd q2 h⟩⟩
  | true =>
   simp only [Bool.not_true, Bool.false_eq_true, if_false, chk_len (n := (a : Int)) hkl, if_true]
   exact ⟨_, rfl, .inr ⟨_, z, M2, rfl, hmid, hps.ext, hzl, (hk.ext hK).push hap hpv, hsem.1 hpv⟩⟩
 ·simp only [ne_eq, he, not_false_eq_true, decide_true, if_true]
  exact ⟨_, rfl, .inl ⟨_, rfl, out_err (h3 he) hm'.ext he⟩⟩
theorem decide_loop {B : Int} {n : Nat} {rec : PFinder → Sq → Option (PFinder × Int × Int)} (hrec : RecOk B n rec) {x : PFinder} {M N : List Nd} {s : Sq} {r m : Int} {L : List Sq} (hx : SI B x M) (hs : Gw.look s x.at_ = none) (hb : s.left.okB = true) (hl : xJ M s = true) (hm : inb m M.length = true) (hP : PremR M s m r N L) (hr : r ≠ 11 ∧ r ≠ 12 ∧ r ≠ 13) :
  ∀ (c i : Nat) (kids : List Int) (y : PFinder) (M' : List Nd), i + c = L.length → Mid B x y M M' s → TExt N M' → y.left.toNat < n → kids.length = i → Kids y true kids → (∀ (j : Nat) (p : Sq), j < i → L[j]? = some p → kx M' p) →
   ∃ o, forN (fun i (st : PStep × PFinder) => search_finder_decide.b0 rec (some N, L, 0) s (r, m, 0) i st.1 st.2) c i (⟨s, true, r, m, kids⟩, y) = some o ∧
    ((∃ kids' y' M2, o = .inl (⟨s, true, r, m, kids'⟩, y') ∧ Mid B x y' M M2 s ∧ TExt N M2 ∧ Kids y' true kids' ∧ kids'.length ≤ 4096 ∧ ∀ p ∈ L, kx M2 p) ∨ ∃ q, o = .inr q ∧ Out B x M s q) := by
 obtain ⟨wN, lN, qN, pN⟩ := kJ hx.wf hb hl hm hP
 intro c
 induction c with
 | zero =>
  intro i kids y M' hi hm' hNM hleft hkl hk hv
  refine ⟨_, rfl, .inl ⟨kids, y, M', rfl, hm', hNM, hk, by have := prem_len hP; omega, fun p hp => ?_⟩⟩
  obtain ⟨j, hj, e⟩ := List.getElem_of_mem hp
  exact hv j p (by omega) (by rw [List.getElem?_eq_getElem hj, e])
 | succ c ih =>
  intro i kids y M' hi hm' hNM hleft hkl hk hv
  have hLl := prem_len hP
  obtain ⟨q, h1, h2⟩ := decide_step hrec hx hs hb hl hm hP hr (i := i) (by omega) hm' hNM hleft (by omega) hk
  rw [forN]
  simp only [h1, Option.bind_some]
  rcases h2 with ⟨q', rfl, ho⟩ | ⟨a, z, M2, rfl, hmid, he, hzl, hk', hva⟩
  ·exact ⟨_, rfl, .inr ⟨_, rfl, ho⟩⟩
  ·obtain ⟨o, o1, o2⟩ := ih (i + 1) (kids ++ [a]) z M2 (by omega) hmid (hNM.trans he) hzl (by simp [hkl]) hk' (fun j p hj hp => by
    by_cases e : j = i
    ·subst e
     rw [List.getElem?_eq_getElem (by omega)] at hp
     rw [← Option.some.inj hp]; exact hva
    ·exact (he.valid hm'.si.wf (hNM.look (pN p (List.mem_of_getElem? hp)).2)).2 (hv j p (by omega) hp))
   exact ⟨o, by simpa using o1, o2⟩
def vk (M : List Nd) (s : Sq) : List (Int × Int) := (if (nd M s.goal).kind = 4 then [(11, s.goal), (12, s.goal)] else []) ++ ((List.range M.length).filter fun (j : Nat) => s.left.has j && decide (onV M s.left j = 13)).map fun (j : Nat) => ((13 : Int), (j : Int))
theorem choices_opts {M : List Nd} {s : Sq} (h : (yJ M s).1 = 14) : jL M s = ((vk M s).map (·.1), (vk M s).map (·.2)) := by
 unfold jL vk
 rw [if_pos h]
 by_cases k : (nd M s.goal).kind = 4 <;> simp [k, Function.comp_def]
theorem on13 {M : List Nd} {b : Bits} {i : Int} (h : onV M b i = 13) : (nd M i).kind = 5 ∧ (nd M (nd M i).l).kind = 5 := by
 rcases on_cases h (by decide) with q | q | q | ⟨q, q2⟩
 ·omega
 ·omega
 ·omega
 ·exact ⟨q, by omega⟩
theorem on13' {M : List Nd} {b : Bits} {i : Int} (k : (nd M i).kind = 5) (c : (nd M (nd M i).l).kind = 5) : onV M b i = 13 := by
 unfold onV
 simp [k, c]
theorem opts_facts {M : List Nd} {s : Sq} {o : Int × Int} (h : o ∈ vk M s) : (o.1 = 11 ∧ (nd M s.goal).kind = 4) ∨ (o.1 = 12 ∧ (nd M s.goal).kind = 4) ∨ (o.1 = 13 ∧ s.left.has o.2 = true ∧ (nd M o.2).kind = 5 ∧ (nd M (nd M o.2).l).kind = 5) := by
 unfold vk at h
 rcases List.mem_append.1 h with h | h
 ·by_cases k : (nd M s.goal).kind = 4
  ·simp only [k, if_true, List.mem_cons, List.not_mem_nil, or_false] at h
   rcases h with rfl | rfl
   ·exact .inl ⟨rfl, k⟩
   ·exact .inr (.inl ⟨rfl, k⟩)
  ·simp [k] at h
 ·obtain ⟨j, hj, rfl⟩ := List.mem_map.1 h
  have := (List.mem_filter.1 hj).2
  simp only [Bool.and_eq_true, decide_eq_true_eq] at this
  exact .inr (.inr ⟨rfl, this.1, on13 this.2⟩)
theorem opts_or {M : List Nd} {s : Sq} (k : (nd M s.goal).kind = 4) : (11, s.goal) ∈ vk M s ∧ (12, s.goal) ∈ vk M s := by
 unfold vk
 rw [if_pos k]
 exact ⟨by simp, by simp⟩
theorem opts_imp {M : List Nd} {s : Sq} {j : Int} (hj : inb j M.length = true) (hh : s.left.has j = true) (k : (nd M j).kind = 5) (c : (nd M (nd M j).l).kind = 5) : (13, j) ∈ vk M s := by
 unfold vk
 have h := xv hj
 have hjn : ((j.toNat : Nat) : Int) = j := by omega
 refine List.mem_append_right _ (List.mem_map.2 ⟨j.toNat, List.mem_filter.2 ⟨List.mem_range.2 (by omega), ?_⟩, by rw [hjn]⟩)
 rw [hjn, hh, on13' k c]; simp
theorem opts_fits {M N : List Nd} {s : Sq} {o : Int × Int} (hw : Wf M) (hl : xJ M s = true) (e : TExt M N) (h : o ∈ vk M s) : yG N s o.1 o.2 = true := by
 obtain ⟨k1, k2⟩ := xt.1 hl
 unfold vk at h
 rcases List.mem_append.1 h with h | h
 ·by_cases k : (nd M s.goal).kind = 4
  ·simp only [k, if_true, List.mem_cons, List.not_mem_nil, or_false] at h
   have k' : (nd N s.goal).kind = 4 := by rw [e.eq _ k2]; exact k
   rcases h with rfl | rfl <;> simp [yG, xo k2 e.len, k']
  ·simp [k] at h
 ·obtain ⟨j, hj, rfl⟩ := List.mem_map.1 h
  obtain ⟨h1, h2⟩ := List.mem_filter.1 hj
  simp only [Bool.and_eq_true, decide_eq_true_eq] at h2
  obtain ⟨c1, c2⟩ := on13 h2.2
  have hi := k1 _ h2.1
  have hli := hw.left hi (.inr (.inr c1))
  show yG N s 13 j = true
  have h3 : onV N s.left j = 13 := on13' (by rw [e.eq _ hi]; exact c1) (by rw [e.eq _ hi, e.eq _ hli]; exact c2)
  rw [fits_on (by decide) (Nat.lt_of_lt_of_le (List.mem_range.1 h1) e.len), h2.1, h3]; rfl
def DoneC (M M' : List Nd) (s : Sq) (o : Int × Int) : Prop :=
 (o.1 = 11 → Refd M' ⟨s.left, (nd M s.goal).l⟩) ∧ (o.1 = 12 → Refd M' ⟨s.left, (nd M s.goal).r⟩) ∧
  (o.1 = 13 → ∃ d : Int, inb d M'.length = true ∧ fm M' d = .imp (fm M' (nd M (nd M o.2).l).r) (fm M' (nd M o.2).r) ∧ Refd M' ⟨(s.left.del o.2).add d, (nd M o.2).l⟩)
theorem DoneC.ext {M M' N : List Nd} {s : Sq} {o : Int × Int} (h : DoneC M M' s o) (hw : Wf M) (hl : xJ M s = true) (hM : TExt M M') (wM' : Wf M') (e : TExt M' N) (ho : o ∈ vk M s) : DoneC M N s o := by
 obtain ⟨k1, k2⟩ := xt.1 hl
 have lf := fun j hj => xo (k1 j hj) hM.len
 refine ⟨fun q => ?_, fun q => ?_, fun q => ?_⟩
 ·have k : (nd M s.goal).kind = 4 := by rcases opts_facts ho with h | h | h <;> omega
  exact (e.refd (s := ⟨s.left, (nd M s.goal).l⟩) wM' (xt.2 ⟨lf, xo (hw.left k2 (.inr (.inl k))) hM.len⟩)).2 (h.1 q)
 ·have k : (nd M s.goal).kind = 4 := by rcases opts_facts ho with h | h | h <;> omega
  exact (e.refd (s := ⟨s.left, (nd M s.goal).r⟩) wM' (xt.2 ⟨lf, xo (hw.right k2 (.inr (.inl k))) hM.len⟩)).2 (h.2.1 q)
 ·obtain ⟨hh, k, c⟩ : s.left.has o.2 = true ∧ (nd M o.2).kind = 5 ∧ (nd M (nd M o.2).l).kind = 5 := by
   rcases opts_facts ho with h | h | h
   ·omega
   ·omega
   ·exact h.2
  obtain ⟨d, hd, fd, hr⟩ := h.2.2 q
  have hi := k1 o.2 hh
  have hli := hw.left hi (.inr (.inr k))
  refine ⟨d, xo hd e.len, ?_, (e.refd (s := ⟨(s.left.del o.2).add d, (nd M o.2).l⟩) wM' (xt.2 ⟨(uS (xf wM'.len hd)).2 ⟨hd, fun j hj => lf j (jd hj).1⟩, xo hli hM.len⟩)).2 hr⟩
  rw [e.fm wM' hd, e.fm wM' (xo (hw.right hli (.inr (.inr c))) hM.len), e.fm wM' (xo (hw.right hi (.inr (.inr k))) hM.len)]
  exact fd
theorem stuck_done {M M' : List Nd} {s : Sq} (hw : Wf M) (hb : s.left.okB = true) (hl : xJ M s = true) (h14 : (yJ M s).1 = 14) (e : TExt M M') (wM' : Wf M') (hd : ∀ o ∈ vk M s, DoneC M M' s o) : Refd M' s := by
 obtain ⟨k1, k2⟩ := xt.1 hl
 have no : ∀ (c : Int → Bool), yX M s c = none → ∀ j : Int, s.left.has j = true → c (onV M s.left j) = false := fun c hc j hj => by
  have hi := xv (k1 j hj)
  have hjn : ((j.toNat : Nat) : Int) = j := by omega
  unfold yX at hc
  have := List.find?_eq_none.1 hc j.toNat (List.mem_range.2 (by omega))
  rw [hjn, hj] at this
  simpa using this
 have hA : yX M s (fun r => decide (r = 1)) = none ∧ s.left.has s.goal = false ∧ yX M s (fun r => decide (3 ≤ r) && decide (r ≤ 7)) = none ∧ (nd M s.goal).kind ≠ 5 ∧ (nd M s.goal).kind ≠ 3 ∧ yX M s (fun r => decide (r = 10)) = none := by
  unfold yJ at h14
  cases h1 : yX M s (fun r => decide (r = 1)) with
  | some j => simp [h1] at h14
  | none =>
   simp only [h1] at h14
   cases h2 : s.left.has s.goal with
   | true => simp [h2] at h14
   | false =>
    simp only [h2, Bool.false_eq_true, if_false] at h14
    cases h3 : yX M s (fun r => decide (3 ≤ r) && decide (r ≤ 7)) with
    | some j =>
     have := (uN h3).2.2
     simp only [h3, Bool.and_eq_true, decide_eq_true_eq] at h14 this
     omega
    | none =>
     simp only [h3] at h14
     by_cases k5 : (nd M s.goal).kind = 5
     ·simp [k5] at h14
     by_cases k3 : (nd M s.goal).kind = 3
     ·simp [k3] at h14
     simp only [k5, k3, if_false] at h14
     cases h4 : yX M s (fun r => decide (r = 10)) with
     | some j => simp [h4] at h14
     | none => exact ⟨rfl, rfl, rfl, k5, k3, rfl⟩
 obtain ⟨a1, a2, a3, a4, a5, a6⟩ := hA
 have hndl : ∀ j : Int, inb j M.length = true → nd M' j = nd M j := e.eq
 refine stuck_refd wM' (e.look hl) (fun j hj => ?_) ?_ (fun k4 => ?_) (fun j hj k5 c5 => ?_)
 ·have hi := k1 j hj
  have o1 := no _ a1 j hj
  have o3 := no _ a3 j hj
  have o10 := no _ a6 j hj
  simp only [decide_eq_false_iff_not, Bool.and_eq_false_iff] at o1 o3 o10
  rw [hndl j hi]
  rcases hw.kind j hi with k | k | k | k | k
  ·exact .inl k
  ·have : onV M s.left j = 1 := by simp [onV, k]
   exact absurd this o1
  ·have : onV M s.left j = 3 := by simp [onV, k]
   omega
  ·have : onV M s.left j = 10 := by simp [onV, k]
   exact absurd this o10
  ·have hli := hw.left hi (.inr (.inr k))
   rw [hndl _ hli]
   rcases hw.kind _ hli with c | c | c | c | c
   ·cases hh : s.left.has (nd M j).l with
    | false => exact .inr (.inl ⟨k, c, rfl⟩)
    | true =>
     have : onV M s.left j = 4 := by simp [onV, k, c, hh]
     omega
   ·have : onV M s.left j = 5 := by simp [onV, k, c]
    omega
   ·have : onV M s.left j = 6 := by simp [onV, k, c]
    omega
   ·have : onV M s.left j = 7 := by simp [onV, k, c]
    omega
   ·exact .inr (.inr ⟨k, c⟩)
 ·rw [hndl _ k2]
  rcases hw.kind _ k2 with k | k | k | k | k
  ·exact .inl ⟨k, a2⟩
  ·exact .inr (.inl k)
  ·exact absurd k a5
  ·exact .inr (.inr k)
  ·exact absurd k a4
 ·rw [hndl _ k2] at k4 ⊢
  obtain ⟨p1, p2⟩ := opts_or k4
  exact ⟨(hd _ p1).1 rfl, (hd _ p2).2.1 rfl⟩
 ·have hi := k1 j hj
  rw [hndl j hi] at k5 c5 ⊢
  have hli := hw.left hi (.inr (.inr k5))
  rw [hndl _ hli] at c5 ⊢
  obtain ⟨d, d1, d2, d3⟩ := (hd _ (opts_imp hi hj k5 c5)).2.2 rfl
  exact ⟨d, xf wM'.len d1, d2, d3⟩
end Go.Proofs.YtjebgcoknpcadaaGreatDoor
end
section
namespace Go.Proofs.YtjebgcoknpcadaaGreatDoor
open Gw
theorem choose_inner {B : Int} {n : Nat} {rec : PFinder → Sq → Option (PFinder × Int × Int)} (hrec : RecOk B n rec) {x : PFinder} {M M1 N : List Nd} {s : Sq} {rl mn : Int} {L : List Sq} (hx : SI B x M) (hs : Gw.look s x.at_ = none) (hb : s.left.okB = true) (hl : xJ M s = true) (wM1 : Wf M1) (eM : TExt M M1) (hm : inb mn M1.length = true) (hP : PremR M1 s mn rl N L)
  {i : Nat} {kids : List Int} {y : PFinder} {st : PStep} {M' : List Nd} (hiL : i < L.length) (hm' : Mid B x y M M' s) (hNM : TExt N M') (hleft : y.left.toNat < n) (hkl : kids.length ≤ 4096) (hsk : st.kids.length ≤ 4096) (hk : Kids y true kids) (hsec : i ≠ 0 → rl = 13 ∧ L[1]? = some L[i]) :
   ∃ q, search_finder_choose.b1 rec (some N, L, 0) i ⟨s, true, rl, mn, kids⟩ y st = some q ∧
    ((∃ q', q = .ret (.ret q') ∧ Out B x M s q') ∨ (∃ a z M2, q = .go (⟨s, true, rl, mn, kids ++ [a]⟩, z, st) ∧ Mid B x z M M2 s ∧ TExt M' M2 ∧ z.left.toNat < n ∧ (∃ K, z.steps = y.steps ++ K) ∧ Kids z true (kids ++ [a]) ∧ kx M2 L[i])
     ∨ (∃ a z M2, i = 0 ∧ q = .brk (⟨s, false, rl, mn, kids ++ [a]⟩, z, ⟨st.seq, st.proved, st.rule, st.main, st.kids ++ [a]⟩) ∧ Mid B x z M M2 s ∧ TExt M' M2 ∧ z.left.toNat < n ∧ (∃ K, z.steps = y.steps ++ K) ∧ (∃ m p, a = ((m : Nat) : Int) ∧ z.steps[m]? = some p ∧ p.proved = false) ∧ Refd M2 L[i])) := by
 have hl1 := eM.look hl
 obtain ⟨wN, lN, qN, pN⟩ := kJ wM1 hb hl1 hm hP
 have eN : TExt M1 N := ⟨lN, qN⟩
 have hlN := eN.look hl1
 have hLi : L[i]? = some L[i] := List.getElem?_eq_getElem hiL
 have hat : at_ Sq.z L (i : Int) = L[i] := by simp [at_, List.getD_eq_getElem?_getD, hiL]
 obtain ⟨bp, lp⟩ := pN L[i] (List.getElem_mem hiL)
 have lp' := hNM.look lp
 have hbel : Below M' L[i] s := (prem_below wM1 hb hl1 hm hP L[i] (List.getElem_mem hiL)).ext wN hNM lp hlN
 obtain ⟨⟨z, v, e⟩, h1, h2, h3⟩ := hrec y M' L[i] hm'.si bp lp' hleft
 unfold search_finder_choose.b1
 simp only [hat, h1, Option.bind_some]
 by_cases he : e = 0
 ·subst he
  obtain ⟨M2, hps⟩ := h2 rfl
  simp only [ne_eq, not_true_eq_false, decide_false, Bool.false_eq_true, if_false]
  obtain ⟨a, p, hva, hap, hpp⟩ := hps.at_
  simp only at hva hap
  subst hva
  obtain ⟨a1, a2⟩ := at_of hap
  simp only [a1, a2, chk, chk_len (n := (a : Int)) hkl, if_true]
  have hmid := mid_step hm' hl lp' hbel hps
  have hNM2 := hNM.trans hps.ext
  obtain ⟨K, hK, _⟩ := hps.new
  have hsem := hps.si.sem p (List.mem_of_getElem? hap)
  rw [hpp] at hsem
  have hzl : z.left.toNat < n := by have := hps.left; simp only at this; omega
  cases hpv : p.proved with
  | true =>
   simp only [if_true]
   exact ⟨_, rfl, .inr (.inl ⟨_, z, M2, rfl, hmid, hps.ext, hzl, ⟨K, hK⟩, (hk.ext hK).push hap hpv, hsem.1 hpv⟩)⟩
  | false =>
   simp only [Bool.false_eq_true, if_false]
   by_cases h0 : i = 0
   ·subst h0
    have e0 : decide (((0 : Nat) : Int) = 0) = true := rfl
    simp only [e0, if_true, chk_len (n := (a : Int)) hsk]
    exact ⟨_, rfl, .inr (.inr ⟨_, z, M2, trivial, rfl, hmid, hps.ext, hzl, ⟨K, hK⟩, ⟨a, p, rfl, hap, hpv⟩, hsem.2 hpv⟩)⟩
   ·have e0 : decide ((i : Int) = 0) = false := decide_eq_false (by omega)
    obtain ⟨r13, hL1⟩ := hsec h0
    have hR : Refd M2 s := (hNM2.refd wN hlN).2 (prem_refd wM1 hb hl1 hm hP (List.getElem_mem hiL) (by omega) (fun _ => hL1) ((hNM2.refd wN lp).1 (hsem.2 hpv)))
    obtain ⟨q, q1, q2, q3⟩ := end_some (p := ⟨s, false, rl, mn, [(a : Int)]⟩) hx hs hmid hb hl rfl ⟨fun q => (by cases q), fun _ => hR⟩ (Kids.one hap hpv) (by simp)
    simp only [e0, Bool.false_eq_true, if_false, q1, Option.bind_some]
    exact ⟨_, rfl, .inl ⟨_, rfl, fun _ => ⟨M2, q3⟩, fun h => absurd q2 h⟩⟩
 ·simp only [ne_eq, he, not_false_eq_true, decide_true, if_true]
  exact ⟨_, rfl, .inl ⟨_, rfl, out_err (h3 he) hm'.ext he⟩⟩
theorem choose_prems {B : Int} {n : Nat} {rec : PFinder → Sq → Option (PFinder × Int × Int)} (hrec : RecOk B n rec) {x : PFinder} {M M1 N : List Nd} {s : Sq} {rl mn : Int} {L : List Sq} (hx : SI B x M) (hs : Gw.look s x.at_ = none) (hb : s.left.okB = true) (hl : xJ M s = true) (wM1 : Wf M1) (eM : TExt M M1) (hm : inb mn M1.length = true) (hP : PremR M1 s mn rl N L)
  {y : PFinder} {st : PStep} (hm' : Mid B x y M N s) (hleft : y.left.toNat < n) (hsk : st.kids.length ≤ 4096) (h2 : L.length = 1 ∨ (L.length = 2 ∧ rl = 13)) :
   ∃ o, forN (fun i (q : PStep × PFinder × PStep) => search_finder_choose.b1 rec (some N, L, 0) i q.1 q.2.1 q.2.2) L.length 0 (⟨s, true, rl, mn, []⟩, y, st) = some o ∧
    ((∃ q', o = .inr (.ret q') ∧ Out B x M s q') ∨ (∃ kids z M2, o = .inl (⟨s, true, rl, mn, kids⟩, z, st) ∧ Mid B x z M M2 s ∧ TExt N M2 ∧ z.left.toNat < n ∧ Kids z true kids ∧ kids.length ≤ 4096 ∧ ∀ p ∈ L, kx M2 p)
     ∨ (∃ kids a z M2, o = .inl (⟨s, false, rl, mn, kids⟩, z, ⟨st.seq, st.proved, st.rule, st.main, st.kids ++ [a]⟩) ∧ Mid B x z M M2 s ∧ TExt N M2 ∧ z.left.toNat < n ∧ (∃ K, z.steps = y.steps ++ K) ∧ (∃ m p, a = ((m : Nat) : Int) ∧ z.steps[m]? = some p ∧ p.proved = false) ∧ ∃ p, L[0]? = some p ∧ Refd M2 p)) := by
 obtain ⟨wN, lN, qN, pN⟩ := kJ wM1 hb (eM.look hl) hm hP
 rcases h2 with h1 | ⟨h1, r13⟩
 ·obtain ⟨p, rfl⟩ := List.length_eq_one_iff.1 h1
  obtain ⟨q, q1, q2⟩ := choose_inner hrec hx hs hb hl wM1 eM hm hP (i := 0) (st := st) (by simp) hm' (TExt.refl N) hleft (by simp) hsk Kids.nil (fun h => absurd rfl h)
  have q1' : search_finder_choose.b1 rec (some N, [p], 0) 0 ⟨s, true, rl, mn, []⟩ y st = some q := q1
  rw [List.length_singleton, forN]
  simp only [q1', Option.bind_some]
  rcases q2 with ⟨q', rfl, ho⟩ | ⟨a, z, M2, rfl, hmid, he, hzl, hK, hk', hva⟩ | ⟨a, z, M2, _, rfl, hmid, he, hzl, hK, hk', hva⟩
  ·exact ⟨_, rfl, .inl ⟨_, rfl, ho⟩⟩
  ·refine ⟨_, rfl, .inr (.inl ⟨_, z, M2, rfl, hmid, he, hzl, hk', by simp, fun q hq => ?_⟩)⟩
   rw [List.mem_singleton.1 hq]; exact hva
  ·exact ⟨_, rfl, .inr (.inr ⟨_, a, z, M2, rfl, hmid, he, hzl, hK, hk', p, rfl, hva⟩)⟩
 ·obtain ⟨p, p2, rfl⟩ : ∃ p p2, L = [p, p2] := by
   match L, h1 with
   | [p, p2], _ => exact ⟨p, p2, rfl⟩
  obtain ⟨q, q1, q2⟩ := choose_inner hrec hx hs hb hl wM1 eM hm hP (i := 0) (st := st) (by simp) hm' (TExt.refl N) hleft (by simp) hsk Kids.nil (fun h => absurd rfl h)
  have q1' : search_finder_choose.b1 rec (some N, [p, p2], 0) 0 ⟨s, true, rl, mn, []⟩ y st = some q := q1
  rw [show [p, p2].length = 2 from rfl, forN]
  simp only [q1', Option.bind_some]
  rcases q2 with ⟨q', rfl, ho⟩ | ⟨a, z, M2, rfl, hmid, he, hzl, hK, hk', hva⟩ | ⟨a, z, M2, _, rfl, hmid, he, hzl, hK, hk', hva⟩
  ·exact ⟨_, rfl, .inl ⟨_, rfl, ho⟩⟩
  ·obtain ⟨u, u1, u2⟩ := choose_inner hrec hx hs hb hl wM1 eM hm hP (i := 1) (st := st) (by simp) hmid he hzl (by simp) hsk hk' (fun _ => ⟨r13, rfl⟩)
   have u1' : search_finder_choose.b1 rec (some N, [p, p2], 0) (0 + 1) ⟨s, true, rl, mn, [] ++ [a]⟩ z st = some u := u1
   simp only [forN]
   rw [u1']
   simp only [Option.bind_some]
   rcases u2 with ⟨q', rfl, ho⟩ | ⟨a2, z2, M3, rfl, hmid2, he2, hzl2, hK2, hk2, hva2⟩ | ⟨_, _, _, h, _⟩
   ·exact ⟨_, rfl, .inl ⟨_, rfl, ho⟩⟩
   ·refine ⟨_, rfl, .inr (.inl ⟨_, z2, M3, rfl, hmid2, he.trans he2, hzl2, hk2, by simp, fun q hq => ?_⟩)⟩
    rcases List.mem_cons.1 hq with rfl | hq
    ·exact (he2.valid hmid.si.wf (he.look (pN _ (List.mem_cons_self ..)).2)).2 hva
    ·rw [List.mem_singleton.1 hq]; exact hva2
   ·cases h
  ·exact ⟨_, rfl, .inr (.inr ⟨_, a, z, M2, rfl, hmid, he, hzl, hK, hk', p, rfl, hva⟩)⟩
theorem choose_step {B : Int} {n : Nat} {rec : PFinder → Sq → Option (PFinder × Int × Int)} (hrec : RecOk B n rec) {x : PFinder} {M : List Nd} {s : Sq} (hx : SI B x M) (hs : Gw.look s x.at_ = none) (hb : s.left.okB = true) (hl : xJ M s = true)
  {i : Nat} {y : PFinder} {M' : List Nd} {ks : List Int} (hiO : i < (vk M s).length) (hm' : Mid B x y M M' s) (hleft : y.left.toNat < n) (hkl : ks.length ≤ 4096) (hk : Kids y false ks) :
   ∃ q, search_finder_choose.b0 ((vk M s).map (·.1), (vk M s).map (·.2), 0) s rec i ⟨s, false, 14, 0, ks⟩ y = some q ∧
    ((∃ q', q = .ret q' ∧ Out B x M s q') ∨ ∃ a z M2, q = .go (⟨s, false, 14, 0, ks ++ [a]⟩, z) ∧ Mid B x z M M2 s ∧ TExt M' M2 ∧ z.left.toNat < n ∧ Kids z false (ks ++ [a]) ∧ DoneC M M2 s (vk M s)[i]) := by
 generalize hO : vk M s = O at hiO ⊢
 have hmem : O[i] ∈ vk M s := by rw [hO]; exact List.getElem_mem hiO
 have hf := opts_facts hmem
 have a1 : at_ (0 : Int) (O.map (·.1)) (i : Int) = O[i].1 := by simp [at_, List.getD_eq_getElem?_getD, hiO]
 have a2 : at_ (0 : Int) (O.map (·.2)) (i : Int) = O[i].2 := by simp [at_, List.getD_eq_getElem?_getD, hiO]
 have hin : inb (i : Int) (O.map (·.2)).length = true := by rw [zaw]; simpa using hiO
 have hlM' := hm'.ext.look hl
 generalize O[i] = o at hf a1 a2 hmem ⊢
 obtain ⟨rl, mn⟩ := o
 simp only at hf a1 a2
 unfold search_finder_choose.b0
 simp only [hin, chk, if_true, a1, a2, hm'.si.t]
 obtain ⟨N, L, e, h1, h2⟩ := Premises_rel rl mn hm'.si.wf hlM' hb
 simp only [h1, Option.bind_some]
 by_cases he : e = 0
 ·subst he
  obtain ⟨hfit, hP⟩ := h2 rfl
  have hm := fits_inb hfit
  obtain ⟨wN, lN, qN, pN⟩ := kJ hm'.si.wf hb hlM' hm hP
  have eN : TExt M' N := ⟨lN, qN⟩
  simp only [ne_eq, not_true_eq_false, decide_false, Bool.false_eq_true, if_false]
  have hmid0 : Mid B x ⟨some N, y.steps, y.at_, y.left, y.visits⟩ M N s := hm'.next hl eN wN rfl rfl rfl rfl rfl
  have hLl : L.length = 1 ∨ (L.length = 2 ∧ rl = 13) := by
   rcases hf with ⟨rfl, _⟩ | ⟨rfl, _⟩ | ⟨rfl, _⟩
   ·cases hP; exact .inl rfl
   ·cases hP; exact .inl rfl
   ·cases hP; exact .inr ⟨rfl, rfl⟩
  obtain ⟨o, o1, o2⟩ := choose_prems hrec hx hs hb hl hm'.si.wf hm'.ext hm hP (y := ⟨some N, y.steps, y.at_, y.left, y.visits⟩) (st := ⟨s, false, 14, 0, ks⟩) hmid0 hleft hkl hLl
  have e0 : (((L.length : Nat) : Int) - 0).toNat = L.length := by omega
  rw [e0, o1]
  simp only [Option.bind_some]
  rcases o2 with ⟨q', rfl, ho⟩ | ⟨kids, z, M2, rfl, hmid, hNM, hzl, hk', hkk, hva⟩ | ⟨kids, a, z, M2, rfl, hmid, hNM, hzl, hK, ha, p, hp, hR⟩
  ·exact ⟨_, rfl, .inl ⟨_, rfl, ho⟩⟩
  ·have hV : kx M2 s := (hNM.valid wN (eN.look hlM')).2 (prem_valid hm'.si.wf hb hlM' hm hP fun p hp => (hNM.valid wN (pN p hp).2).1 (hva p hp))
   obtain ⟨q, q1, q2, q3⟩ := end_some (p := ⟨s, true, rl, mn, kids⟩) hx hs hmid hb hl rfl ⟨fun _ => hV, fun q => (by cases q)⟩ hk' hkk
   simp only [aft, if_true, q1, Option.bind_some]
   exact ⟨_, rfl, .inl ⟨_, rfl, fun _ => ⟨M2, q3⟩, fun h => absurd q2 h⟩⟩
  ·simp only [aft, Bool.false_eq_true, if_false]
   obtain ⟨K, hK⟩ := hK
   have hks : Kids z false (ks ++ [a]) := by
    obtain ⟨m, p, rfl, h3, h4⟩ := ha
    exact (hk.ext hK).push h3 h4
   refine ⟨_, rfl, .inr ⟨a, z, M2, rfl, hmid, eN.trans hNM, hzl, hks, ?_⟩⟩
   obtain ⟨k1, k2⟩ := xt.1 hl
   have hge := hm'.ext.eq _ k2
   refine ⟨fun q => ?_, fun q => ?_, fun q => ?_⟩
   ·simp only at q; subst q
    cases hP
    case orR1 g k =>
     simp only [List.getElem?_cons_zero, Option.some.injEq] at hp
     rw [← hp, g, hge] at hR; exact hR
   ·simp only at q; subst q
    cases hP
    case orR2 g k =>
     simp only [List.getElem?_cons_zero, Option.some.injEq] at hp
     rw [← hp, g, hge] at hR; exact hR
   ·simp only at q; subst q
    obtain ⟨hh, k5, c5⟩ : s.left.has mn = true ∧ (nd M mn).kind = 5 ∧ (nd M (nd M mn).l).kind = 5 := by
     rcases hf with h | h | h
     ·omega
     ·omega
     ·exact h.2
    have hi := k1 mn hh
    have hli := hx.wf.left hi (.inr (.inr k5))
    have n1 := hm'.ext.eq _ hi
    have n2 := hm'.ext.eq _ hli
    cases hP
    case impL h k c e1 =>
     obtain ⟨m1, w1, i1, q1, l1⟩ := vD hm'.si.wf e1
     simp only [List.getElem?_cons_zero, Option.some.injEq] at hp
     rw [n1, n2] at hp m1 w1 i1 l1 hNM
     refine ⟨_, xo i1 hNM.len, ?_, by rw [← hp] at hR; exact hR⟩
     have hr1 := hx.wf.right hli (.inr (.inr c5))
     have hr2 := hx.wf.right hi (.inr (.inr k5))
     have := fmI w1 i1 m1
     rw [hNM.fm w1 i1, hNM.fm w1 (xo hr1 (Nat.le_trans hm'.ext.len l1)), hNM.fm w1 (xo hr2 (Nat.le_trans hm'.ext.len l1))]
     exact this
 ·have hNM' := Premises_err hm'.si.wf hlM' hb h1 he
  subst hNM'
  simp only [ne_eq, he, not_false_eq_true, decide_true, if_true]
  refine ⟨_, rfl, .inl ⟨_, rfl, out_err (M' := N) ⟨⟨N, rfl, by simp, hm'.si.wf.nodup, Nat.le_refl _⟩, .inr ((Premises_code hm'.si.wf hlM' hb (opts_fits hx.wf hl hm'.ext hmem) h1).resolve_left he)⟩ hm'.ext he⟩⟩
theorem choose_ok {B : Int} {n : Nat} {rec : PFinder → Sq → Option (PFinder × Int × Int)} (hrec : RecOk B n rec) {x : PFinder} {M : List Nd} {s : Sq} (hx : SI B x M) (hs : Gw.look s x.at_ = none) (hb : s.left.okB = true) (hl : xJ M s = true) (h14 : (yJ M s).1 = 14)
  {y : PFinder} (hm' : Mid B x y M M s) (hleft : y.left.toNat < n) : ∃ q, search_finder_choose.g rec y s = some q ∧ Out B x M s q := by
 have hOl : (vk M s).length ≤ 4096 := by
  have := (choices_len (M := M) (s := s) hx.wf.len).2
  rw [choices_opts h14] at this
  simpa using this
 have main : ∀ (c i : Nat) (ks : List Int) (y : PFinder) (M' : List Nd), i + c = (vk M s).length → Mid B x y M M' s → y.left.toNat < n → ks.length = i → Kids y false ks → (∀ (j : Nat) (o : Int × Int), j < i → (vk M s)[j]? = some o → DoneC M M' s o) →
   ∃ o, forN (fun i (st : PStep × PFinder) => search_finder_choose.b0 ((vk M s).map (·.1), (vk M s).map (·.2), 0) s rec i st.1 st.2) c i (⟨s, false, 14, 0, ks⟩, y) = some o ∧
    ((∃ ks' y' M2, o = .inl (⟨s, false, 14, 0, ks'⟩, y') ∧ Mid B x y' M M2 s ∧ Kids y' false ks' ∧ ks'.length ≤ 4096 ∧ ∀ o ∈ vk M s, DoneC M M2 s o) ∨ ∃ q, o = .inr q ∧ Out B x M s q) := by
  intro c
  induction c with
  | zero =>
   intro i ks y M' hi hm' hleft hkl hk hd
   refine ⟨_, rfl, .inl ⟨ks, y, M', rfl, hm', hk, by omega, fun o ho => ?_⟩⟩
   obtain ⟨j, hj, e⟩ := List.getElem_of_mem ho
   exact hd j o (by omega) (by rw [List.getElem?_eq_getElem hj, e])
  | succ c ih =>
   intro i ks y M' hi hm' hleft hkl hk hd
   obtain ⟨q, h1, h2⟩ := choose_step hrec hx hs hb hl (i := i) (by omega) hm' hleft (by omega) hk
   rw [forN]
   simp only [h1, Option.bind_some]
   rcases h2 with ⟨q', rfl, ho⟩ | ⟨a, z, M2, rfl, hmid, he, hzl, hk', hdo⟩
   ·exact ⟨_, rfl, .inr ⟨_, rfl, ho⟩⟩
   ·obtain ⟨o, o1, o2⟩ := ih (i + 1) (ks ++ [a]) z M2 (by omega) hmid hzl (by simp [hkl]) hk' (fun j p hj hp => by
     by_cases e : j = i
     ·subst e
      rw [List.getElem?_eq_getElem (by omega)] at hp
      rw [← Option.some.inj hp]; exact hdo
     ·exact (hd j p (by omega) hp).ext hx.wf hl hm'.ext hm'.si.wf he (List.mem_of_getElem? hp))
    exact ⟨o, by simpa using o1, o2⟩
 unfold search_finder_choose.g
 rw [hm'.si.t, choices_some hx.wf.len hl hb, choices_opts h14]
 simp only [Option.bind_some, ne_eq, not_true_eq_false, decide_false, Bool.false_eq_true, if_false]
 obtain ⟨o, o1, o2⟩ := main (vk M s).length 0 [] y M (by omega) hm' hleft rfl Kids.nil (fun j o hj => by omega)
 have e0 : ((((vk M s).map (·.1)).length : Int) - 0).toNat = (vk M s).length := by simp
 change forN (fun i (st : PStep × PFinder) => search_finder_choose.b0 ((vk M s).map (·.1), (vk M s).map (·.2), 0) s rec i st.1 st.2) (vk M s).length (0 : Int) (⟨s, false, 14, 0, []⟩, y) = some o at o1
 rw [e0, o1]
 simp only [Option.bind_some]
 rcases o2 with ⟨ks, y', M2, rfl, hmid, hk, hkk, hd⟩ | ⟨q, rfl, ho⟩
 ·have hR := stuck_done hx.wf hb hl h14 hmid.ext hmid.si.wf hd
  obtain ⟨q, q1, q2, q3⟩ := end_some (p := ⟨s, false, 14, 0, ks⟩) hx hs hmid hb hl rfl ⟨fun q => (by cases q), fun _ => hR⟩ hk hkk
  simp only [aft, q1, Option.bind_some]
  exact ⟨_, rfl, fun _ => ⟨M2, q3⟩, fun h => absurd q2 h⟩
 ·exact ⟨_, rfl, ho⟩
theorem apply_rule {M : List Nd} {s : Sq} (h : (yJ M s).1 ≠ 14) : (yJ M s).1 ≠ 11 ∧ (yJ M s).1 ≠ 12 ∧ (yJ M s).1 ≠ 13 := by
 unfold yJ at h ⊢
 cases h1 : yX M s (fun r => decide (r = 1)) with
 | some j => simp
 | none =>
  simp only
  split
  ·simp
  ·cases h3 : yX M s (fun r => decide (3 ≤ r) && decide (r ≤ 7)) with
   | some j =>
    have := (uN h3).2.2
    simp only [Bool.and_eq_true, decide_eq_true_eq] at this
    simp only
    omega
   | none =>
    simp only
    split
    ·simp
    ·split
     ·simp
     ·cases h4 : yX M s (fun r => decide (r = 10)) with
      | some j => simp
      | none => simp [h1, h3, h4, *] at h
theorem decide_ok {B : Int} {n : Nat} {rec : PFinder → Sq → Option (PFinder × Int × Int)} (hrec : RecOk B n rec) : RecOk B (n + 1) (search_finder_decide.g rec) := by
 intro x M s hx hb hl hleft
 unfold search_finder_decide.g
 cases hs : Gw.look s x.at_ with
 | some v =>
  simp only [Option.isSome_some, if_true, Option.getD_some]
  obtain ⟨i, p, h1, h2, h3⟩ := hx.c2 s v hs
  refine ⟨_, rfl, fun _ => ⟨M, hx, TExt.refl M, ⟨[], by simp, fun p hp => by cases hp⟩, Int.le_refl _, rfl, ⟨i, p, h1, h2, h3⟩, .inl rfl⟩, fun h => absurd rfl h⟩
 | none =>
  simp only [Option.isSome_none, Bool.false_eq_true, if_false]
  by_cases h0 : x.left = 0
  ·rw [if_pos (decide_eq_true h0)]
   exact ⟨_, rfl, out_err ⟨hx.er (TExt.refl M), .inl rfl⟩ (TExt.refl M) (by decide)⟩
  rw [if_neg (by simpa using h0), hx.t, Apply_some hx.wf.len hb, hl]
  have hbud := hx.bud
  simp only [if_true, Option.bind_some, ne_eq, not_true_eq_false, decide_false, Bool.false_eq_true, if_false]
  rw [wrap_small (n := x.left - 1) (by omega), wrap_small (n := x.visits + 1) (by omega)]
  have hmid : ∀ N, TExt M N → Wf N → Mid B x ⟨some N, x.steps, x.at_, x.left - 1, x.visits + 1⟩ M N s := fun N eN wN =>
   ⟨hx.next eN wN rfl rfl rfl ⟨by show 0 ≤ x.left - 1; omega, by show x.left - 1 + (x.visits + 1) = B; omega, by show x.visits ≤ x.visits + 1; omega⟩, eN, ⟨[], by simp, fun p hp => by cases hp⟩, Int.le_refl _, rfl⟩
  by_cases h14 : (yJ M s).1 = 14
  ·rw [if_pos (decide_eq_true h14)]
   obtain ⟨q, q1, q2⟩ := choose_ok hrec hx hs hb hl h14 (hmid M (TExt.refl M) hx.wf) (by show (x.left - 1).toNat < n; omega)
   rw [q1]
   exact ⟨_, rfl, q2⟩
  ·rw [if_neg (by simpa using h14)]
   obtain ⟨N, L, e, h1, h2⟩ := Premises_rel (yJ M s).1 (yJ M s).2 hx.wf hl hb
   rw [h1]
   simp only [Option.bind_some]
   by_cases he : e = 0
   ·subst he
    obtain ⟨hfit, hP⟩ := h2 rfl
    have hm := fits_inb hfit
    obtain ⟨wN, lN, qN, pN⟩ := kJ hx.wf hb hl hm hP
    have eN : TExt M N := ⟨lN, qN⟩
    simp only [not_true_eq_false, decide_false, Bool.false_eq_true, if_false]
    obtain ⟨o, o1, o2⟩ := decide_loop hrec hx hs hb hl hm hP (apply_rule h14) L.length 0 [] ⟨some N, x.steps, x.at_, x.left - 1, x.visits + 1⟩ N (by omega) (hmid N eN wN) (TExt.refl N) (by show (x.left - 1).toNat < n; omega) rfl Kids.nil (fun j p hj => by omega)
    have e0 : (((L.length : Nat) : Int) - 0).toNat = L.length := by omega
    change forN (fun i (st : PStep × PFinder) => search_finder_decide.b0 rec (some N, L, 0) s ((yJ M s).1, (yJ M s).2, 0) i st.1 st.2) L.length (0 : Int) (⟨s, true, (yJ M s).1, (yJ M s).2, []⟩, ⟨some N, x.steps, x.at_, x.left - 1, x.visits + 1⟩) = some o at o1
    rw [e0, o1]
    simp only [Option.bind_some]
    rcases o2 with ⟨ks, y', M2, rfl, hmid', hNM, hk, hkk, hv⟩ | ⟨q, rfl, ho⟩
    ·have hV : kx M2 s := (hNM.valid wN (eN.look hl)).2 (prem_valid hx.wf hb hl hm hP fun p hp => (hNM.valid wN (pN p hp).2).1 (hv p hp))
     obtain ⟨q, q1, q2, q3⟩ := end_some (p := ⟨s, true, (yJ M s).1, (yJ M s).2, ks⟩) hx hs hmid' hb hl rfl ⟨fun _ => hV, fun q => (by cases q)⟩ hk hkk
     simp only [aft, q1, Option.bind_some]
     exact ⟨_, rfl, fun _ => ⟨M2, q3⟩, fun h => absurd q2 h⟩
    ·exact ⟨_, rfl, ho⟩
   ·have hNM := Premises_err hx.wf hl hb h1 he
    subst hNM
    simp only [he, not_false_eq_true, decide_true, if_true]
    exact ⟨_, rfl, out_err (M' := N) ⟨⟨N, rfl, by simp, hx.wf.nodup, Nat.le_refl _⟩, .inr ((Premises_code hx.wf hl hb (apply_fits hl h14) h1).resolve_left he)⟩ (TExt.refl N) he⟩
theorem decide_all {B : Int} : ∀ n : Nat, RecOk B n (search_finder_decide.f n)
 | 0 => fun x M s hx _ _ hleft => by omega
 | n + 1 => decide_ok (decide_all n)
end Go.Proofs.YtjebgcoknpcadaaGreatDoor
end
section
namespace Go.Proofs.YtjebgcoknpcadaaGreatDoor
open Gw
set_option maxRecDepth 100000
theorem run_some {k : Nat} (hk : 4097 ≤ k) {M : List Nd} {s : Sq} (bg : Int) (hw : Wf M) (hb : s.left.okB = true) :
  ∃ T F e, search_Run.f k (some M) s bg = some (T, F, e) ∧
   (e = 0 → xJ M s = true ∧ 1 ≤ bg ∧ bg ≤ 4096 ∧ ∃ M' y v, T = some M' ∧ F = ⟨(at_ PStep.z y.steps v).proved, y.steps, y.visits⟩ ∧ Ps bg ⟨some M, [], [], bg, 0⟩ y M M' s v) ∧ (e ≠ 0 → T = some M ∧ F = ⟨false, [], 0⟩ ∧ (xJ M s = true → 1 ≤ bg → bg ≤ 4096 → Bd e)) := by
 unfold search_Run.f
 simp only [formula_Table_Not_neg.f, Option.bind_some, hb, chk, if_true, show (decide ((31 : Int) = 1)) = false from rfl, Bool.false_eq_true, if_false]
 have hloop := kL (b := fun (x : Nat) (s : Int × PFound) => search_Run.b0 (some M) (x : Int) s.1 s.2) (p := fun (j : Nat) => decide ((M.length : Int) ≤ (j : Int))) (r := fun _ => ((31 : Int), (⟨false, [], 0⟩ : PFound))) s.left.list (0, ⟨false, [], 0⟩) (by
  intro x _
  simp only [search_Run.b0, formula_Table_Len.f, Option.map_some, Option.bind_some]
  split <;> rfl)
 rw [hloop]
 have ha : (s.left.list.all fun j => decide (j < M.length)) = !(s.left.list.find? fun (j : Nat) => decide ((M.length : Int) ≤ (j : Int))).isSome := by
  rw [← any_find, List.all_eq_not_any_not]
  congr 2
  funext j
  by_cases hj : j < M.length
  ·have : ¬ (M.length : Int) ≤ j := by omega
   simp [hj, this]
  ·have : (M.length : Int) ≤ j := by omega
   simp [hj, this]
 cases hf : s.left.list.find? fun (j : Nat) => decide ((M.length : Int) ≤ (j : Int)) with
 | some j =>
  simp only [Option.bind_some, fin]
  exact ⟨_, _, _, rfl, fun h => absurd h (by decide), fun _ => ⟨rfl, rfl, fun hl => by
   unfold xJ at hl; rw [ha, hf] at hl; simp at hl⟩⟩
 | none =>
  rw [hf] at ha
  simp only [Option.bind_some, fin, formula_Table_Len.f, Option.map_some]
  by_cases hg : inb s.goal M.length = true
  ·have hlk : xJ M s = true := by unfold xJ; rw [ha, hg]; rfl
   have h0 := xv hg
   have g1 : decide (s.goal < 0) = false := decide_eq_false (by omega)
   have g2 : decide ((M.length : Int) ≤ s.goal) = false := decide_eq_false (by omega)
   simp only [g1, Bool.not_false, if_true, Option.bind_some, g2, Bool.false_or, Bool.false_eq_true, if_false]
   by_cases hbg : 1 ≤ bg ∧ bg ≤ 4096
   ·have b1 : (decide (bg < 1) || decide (4096 < bg)) = false := by
     rw [Bool.or_eq_false_iff, decide_eq_false_iff_not, decide_eq_false_iff_not]; omega
    simp only [b1, Bool.false_eq_true, if_false]
    have hsi : SI bg ⟨some M, [], [], bg, 0⟩ M := { t := rfl, wf := hw, bud := ⟨(by show 0 ≤ bg; omega), (by show bg + 0 = bg; omega), hbg.2, (by simp)⟩, c1 := fun i p h => (by simp at h), c2 := fun q v h => (by simp [Gw.look] at h), seq := fun p h => (by cases h), sem := fun p h => (by cases h), kids := fun i p h => (by simp at h), kl := fun p h => (by cases h) }
    obtain ⟨⟨y, v, e⟩, h1, h2, h3⟩ := decide_all (B := bg) k _ M s hsi hb hlk (by show bg.toNat < k; omega)
    rw [h1]
    simp only [Option.bind_some]
    by_cases he : e = 0
    ·subst he
     obtain ⟨M', hps⟩ := h2 rfl
     obtain ⟨i, p, e1, e2, e3⟩ := hps.at_
     simp only at e1 e2
     subst e1
     obtain ⟨a1, a2⟩ := at_of e2
     simp only [ne_eq, not_true_eq_false, decide_false, Bool.false_eq_true, if_false, a2, if_true, hps.si.t]
     exact ⟨_, _, _, rfl, fun _ => ⟨hlk, hbg.1, hbg.2, M', y, i, hps.si.t, rfl, hps⟩, fun h => absurd rfl h⟩
    ·obtain ⟨N, n1, n2, n3, n4⟩ := (h3 he).1.ex
     simp only at n1
     simp only [ne_eq, he, not_false_eq_true, decide_true, if_true, n1, cutP n2 n3 n4, Option.bind_some]
     exact ⟨_, _, _, rfl, fun h => absurd h he, fun _ => ⟨rfl, rfl, fun _ _ _ => (h3 he).2⟩⟩
   ·have b1 : (decide (bg < 1) || decide (4096 < bg)) = true := by
     rw [Bool.or_eq_true, decide_eq_true_eq, decide_eq_true_eq]; omega
    simp only [b1, if_true]
    exact ⟨_, _, _, rfl, fun h => absurd h (by decide), fun _ => ⟨rfl, rfl, fun _ b2 b3 => absurd ⟨b2, b3⟩ hbg⟩⟩
  ·have hg' : ¬ (0 ≤ s.goal ∧ s.goal < M.length) := fun q => hg (by simp only [inb, Bool.and_eq_true, decide_eq_true_eq]; exact q)
   by_cases h0 : s.goal < 0
   ·simp only [h0, decide_true, Bool.not_true, Bool.false_eq_true, if_false, Option.bind_some, Bool.true_or, if_true]
    exact ⟨_, _, _, rfl, fun h => absurd h (by decide), fun _ => ⟨rfl, rfl, fun hl => absurd (xt.1 hl).2 hg⟩⟩
   ·have g2 : (M.length : Int) ≤ s.goal := by omega
    simp only [h0, decide_false, Bool.not_false, if_true, Option.bind_some, g2, decide_true, Bool.false_or]
    exact ⟨_, _, _, rfl, fun h => absurd h (by decide), fun _ => ⟨rfl, rfl, fun hl => absurd (xt.1 hl).2 hg⟩⟩
end Go.Proofs.YtjebgcoknpcadaaGreatDoor
end
section
namespace Go.Proofs.YtjebgcoknpcadaaGreatDoor
open Gw
set_option maxRecDepth 100000
def Sd (K : Kr) (w : K.W) (M : List Nd) (s : Sc) : Prop := ∀ q ∈ s, K.fc (fm M q.2) w
theorem Sd.up {K : Kr} {w v : K.W} {M : List Nd} {s : Sc} (h : Sd K w M s) (hv : K.le w v) : Sd K v M s := fun q hq => K.up _ hv (h q hq)
theorem Sd.cons {K : Kr} {w : K.W} {M : List Nd} {s : Sc} {n : ByteArray} {f : Int} (h : Sd K w M s) (hf : K.fc (fm M f) w) : Sd K w M ((n, f) :: s) := fun q hq => by
 rcases List.mem_cons.1 hq with rfl | hq
 ·exact hf
 ·exact h q hq
theorem uf {r : TR} {g : Int → TR} {f : Int} (h : r.bind g = .ok f) : ∃ a, r = .ok a ∧ g a = .ok f := by
 cases r with
 | ok a => exact ⟨a, rfl, h⟩
 | no c w => cases h
structure PSnd (M : List Nd) (P : Int → Sc → Option Int → TR) : Prop where
 t : ∀ i s f, Sok M s → P i s none = .ok f → inb f M.length = true ∧ ∀ (K : Kr) (w : K.W), Sd K w M s → K.fc (fm M f) w
 c : ∀ i s id f, Sok M s → inb id M.length = true → P i s (some id) = .ok f → ∀ (K : Kr) (w : K.W), Sd K w M s → K.fc (fm M id) w
theorem told_sound {M : List Nd} {P : Int → Sc → Option Int → TR} (hM : Wf M) (hP : PSnd M P) {s : Sc} (hs : Sok M s) {x : PTerm} {f : Int} (h : uC M P s x = .ok f) :
  inb f M.length = true ∧ ∀ (K : Kr) (w : K.W), Sd K w M s → K.fc (fm M f) w := by
 unfold uC at h
 split at h
 ·split at h
  ·rename_i q hq
   cases h
   have hm := List.mem_of_find?_eq_some hq
   exact ⟨hs q hm, fun K w hw => hw q hm⟩
  ·cases h
 split at h
 ·obtain ⟨a, h1, h⟩ := uf h
  obtain ⟨hk, h⟩ := zaM.1 h
  obtain ⟨b, h2, h⟩ := uf h
  cases h
  obtain ⟨ia, fa⟩ := hP.t _ _ _ hs h1
  have hl := hM.left ia (.inr (.inr hk))
  have fb := hP.c _ _ _ _ hs hl h2
  refine ⟨hM.right ia (.inr (.inr hk)), fun K w hw => ?_⟩
  have := fa K w hw
  rw [fm5 hM ia hk] at this
  exact this w (K.refl w) (fb K w hw)
 split at h
 ·obtain ⟨a, h1, h⟩ := uf h
  obtain ⟨hk, h⟩ := zaM.1 h
  cases h
  obtain ⟨ia, fa⟩ := hP.t _ _ _ hs h1
  refine ⟨hM.left ia (.inl hk), fun K w hw => ?_⟩
  have := fa K w hw
  rw [fm3 hM ia hk] at this
  exact this.1
 split at h
 ·obtain ⟨a, h1, h⟩ := uf h
  obtain ⟨hk, h⟩ := zaM.1 h
  cases h
  obtain ⟨ia, fa⟩ := hP.t _ _ _ hs h1
  refine ⟨hM.right ia (.inl hk), fun K w hw => ?_⟩
  have := fa K w hw
  rw [fm3 hM ia hk] at this
  exact this.2
 split at h
 ·split at h
  ·rename_i hi
   obtain ⟨a, h1, h⟩ := uf h
   cases h
   exact ⟨hi, hP.c _ _ _ _ hs hi h1⟩
  ·cases h
 split at h
 ·obtain ⟨a, h1, h⟩ := uf h
  obtain ⟨ia, fa⟩ := hP.t _ _ _ hs h1
  obtain ⟨ib, fb⟩ := hP.t _ _ _ (hs.cons ia) h
  exact ⟨ib, fun K w hw => fb K w (hw.cons (fa K w hw))⟩
 split at h
 ·obtain ⟨a, h1, h⟩ := uf h
  obtain ⟨hk, h⟩ := zaM.1 h
  obtain ⟨b, h2, h⟩ := uf h
  obtain ⟨c, h3, h⟩ := uf h
  split at h
  ·rename_i hbc
   cases h
   subst hbc
   obtain ⟨ia, fa⟩ := hP.t _ _ _ hs h1
   obtain ⟨ib, fb⟩ := hP.t _ _ _ (hs.cons (hM.left ia (.inr (.inl hk)))) h2
   obtain ⟨ic, fc⟩ := hP.t _ _ _ (hs.cons (hM.right ia (.inr (.inl hk)))) h3
   refine ⟨ib, fun K w hw => ?_⟩
   have := fa K w hw
   rw [fm4 hM ia hk] at this
   rcases this with q | q
   ·exact fb K w (hw.cons q)
   ·exact fc K w (hw.cons q)
  ·cases h
 ·cases h
theorem chkd_sound {M : List Nd} {P : Int → Sc → Option Int → TR} (hM : Wf M) (hP : PSnd M P) {s : Sc} (hs : Sok M s) {x : PTerm} {id f : Int} (hi : inb id M.length = true) (h : jx M P s x id = .ok f) :
  ∀ (K : Kr) (w : K.W), Sd K w M s → K.fc (fm M id) w := by
 unfold jx at h
 split at h
 ·obtain ⟨hk, h⟩ := zaM.1 h
  have fb := hP.c _ _ _ _ (hs.cons (hM.left hi (.inr (.inr hk)))) (hM.right hi (.inr (.inr hk))) h
  intro K w hw
  rw [fm5 hM hi hk]
  exact fun v hv hx => fb K v ((hw.up hv).cons hx)
 split at h
 ·obtain ⟨hk, h⟩ := zaM.1 h
  obtain ⟨a, h1, h⟩ := uf h
  intro K w hw
  rw [fm3 hM hi hk]
  exact ⟨hP.c _ _ _ _ hs (hM.left hi (.inl hk)) h1 K w hw, hP.c _ _ _ _ hs (hM.right hi (.inl hk)) h K w hw⟩
 split at h
 ·obtain ⟨hk, h⟩ := zaM.1 h
  intro K w hw
  rw [fm4 hM hi hk]
  exact .inl (hP.c _ _ _ _ hs (hM.left hi (.inr (.inl hk))) h K w hw)
 split at h
 ·obtain ⟨hk, h⟩ := zaM.1 h
  intro K w hw
  rw [fm4 hM hi hk]
  exact .inr (hP.c _ _ _ _ hs (hM.right hi (.inr (.inl hk))) h K w hw)
 split at h
 ·obtain ⟨a, h1, h⟩ := uf h
  obtain ⟨hk, h⟩ := zaM.1 h
  obtain ⟨b, h2, h⟩ := uf h
  obtain ⟨ia, fa⟩ := hP.t _ _ _ hs h1
  have fb := hP.c _ _ _ _ (hs.cons (hM.left ia (.inr (.inl hk)))) hi h2
  have fc := hP.c _ _ _ _ (hs.cons (hM.right ia (.inr (.inl hk)))) hi h
  intro K w hw
  have := fa K w hw
  rw [fm4 hM ia hk] at this
  rcases this with q | q
  ·exact fb K w (hw.cons q)
  ·exact fc K w (hw.cons q)
 split at h
 ·obtain ⟨a, h1, h⟩ := uf h
  obtain ⟨hk, h⟩ := zaM.1 h
  obtain ⟨ia, fa⟩ := hP.t _ _ _ hs h1
  intro K w hw
  have := fa K w hw
  rw [fm2 hk] at this
  exact this.elim
 split at h
 ·obtain ⟨a, h1, h⟩ := uf h
  obtain ⟨ia, fa⟩ := hP.t _ _ _ hs h1
  have fb := hP.c _ _ _ _ (hs.cons ia) hi h
  exact fun K w hw => fb K w (hw.cons (fa K w hw))
 ·obtain ⟨a, h1, h⟩ := uf h
  obtain ⟨_, fa⟩ := told_sound hM hP hs h1
  split at h
  ·rename_i e
   subst e
   exact fa
  ·cases h
theorem tr_at {r : TR} {i f : Int} (h : r.at_ i = .ok f) : r = .ok f := by cases r <;> first | exact h | cases h
theorem ty_sound {M : List Nd} (hM : Wf M) : ∀ (k : Nat) (x : PTerm), (∀ s f, Sok M s → tyS M k x s none = .ok f → inb f M.length = true ∧ ∀ (K : Kr) (w : K.W), Sd K w M s → K.fc (fm M f) w) ∧
  (∀ s id f, Sok M s → inb id M.length = true → tyS M k x s (some id) = .ok f → ∀ (K : Kr) (w : K.W), Sd K w M s → K.fc (fm M id) w)
 | 0, x => ⟨fun s f _ h => (by cases h), fun s id f _ _ h => (by cases h)⟩
 | k + 1, x => by
  have hP : PSnd M (fun i s' w => (tyS M k (at_ PTerm.z x.sub i) s' w).at_ i) := ⟨fun i s f hs h => (ty_sound hM k _).1 s f hs (tr_at h), fun i s id f hs hi h => (ty_sound hM k _).2 s id f hs hi (tr_at h)⟩
  refine ⟨fun s f hs h => ?_, fun s id f hs hi h => ?_⟩
  ·rw [tyS_told] at h; exact told_sound hM hP hs h
  ·rw [tyS_chkd] at h; exact chkd_sound hM hP hs hi h
theorem prv_loop (l : List Hyp) (id : Int) (hf : ∀ h ∈ l, 0 ≤ h.form ∧ h.form < 1024) : ∀ (n i : Nat) (b : Bits), i + n = l.length → b.okB = true →
  ∃ b' : Bits, forN (fun i s => law13_TypesProve.b0 l i s) n (i : Int) (⟨b, id⟩ : Sq) = some (.inl ⟨b', id⟩) ∧ b'.okB = true ∧ ∀ j : Int, b'.has j = true ↔ b.has j = true ∨ ∃ h ∈ l.drop i, h.form = j
 | 0, i, b, hi, hb => ⟨b, rfl, hb, fun j => by rw [List.drop_eq_nil_of_le (by omega)]; simp⟩
 | n + 1, i, b, hi, hb => by
  have hil : i < l.length := by omega
  have he : at_ Hyp.z l (i : Int) = l[i] := by
   unfold at_; rw [Int.toNat_natCast, List.getD_eq_getElem?_getD, List.getElem?_eq_getElem hil]; rfl
  have hr := hf l[i] (List.getElem_mem hil)
  have h0 : law13_TypesProve.b0 l (i : Int) ⟨b, id⟩ = some (.go ⟨b.add l[i].form, id⟩) := by
   unfold law13_TypesProve.b0 ref05_Put.f
   simp only [he, hb, chk, if_true, Option.bind_some]
   unfold Bits.putS
   rw [if_pos hr]
   simp
  obtain ⟨b', h1, h2, h3⟩ := prv_loop l id hf n (i + 1) (b.add l[i].form) (by omega) (jG _)
  refine ⟨b', ?_, h2, fun j => ?_⟩
  ·rw [forN]
   show (law13_TypesProve.b0 l (i : Int) ⟨b, id⟩).bind _ = _
   rw [h0]
   simp only [Option.bind_some]
   rw [show ((i : Int) + 1) = ((i + 1 : Nat) : Int) by omega]; exact h1
  ·rw [h3 j, List.drop_eq_getElem_cons hil, Bits.add_has _ _ _ hr]
   simp only [List.mem_cons, exists_eq_or_imp, Bool.or_eq_true, decide_eq_true_eq]
   constructor
   ·rintro ((h | h) | h)
    ·first | exact .inr (.inl h.symm) | exact .inr (.inl h) | exact .inl h
    ·first | exact .inl h | exact .inr (.inl h.symm) | exact .inr (.inl h)
    ·exact .inr (.inr h)
   ·rintro (h | h | h)
    ·first | exact .inl (.inl h) | exact .inl (.inr h)
    ·first | exact .inl (.inl h.symm) | exact .inl (.inr h.symm) | exact .inl (.inl h) | exact .inl (.inr h)
    ·exact .inr h
theorem TypesProve_true {k : Nat} (hk : 66562 ≤ k) (hh : law13_heads.f k = some true) {rows : List Nd} {l : List Hyp} {x : PTerm} {id : Int} (hnm : ∀ n ∈ rows, n.name.size < 9223372036854775808) (hrl : rows.length * 40 ≤ 140737488355328) (hn : nmT x) (hb : (1 + l.length) * 24 ≤ 140737488355328) :
  law13_TypesProve.f k rows l x id = some true := by
 unfold law13_TypesProve.f
 rcases both_some hnm hrl with h | ⟨h, hw⟩
 ·rw [h]; simp [hh]
 rw [h]
 simp only [Option.bind_some, Bool.not_true, Bool.not_false, if_true, Bool.false_or]
 rw [CheckF_some hw hk hn (by omega)]
 simp only [Option.bind_some]
 by_cases hc : (whereS rows l x id).2 = 0
 ·have hz : inb id rows.length = true ∧ hypsOk rows l = true ∧ ∃ f, tyS rows (depT x) x (scS l) (some id) = .ok f := by
   unfold whereS at hc
   cases hq : inb id rows.length && hypsOk rows l with
   | false => rw [hq] at hc; simp at hc
   | true =>
    rw [hq] at hc
    simp only [if_true] at hc
    rw [Bool.and_eq_true] at hq
    refine ⟨hq.1, hq.2, ?_⟩
    by_cases hck : checkT x ≠ 0
    ·rw [if_pos hck] at hc; exact absurd hc hck
    ·rw [if_neg hck] at hc
     have hcd := tyS_cd (M := rows) (depT x) x (scS l) (some id)
     cases ht : tyS rows (depT x) x (scS l) (some id) with
     | ok f => exact ⟨f, rfl⟩
     | no c w =>
      rw [ht] at hcd hc
      exact absurd hc (cd_pos hcd (by intro f; simp))
  obtain ⟨hid, hho, f, hty⟩ := hz
  have hsnd := (ty_sound hw (depT x) x).2 _ _ _ (scS_ok hho) hid hty
  have hfo : ∀ h ∈ l, inb h.form rows.length = true := fun h hm => List.all_eq_true.1 hho h hm
  obtain ⟨b, h1, h2, h3⟩ := prv_loop l id (fun h hm => xf hw.len (hfo h hm)) l.length 0 Bits.z (by omega) (Bits.ok_okB Bits.z_ok)
  have e0 : (((l.length : Nat) : Int) - 0).toNat = l.length := by omega
  simp only [hc, ne_eq, not_true_eq_false, decide_false, Bool.false_eq_true, if_false]
  rw [e0]
  have h1' : forN (fun i s => law13_TypesProve.b0 l i s) l.length 0 ({ Sq.z with goal := id }) = some (.inl ⟨b, id⟩) := h1
  rw [h1']
  simp only [Option.bind_some, aft]
  have hlk : xJ rows ⟨b, id⟩ = true := xt.2 ⟨fun j hj => by
   rcases (h3 j).1 hj with q | ⟨a, ha, rfl⟩
   ·rw [Bits.z_has] at q; cases q
   ·exact hfo a (List.mem_of_mem_drop ha), hid⟩
  have hV : kx rows ⟨b, id⟩ := fun K w hH => hsnd K w fun q hq => by
   obtain ⟨a, ha, rfl⟩ := List.mem_map.1 (List.mem_reverse.1 hq)
   exact hH _ ((h3 _).2 (.inr ⟨a, by simpa using ha, rfl⟩))
  obtain ⟨T, F, e, r1, r2, r3⟩ := run_some (k := k) (by omega) 4096 hw (s := ⟨b, id⟩) h2
  rw [r1]
  simp only [Option.bind_some]
  by_cases he : e = 0
  ·subst he
   obtain ⟨_, _, _, M', y, v, rfl, rfl, hps⟩ := r2 rfl
   obtain ⟨i, p, e1, e2, e3⟩ := hps.at_
   subst e1
   obtain ⟨a1, a2⟩ := at_of e2
   have hsem := hps.si.sem p (List.mem_of_getElem? e2)
   rw [e3] at hsem
   have hp : p.proved = true := by
    cases hp : p.proved with
    | true => rfl
    | false => exact (not_both ((hps.ext.valid hw hlk).2 hV) (hsem.2 hp)).elim
   simp only [a1, hp, hh]
   simp
  ·have hbd := (r3 he).2.2 hlk (by omega) (by omega)
   have hd : (decide (e = 110) || decide (e = 30)) = true := by
    rcases hbd with rfl | rfl <;> rfl
   simp only [hd, if_true, hh, Option.bind_some]
 ·simp only [hc, ne_eq, not_false_eq_true, decide_true, if_true, hh, Option.bind_some]
end Go.Proofs.YtjebgcoknpcadaaGreatDoor
end
