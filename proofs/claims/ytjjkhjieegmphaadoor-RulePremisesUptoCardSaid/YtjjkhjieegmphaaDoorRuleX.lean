/- Chapter 09, the plain law: what the program's rules and the document's answer, told once for both. -/
import Derived.Test.YtjjkhjieegmphaaDoorRuleCP
namespace Go.Proofs.YtjjkhjieegmphaaDoor
open Gw
set_option linter.unusedVariables false
set_option linter.unusedSimpArgs false
theorem forE_find {α σ ρ : Type} {b : α → σ → Option (Stp σ ρ)} {p : α → Bool} {r : α → ρ} : ∀ (l : List α) (s : σ), (∀ x ∈ l, b x s = some (if p x then .ret (r x) else .go s)) → forE b l s = some (match l.find? p with | some x => .inr (r x) | none => .inl s)
  | [], s, _ => rfl
  | x :: l, s, h => by
    rw [forE, h x (by simp)]
    cases hp : p x with
    | true => simp [hp, List.find?_cons]
    | false => simpa [hp, List.find?_cons] using forE_find l s fun y hy => h y (by simp [hy])
theorem forN_find {σ ρ : Type} {b : Int → σ → Option (Stp σ ρ)} {p : Nat → Bool} {r : Nat → ρ} : ∀ (n i : Nat) (s : σ), (∀ j : Nat, i ≤ j → j < i + n → b j s = some (if p j then .ret (r j) else .go s)) → forN b n i s = some (match (List.range' i n).find? p with | some j => .inr (r j) | none => .inl s)
  | 0, i, s, _ => rfl
  | n + 1, i, s, h => by
    rw [forN, h i (Nat.le_refl _) (by omega), List.range'_succ]
    cases hp : p i with
    | true => simp [hp, List.find?_cons]
    | false =>
      have := forN_find n (i + 1) s fun j h1 h2 => h j (by omega) (by omega)
      simpa [hp, List.find?_cons] using this
theorem forS_two {p : Nat → Bool} {c : Nat → Int} {b : Int → List Int × List Int → Option (List Int × List Int)} : ∀ (n i : Nat) (x y : List Int), (∀ (j : Nat) (x y : List Int), i ≤ j → j < i + n → x.length ≤ 2 + j → y.length ≤ 2 + j → b j (x, y) = some (if p j then (x ++ [13], y ++ [(j : Int)]) else (x, y))) → x.length ≤ 2 + i → y.length ≤ 2 + i →
    forS b n i (x, y) = some (x ++ ((List.range' i n).filter p).map (fun _ => 13), y ++ ((List.range' i n).filter p).map fun (j : Nat) => (j : Int))
  | 0, i, x, y, _, _, _ => by simp [forS]
  | n + 1, i, x, y, h, hx, hy => by
    rw [forS, h i x y (Nat.le_refl _) (by omega) hx hy, List.range'_succ]
    cases hp : p i with
    | true =>
      have := forS_two (p := p) (c := c) (b := b) n (i + 1) (x ++ [13]) (y ++ [(i : Int)]) (fun j x y h1 h2 => h j x y (by omega) (by omega)) (by simp; omega) (by simp; omega)
      simpa [hp] using this
    | false =>
      have := forS_two (p := p) (c := c) (b := b) n (i + 1) x y (fun j x y h1 h2 => h j x y (by omega) (by omega)) (by omega) (by omega)
      simpa [hp] using this
theorem forE_two {b : Nat → List Int × List Int → Option (Stp (List Int × List Int) Empty)} {p : Nat → Bool} : ∀ (l : List Nat) (m : Nat) (x y : List Int), (∀ (j : Nat) (x y : List Int), j ∈ l → x.length ≤ 2 + 1024 → y.length ≤ 2 + 1024 → b j (x, y) = some (.go (if p j then (x ++ [(j : Int)], y ++ [13]) else (x, y)))) → x.length + l.length ≤ 2 + 1024 → y.length + l.length ≤ 2 + 1024 →
    forE b l (x, y) = some (.inl (x ++ (l.filter p).map (fun (j : Nat) => (j : Int)), y ++ (l.filter p).map fun _ => 13))
  | [], m, x, y, _, _, _ => by simp [forE]
  | j :: l, m, x, y, h, hx, hy => by
    simp only [List.length_cons] at hx hy
    rw [forE, h j x y (by simp) (by omega) (by omega)]
    cases hp : p j with
    | true =>
      have := forE_two (b := b) (p := p) l m (x ++ [(j : Int)]) (y ++ [13]) (fun i x y h1 => h i x y (by simp [h1])) (by simp; omega) (by simp; omega)
      simpa [hp] using this
    | false =>
      have := forE_two (b := b) (p := p) l m x y (fun i x y h1 => h i x y (by simp [h1])) (by omega) (by omega)
      simpa [hp] using this
/-- what stands in a set, found by going through all numbers -/
theorem list_find {b : Bits} {n : Nat} (hn : n ≤ 1024) (h : ∀ j ∈ b.list, j < n) (p : Nat → Bool) : b.list.find? p = (List.range n).find? fun (j : Nat) => b.has j && p j := by
  have h1 : b.list = (List.range n).filter fun (j : Nat) => b.has j := by
    unfold Bits.list
    rw [show (1024 : Nat) = n + (1024 - n) by omega, List.range_add, List.filter_append, List.append_right_eq_self]
    refine List.filter_eq_nil_iff.2 fun x hx hb => ?_
    obtain ⟨k, hk, rfl⟩ := List.mem_map.1 hx
    have := h (n + k) (Bits.mem_list.2 ⟨by have := List.mem_range.1 hk; omega, hb⟩)
    omega
  rw [h1, List.find?_filter]
  refine congrArg (fun q => (List.range n).find? q) (funext fun a => ?_)
  cases b.has a <;> cases p a <;> simp
/-- the program's node -/
abbrev nd (M : List Nd) (i : Int) : Nd := (nodeS M i).1
theorem nd_at {M : List Nd} {i : Int} (h : inb i M.length = true) : at_ Nd.z M i = nd M i := by
  have h := inb_ex h
  unfold nd nodeS hasRow at_
  simp [h]
theorem node_some (M : List Nd) (i : Int) : rule_node.f (some M) i = some (nd M i) := by simp [rule_node.f, formula_Table_Node.f]
/-- the rule that stands on a row on the left side -/
def onV (M : List Nd) (b : Bits) (i : Int) : Int :=
  if (nd M i).kind = 2 then 1 else if (nd M i).kind = 3 then 3 else if (nd M i).kind = 4 then 10 else if (nd M i).kind = 5 then
    (if (nd M (nd M i).l).kind = 1 then (if b.has (nd M i).l then 4 else 0) else if (nd M (nd M i).l).kind = 2 then 5 else if (nd M (nd M i).l).kind = 3 then 6 else if (nd M (nd M i).l).kind = 4 then 7 else if (nd M (nd M i).l).kind = 5 then 13 else 0)
  else 0
theorem on_some {M : List Nd} {s : Sq} (hb : s.left.okB = true) (i : Int) : rule_on.f (some M) s i = some (onV M s.left i) := by
  unfold rule_on.f onV
  simp only [node_some, bits_Has.f, hb, chk, Option.bind_some, decide_eq_true_eq, if_true]
  repeat (first | rfl | split)
/-- a rule fits a row -/
def fitsV (M : List Nd) (s : Sq) (r i : Int) : Bool :=
  if inb i M.length = false then false else if r = 2 then decide (i = s.goal) && s.left.has i else if r = 8 then decide (i = s.goal) && decide ((nd M i).kind = 5) else if r = 9 then decide (i = s.goal) && decide ((nd M i).kind = 3)
  else if r = 11 ∨ r = 12 then decide (i = s.goal) && decide ((nd M i).kind = 4) else decide (r ≠ 0) && s.left.has i && decide (onV M s.left i = r)
theorem fits_some {M : List Nd} {s : Sq} (hb : s.left.okB = true) (r i : Int) : rule_fits.f (some M) s r i = some (fitsV M s r i) := by
  unfold rule_fits.f fitsV inb
  by_cases h0 : i < 0
  · have : ¬ 0 ≤ i := by omega
    simp [h0, this]
  · by_cases h1 : (M.length : Int) ≤ i
    · have h2 : ¬ i < M.length := by omega
      simp [h0, formula_Table_Len.f, h1, h2]
    · have h2 : i < M.length := by omega
      have h3 : 0 ≤ i := by omega
      simp only [h0, formula_Table_Len.f, h1, h2, h3, node_some, on_some hb, bits_Has.f, hb, chk, decide_false, decide_true, Bool.not_false, if_true, Option.map_some, Option.bind_some, Bool.false_or, Bool.and_self, Bool.true_eq_false, if_false, decide_eq_true_eq, Bool.false_eq_true]
      by_cases r2 : r = 2
      · simp [r2]
      by_cases r8 : r = 8
      · simp [r8]
      by_cases r9 : r = 9
      · simp [r9]
      by_cases r11 : r = 11
      · simp [r11]
      by_cases r12 : r = 12
      · simp [r12]
      simp only [r2, r8, r9, r11, r12, if_false, decide_false, Option.bind_some, or_self, Bool.false_eq_true]
      by_cases hr : r = 0
      · simp [hr]
      · cases s.left.has i <;> simp [hr]
/-- a table in which each row stands behind its parts -/
structure Wf (M : List Nd) : Prop where
  len : M.length ≤ 1024
  nodup : M.Nodup
  kind : ∀ i : Int, inb i M.length = true → (nd M i).kind = 1 ∨ (nd M i).kind = 2 ∨ (nd M i).kind = 3 ∨ (nd M i).kind = 4 ∨ (nd M i).kind = 5
  kids : ∀ i : Int, inb i M.length = true → (nd M i).kind = 3 ∨ (nd M i).kind = 4 ∨ (nd M i).kind = 5 → (0 ≤ (nd M i).l ∧ (nd M i).l < i) ∧ 0 ≤ (nd M i).r ∧ (nd M i).r < i
theorem Wf.left {M : List Nd} (h : Wf M) {i : Int} (hi : inb i M.length = true) (hk : (nd M i).kind = 3 ∨ (nd M i).kind = 4 ∨ (nd M i).kind = 5) : inb (nd M i).l M.length = true := by
  have h1 := h.kids i hi hk
  have h2 := inb_ex hi
  simp only [inb, Bool.and_eq_true, decide_eq_true_eq]; omega
theorem Wf.right {M : List Nd} (h : Wf M) {i : Int} (hi : inb i M.length = true) (hk : (nd M i).kind = 3 ∨ (nd M i).kind = 4 ∨ (nd M i).kind = 5) : inb (nd M i).r M.length = true := by
  have h1 := h.kids i hi hk
  have h2 := inb_ex hi
  simp only [inb, Bool.and_eq_true, decide_eq_true_eq]; omega
theorem docHas (M : List Nd) (i : Int) : ref03_T_Has.f (some M) i = some (inb i M.length) := by simp [ref03_T_Has.f, chk, inb]
theorem docKind {M : List Nd} {i : Int} (hi : inb i M.length = true) : ref09_kind.f (some M) i = some (nd M i).kind := by
  simp only [ref09_kind.f, chk, Option.isSome_some, Option.getD_some, hi, if_true, nd_at hi]
theorem docFits {M : List Nd} {s : Sq} (hw : Wf M) (hb : s.left.okB = true) (r i : Int) : ref09_Fits.f (some M) s r i = some (fitsV M s r i) := by
  unfold ref09_Fits.f
  rw [docHas]
  cases hi : inb i M.length with
  | false => simp [fitsV, hi]
  | true =>
    simp only [Option.bind_some, Bool.not_true, Bool.false_eq_true, if_false, Option.isSome_some, Option.getD_some, chk, if_true, nd_at hi, ref05_Has.f, hb, hi, fitsV, Bool.true_eq_false]
    have hk := hw.kind i hi
    rcases hk with k | k | k | k | k
    · have ho : onV M s.left i = 0 := by simp [onV, k]
      by_cases r1 : r = 1
      · subst r1; cases s.left.has i <;> simp [k, ho]
      by_cases r2 : r = 2
      · subst r2; cases s.left.has i <;> simp [k, ho]
      by_cases r3 : r = 3
      · subst r3; cases s.left.has i <;> simp [k, ho]
      by_cases r4 : r = 4
      · subst r4; cases s.left.has i <;> simp [k, ho]
      by_cases r5 : r = 5
      · subst r5; cases s.left.has i <;> simp [k, ho]
      by_cases r6 : r = 6
      · subst r6; cases s.left.has i <;> simp [k, ho]
      by_cases r7 : r = 7
      · subst r7; cases s.left.has i <;> simp [k, ho]
      by_cases r8 : r = 8
      · subst r8; cases s.left.has i <;> simp [k, ho]
      by_cases r9 : r = 9
      · subst r9; cases s.left.has i <;> simp [k, ho]
      by_cases r10 : r = 10
      · subst r10; cases s.left.has i <;> simp [k, ho]
      by_cases r11 : r = 11
      · subst r11; cases s.left.has i <;> simp [k, ho]
      by_cases r12 : r = 12
      · subst r12; cases s.left.has i <;> simp [k, ho]
      by_cases r13 : r = 13
      · subst r13; cases s.left.has i <;> simp [k, ho]
      simp only [k, ho]
      simp [r1, r2, r3, r4, r5, r6, r7, r8, r9, r10, r11, r12, r13]
      try (intro h; omega)
    · have ho : onV M s.left i = 1 := by simp [onV, k]
      by_cases r1 : r = 1
      · subst r1; cases s.left.has i <;> simp [k, ho]
      by_cases r2 : r = 2
      · subst r2; cases s.left.has i <;> simp [k, ho]
      by_cases r3 : r = 3
      · subst r3; cases s.left.has i <;> simp [k, ho]
      by_cases r4 : r = 4
      · subst r4; cases s.left.has i <;> simp [k, ho]
      by_cases r5 : r = 5
      · subst r5; cases s.left.has i <;> simp [k, ho]
      by_cases r6 : r = 6
      · subst r6; cases s.left.has i <;> simp [k, ho]
      by_cases r7 : r = 7
      · subst r7; cases s.left.has i <;> simp [k, ho]
      by_cases r8 : r = 8
      · subst r8; cases s.left.has i <;> simp [k, ho]
      by_cases r9 : r = 9
      · subst r9; cases s.left.has i <;> simp [k, ho]
      by_cases r10 : r = 10
      · subst r10; cases s.left.has i <;> simp [k, ho]
      by_cases r11 : r = 11
      · subst r11; cases s.left.has i <;> simp [k, ho]
      by_cases r12 : r = 12
      · subst r12; cases s.left.has i <;> simp [k, ho]
      by_cases r13 : r = 13
      · subst r13; cases s.left.has i <;> simp [k, ho]
      have ho2 : ¬ (1 : Int) = r := by omega
      cases s.left.has i <;> simp [k, ho, ho2, r1, r2, r3, r4, r5, r6, r7, r8, r9, r10, r11, r12, r13]
      try omega
    · have ho : onV M s.left i = 3 := by simp [onV, k]
      by_cases r1 : r = 1
      · subst r1; cases s.left.has i <;> simp [k, ho]
      by_cases r2 : r = 2
      · subst r2; cases s.left.has i <;> simp [k, ho]
      by_cases r3 : r = 3
      · subst r3; cases s.left.has i <;> simp [k, ho]
      by_cases r4 : r = 4
      · subst r4; cases s.left.has i <;> simp [k, ho]
      by_cases r5 : r = 5
      · subst r5; cases s.left.has i <;> simp [k, ho]
      by_cases r6 : r = 6
      · subst r6; cases s.left.has i <;> simp [k, ho]
      by_cases r7 : r = 7
      · subst r7; cases s.left.has i <;> simp [k, ho]
      by_cases r8 : r = 8
      · subst r8; cases s.left.has i <;> simp [k, ho]
      by_cases r9 : r = 9
      · subst r9; cases s.left.has i <;> simp [k, ho]
      by_cases r10 : r = 10
      · subst r10; cases s.left.has i <;> simp [k, ho]
      by_cases r11 : r = 11
      · subst r11; cases s.left.has i <;> simp [k, ho]
      by_cases r12 : r = 12
      · subst r12; cases s.left.has i <;> simp [k, ho]
      by_cases r13 : r = 13
      · subst r13; cases s.left.has i <;> simp [k, ho]
      have ho2 : ¬ (3 : Int) = r := by omega
      cases s.left.has i <;> simp [k, ho, ho2, r1, r2, r3, r4, r5, r6, r7, r8, r9, r10, r11, r12, r13]
      try omega
    · have ho : onV M s.left i = 10 := by simp [onV, k]
      by_cases r1 : r = 1
      · subst r1; cases s.left.has i <;> simp [k, ho]
      by_cases r2 : r = 2
      · subst r2; cases s.left.has i <;> simp [k, ho]
      by_cases r3 : r = 3
      · subst r3; cases s.left.has i <;> simp [k, ho]
      by_cases r4 : r = 4
      · subst r4; cases s.left.has i <;> simp [k, ho]
      by_cases r5 : r = 5
      · subst r5; cases s.left.has i <;> simp [k, ho]
      by_cases r6 : r = 6
      · subst r6; cases s.left.has i <;> simp [k, ho]
      by_cases r7 : r = 7
      · subst r7; cases s.left.has i <;> simp [k, ho]
      by_cases r8 : r = 8
      · subst r8; cases s.left.has i <;> simp [k, ho]
      by_cases r9 : r = 9
      · subst r9; cases s.left.has i <;> simp [k, ho]
      by_cases r10 : r = 10
      · subst r10; cases s.left.has i <;> simp [k, ho]
      by_cases r11 : r = 11
      · subst r11; cases s.left.has i <;> simp [k, ho]
      by_cases r12 : r = 12
      · subst r12; cases s.left.has i <;> simp [k, ho]
      by_cases r13 : r = 13
      · subst r13; cases s.left.has i <;> simp [k, ho]
      have ho2 : ¬ (10 : Int) = r := by omega
      cases s.left.has i <;> simp [k, ho, ho2, r1, r2, r3, r4, r5, r6, r7, r8, r9, r10, r11, r12, r13]
      try omega
    · have hl := hw.left hi (.inr (.inr k))
      have hk2 := hw.kind _ hl
      rw [docKind hl]
      rcases hk2 with c | c | c | c | c
      · cases hh : s.left.has (nd M i).l with
        | true =>
          have ho : onV M s.left i = 4 := by simp [onV, k, c, hh]
          by_cases r1 : r = 1
          · subst r1; cases s.left.has i <;> simp [k, ho, c, hh]
          by_cases r2 : r = 2
          · subst r2; cases s.left.has i <;> simp [k, ho, c, hh]
          by_cases r3 : r = 3
          · subst r3; cases s.left.has i <;> simp [k, ho, c, hh]
          by_cases r4 : r = 4
          · subst r4; cases s.left.has i <;> simp [k, ho, c, hh]
          by_cases r5 : r = 5
          · subst r5; cases s.left.has i <;> simp [k, ho, c, hh]
          by_cases r6 : r = 6
          · subst r6; cases s.left.has i <;> simp [k, ho, c, hh]
          by_cases r7 : r = 7
          · subst r7; cases s.left.has i <;> simp [k, ho, c, hh]
          by_cases r8 : r = 8
          · subst r8; cases s.left.has i <;> simp [k, ho, c, hh]
          by_cases r9 : r = 9
          · subst r9; cases s.left.has i <;> simp [k, ho, c, hh]
          by_cases r10 : r = 10
          · subst r10; cases s.left.has i <;> simp [k, ho, c, hh]
          by_cases r11 : r = 11
          · subst r11; cases s.left.has i <;> simp [k, ho, c, hh]
          by_cases r12 : r = 12
          · subst r12; cases s.left.has i <;> simp [k, ho, c, hh]
          by_cases r13 : r = 13
          · subst r13; cases s.left.has i <;> simp [k, ho, c, hh]
          have ho2 : ¬ (4 : Int) = r := by omega
          cases s.left.has i <;> simp [k, ho, ho2, c, hh, r1, r2, r3, r4, r5, r6, r7, r8, r9, r10, r11, r12, r13]
          try omega
        | false =>
          have ho : onV M s.left i = 0 := by simp [onV, k, c, hh]
          by_cases r1 : r = 1
          · subst r1; cases s.left.has i <;> simp [k, ho, c, hh]
          by_cases r2 : r = 2
          · subst r2; cases s.left.has i <;> simp [k, ho, c, hh]
          by_cases r3 : r = 3
          · subst r3; cases s.left.has i <;> simp [k, ho, c, hh]
          by_cases r4 : r = 4
          · subst r4; cases s.left.has i <;> simp [k, ho, c, hh]
          by_cases r5 : r = 5
          · subst r5; cases s.left.has i <;> simp [k, ho, c, hh]
          by_cases r6 : r = 6
          · subst r6; cases s.left.has i <;> simp [k, ho, c, hh]
          by_cases r7 : r = 7
          · subst r7; cases s.left.has i <;> simp [k, ho, c, hh]
          by_cases r8 : r = 8
          · subst r8; cases s.left.has i <;> simp [k, ho, c, hh]
          by_cases r9 : r = 9
          · subst r9; cases s.left.has i <;> simp [k, ho, c, hh]
          by_cases r10 : r = 10
          · subst r10; cases s.left.has i <;> simp [k, ho, c, hh]
          by_cases r11 : r = 11
          · subst r11; cases s.left.has i <;> simp [k, ho, c, hh]
          by_cases r12 : r = 12
          · subst r12; cases s.left.has i <;> simp [k, ho, c, hh]
          by_cases r13 : r = 13
          · subst r13; cases s.left.has i <;> simp [k, ho, c, hh]
          cases s.left.has i <;> simp [k, ho, c, hh, r1, r2, r3, r4, r5, r6, r7, r8, r9, r10, r11, r12, r13]
          try omega
      · have ho : onV M s.left i = 5 := by simp [onV, k, c]
        by_cases r1 : r = 1
        · subst r1; cases s.left.has i <;> simp [k, ho, c]
        by_cases r2 : r = 2
        · subst r2; cases s.left.has i <;> simp [k, ho, c]
        by_cases r3 : r = 3
        · subst r3; cases s.left.has i <;> simp [k, ho, c]
        by_cases r4 : r = 4
        · subst r4; cases s.left.has i <;> simp [k, ho, c]
        by_cases r5 : r = 5
        · subst r5; cases s.left.has i <;> simp [k, ho, c]
        by_cases r6 : r = 6
        · subst r6; cases s.left.has i <;> simp [k, ho, c]
        by_cases r7 : r = 7
        · subst r7; cases s.left.has i <;> simp [k, ho, c]
        by_cases r8 : r = 8
        · subst r8; cases s.left.has i <;> simp [k, ho, c]
        by_cases r9 : r = 9
        · subst r9; cases s.left.has i <;> simp [k, ho, c]
        by_cases r10 : r = 10
        · subst r10; cases s.left.has i <;> simp [k, ho, c]
        by_cases r11 : r = 11
        · subst r11; cases s.left.has i <;> simp [k, ho, c]
        by_cases r12 : r = 12
        · subst r12; cases s.left.has i <;> simp [k, ho, c]
        by_cases r13 : r = 13
        · subst r13; cases s.left.has i <;> simp [k, ho, c]
        have ho2 : ¬ (5 : Int) = r := by omega
        cases s.left.has i <;> simp [k, ho, ho2, c, r1, r2, r3, r4, r5, r6, r7, r8, r9, r10, r11, r12, r13]
        try omega
      · have ho : onV M s.left i = 6 := by simp [onV, k, c]
        by_cases r1 : r = 1
        · subst r1; cases s.left.has i <;> simp [k, ho, c]
        by_cases r2 : r = 2
        · subst r2; cases s.left.has i <;> simp [k, ho, c]
        by_cases r3 : r = 3
        · subst r3; cases s.left.has i <;> simp [k, ho, c]
        by_cases r4 : r = 4
        · subst r4; cases s.left.has i <;> simp [k, ho, c]
        by_cases r5 : r = 5
        · subst r5; cases s.left.has i <;> simp [k, ho, c]
        by_cases r6 : r = 6
        · subst r6; cases s.left.has i <;> simp [k, ho, c]
        by_cases r7 : r = 7
        · subst r7; cases s.left.has i <;> simp [k, ho, c]
        by_cases r8 : r = 8
        · subst r8; cases s.left.has i <;> simp [k, ho, c]
        by_cases r9 : r = 9
        · subst r9; cases s.left.has i <;> simp [k, ho, c]
        by_cases r10 : r = 10
        · subst r10; cases s.left.has i <;> simp [k, ho, c]
        by_cases r11 : r = 11
        · subst r11; cases s.left.has i <;> simp [k, ho, c]
        by_cases r12 : r = 12
        · subst r12; cases s.left.has i <;> simp [k, ho, c]
        by_cases r13 : r = 13
        · subst r13; cases s.left.has i <;> simp [k, ho, c]
        have ho2 : ¬ (6 : Int) = r := by omega
        cases s.left.has i <;> simp [k, ho, ho2, c, r1, r2, r3, r4, r5, r6, r7, r8, r9, r10, r11, r12, r13]
        try omega
      · have ho : onV M s.left i = 7 := by simp [onV, k, c]
        by_cases r1 : r = 1
        · subst r1; cases s.left.has i <;> simp [k, ho, c]
        by_cases r2 : r = 2
        · subst r2; cases s.left.has i <;> simp [k, ho, c]
        by_cases r3 : r = 3
        · subst r3; cases s.left.has i <;> simp [k, ho, c]
        by_cases r4 : r = 4
        · subst r4; cases s.left.has i <;> simp [k, ho, c]
        by_cases r5 : r = 5
        · subst r5; cases s.left.has i <;> simp [k, ho, c]
        by_cases r6 : r = 6
        · subst r6; cases s.left.has i <;> simp [k, ho, c]
        by_cases r7 : r = 7
        · subst r7; cases s.left.has i <;> simp [k, ho, c]
        by_cases r8 : r = 8
        · subst r8; cases s.left.has i <;> simp [k, ho, c]
        by_cases r9 : r = 9
        · subst r9; cases s.left.has i <;> simp [k, ho, c]
        by_cases r10 : r = 10
        · subst r10; cases s.left.has i <;> simp [k, ho, c]
        by_cases r11 : r = 11
        · subst r11; cases s.left.has i <;> simp [k, ho, c]
        by_cases r12 : r = 12
        · subst r12; cases s.left.has i <;> simp [k, ho, c]
        by_cases r13 : r = 13
        · subst r13; cases s.left.has i <;> simp [k, ho, c]
        have ho2 : ¬ (7 : Int) = r := by omega
        cases s.left.has i <;> simp [k, ho, ho2, c, r1, r2, r3, r4, r5, r6, r7, r8, r9, r10, r11, r12, r13]
        try omega
      · have ho : onV M s.left i = 13 := by simp [onV, k, c]
        by_cases r1 : r = 1
        · subst r1; cases s.left.has i <;> simp [k, ho, c]
        by_cases r2 : r = 2
        · subst r2; cases s.left.has i <;> simp [k, ho, c]
        by_cases r3 : r = 3
        · subst r3; cases s.left.has i <;> simp [k, ho, c]
        by_cases r4 : r = 4
        · subst r4; cases s.left.has i <;> simp [k, ho, c]
        by_cases r5 : r = 5
        · subst r5; cases s.left.has i <;> simp [k, ho, c]
        by_cases r6 : r = 6
        · subst r6; cases s.left.has i <;> simp [k, ho, c]
        by_cases r7 : r = 7
        · subst r7; cases s.left.has i <;> simp [k, ho, c]
        by_cases r8 : r = 8
        · subst r8; cases s.left.has i <;> simp [k, ho, c]
        by_cases r9 : r = 9
        · subst r9; cases s.left.has i <;> simp [k, ho, c]
        by_cases r10 : r = 10
        · subst r10; cases s.left.has i <;> simp [k, ho, c]
        by_cases r11 : r = 11
        · subst r11; cases s.left.has i <;> simp [k, ho, c]
        by_cases r12 : r = 12
        · subst r12; cases s.left.has i <;> simp [k, ho, c]
        by_cases r13 : r = 13
        · subst r13; cases s.left.has i <;> simp [k, ho, c]
        have ho2 : ¬ (13 : Int) = r := by omega
        cases s.left.has i <;> simp [k, ho, ho2, c, r1, r2, r3, r4, r5, r6, r7, r8, r9, r10, r11, r12, r13]
        try omega
theorem find_congr {α : Type} {p q : α → Bool} : ∀ {l : List α}, (∀ x ∈ l, p x = q x) → l.find? p = l.find? q
  | [], _ => rfl
  | x :: l, h => by
    rw [List.find?_cons, List.find?_cons, h x (by simp), find_congr fun y hy => h y (by simp [hy])]
theorem any_find {α : Type} {p : α → Bool} : ∀ (l : List α), l.any p = (l.find? p).isSome
  | [] => rfl
  | x :: l => by
    rw [List.any_cons, List.find?_cons, any_find l]
    cases p x <;> rfl
theorem find_idx {α : Type} (l : List α) (d : α) (p : α → Bool) : l.find? p = ((List.range' 0 l.length).find? fun k => p (l.getD k d)).map fun k => l.getD k d := by
  have h : l = (List.range' 0 l.length).map fun k => l.getD k d := by
    refine List.ext_getElem? fun i => ?_
    by_cases hi : i < l.length
    · simp [hi]
    · simp [hi]
  conv => lhs; rw [h]
  rw [List.find?_map]; rfl
/-- the first row on the left side of which c holds -/
def firstV (M : List Nd) (s : Sq) (c : Int → Bool) : Option Nat := (List.range M.length).find? fun (j : Nat) => s.left.has j && c (onV M s.left j)
theorem firstV_some {M : List Nd} {s : Sq} {c : Int → Bool} {j : Nat} (h : firstV M s c = some j) : j < M.length ∧ s.left.has j = true ∧ c (onV M s.left j) = true := by
  have h1 := List.find?_some h
  have h2 := List.mem_of_find?_eq_some h
  simp only [Bool.and_eq_true] at h1
  exact ⟨List.mem_range.1 h2, h1.1, h1.2⟩
/-- what is chosen: the rule, the row -/
def applyV (M : List Nd) (s : Sq) : Int × Int :=
  match firstV M s (fun r => decide (r = 1)) with
  | some j => (1, j)
  | none => if s.left.has s.goal then (2, s.goal) else
    match firstV M s (fun r => decide (3 ≤ r) && decide (r ≤ 7)) with
    | some j => (onV M s.left j, j)
    | none => if (nd M s.goal).kind = 5 then (8, s.goal) else if (nd M s.goal).kind = 3 then (9, s.goal) else
      match firstV M s (fun r => decide (r = 10)) with
      | some j => (10, j)
      | none => (14, 0)
/-- a sequent that is one of the table's -/
structure Rt (M : List Nd) (s : Sq) : Prop where
  ok : s.left.okB = true
  left : ∀ j ∈ s.left.list, j < M.length
  goal : inb s.goal M.length = true
theorem least1 {M : List Nd} {s : Sq} (hM : M.length ≤ 1024) (h : Rt M s) : rule_least__rule_apply_1_1.f (some M) s = some (match firstV M s (fun r => decide (r = 1)) with | some j => ((⟨onV M s.left j, j⟩ : Fnd), true) | none => (Fnd.z, false)) := by
  unfold rule_least__rule_apply_1_1.f
  rw [h.ok, chk, if_pos rfl, forE_find (p := fun (j : Nat) => decide (onV M s.left j = 1)) (r := fun (j : Nat) => (true, (⟨onV M s.left j, j⟩ : Fnd))), list_find hM h.left]
  · unfold firstV
    cases (List.range M.length).find? fun (j : Nat) => s.left.has j && decide (onV M s.left j = 1) <;> rfl
  · intro x _
    simp [rule_least__rule_apply_1_1.b0, on_some h.ok, rule_apply_1_1.f]
    split <;> rfl
theorem least3 {M : List Nd} {s : Sq} (hM : M.length ≤ 1024) (h : Rt M s) : rule_least__rule_apply_3_1.f (some M) s = some (match firstV M s (fun r => decide (3 ≤ r) && decide (r ≤ 7)) with | some j => ((⟨onV M s.left j, j⟩ : Fnd), true) | none => (Fnd.z, false)) := by
  unfold rule_least__rule_apply_3_1.f
  rw [h.ok, chk, if_pos rfl, forE_find (p := fun (j : Nat) => decide (3 ≤ onV M s.left j) && decide (onV M s.left j ≤ 7)) (r := fun (j : Nat) => (true, (⟨onV M s.left j, j⟩ : Fnd))), list_find hM h.left]
  · unfold firstV
    cases (List.range M.length).find? fun (j : Nat) => s.left.has j && (decide (3 ≤ onV M s.left j) && decide (onV M s.left j ≤ 7)) <;> rfl
  · intro x _
    simp [rule_least__rule_apply_3_1.b0, on_some h.ok, rule_apply_3_1.f]
    split <;> rfl
theorem least6 {M : List Nd} {s : Sq} (hM : M.length ≤ 1024) (h : Rt M s) : rule_least__rule_apply_6_1.f (some M) s = some (match firstV M s (fun r => decide (r = 10)) with | some j => ((⟨onV M s.left j, j⟩ : Fnd), true) | none => (Fnd.z, false)) := by
  unfold rule_least__rule_apply_6_1.f
  rw [h.ok, chk, if_pos rfl, forE_find (p := fun (j : Nat) => decide (onV M s.left j = 10)) (r := fun (j : Nat) => (true, (⟨onV M s.left j, j⟩ : Fnd))), list_find hM h.left]
  · unfold firstV
    cases (List.range M.length).find? fun (j : Nat) => s.left.has j && decide (onV M s.left j = 10) <;> rfl
  · intro x _
    simp [rule_least__rule_apply_6_1.b0, on_some h.ok, rule_apply_6_1.f]
    split <;> rfl
theorem apply_some {M : List Nd} {s : Sq} (hM : M.length ≤ 1024) (h : Rt M s) : rule_apply.f (some M) s = some ⟨(applyV M s).1, (applyV M s).2⟩ := by
  unfold rule_apply.f rule_apply_1.f rule_apply_2.f rule_apply_3.f rule_apply_4.f rule_apply_5.f rule_apply_6.f applyV
  simp only [least1 hM h, least3 hM h, least6 hM h, node_some, bits_Has.f, h.ok, chk, if_true, Option.bind_some]
  cases h1 : firstV M s (fun r => decide (r = 1)) with
  | some j =>
    have := (firstV_some h1).2.2
    simp only [decide_eq_true_eq] at this
    simp [this]
  | none =>
    simp only [Bool.false_eq_true, if_false]
    by_cases hg : s.left.has s.goal = true
    · simp [hg]
    simp only [hg, if_false]
    cases h3 : firstV M s (fun r => decide (3 ≤ r) && decide (r ≤ 7)) with
    | some j => simp
    | none =>
      simp only [Bool.false_eq_true, if_false]
      by_cases h5 : (nd M s.goal).kind = 5
      · simp [h5]
      by_cases h6 : (nd M s.goal).kind = 3
      · simp [h6]
      simp only [h5, h6, decide_false, Bool.false_eq_true, if_false]
      cases h10 : firstV M s (fun r => decide (r = 10)) with
      | some j =>
        have := (firstV_some h10).2.2
        simp only [decide_eq_true_eq] at this
        simp [this]
      | none => simp
theorem docFirst {M : List Nd} {s : Sq} (hw : Wf M) (hb : s.left.okB = true) (rs : List Int) :
    ref09_first.f (some M) s rs = some (match (List.range M.length).find? (fun (j : Nat) => rs.any fun r => fitsV M s r j) with | some j => ((rs.find? fun r => fitsV M s r j).getD 0, (j : Int), true) | none => (0, 0, false)) := by
  have hin : ∀ j : Nat, ref09_first.b0 (some M) s rs j = some (if (rs.any fun r => fitsV M s r j) then .ret ((rs.find? fun r => fitsV M s r j).getD 0, (j : Int), true) else .go ()) := by
    intro j
    unfold ref09_first.b0
    have h1 := forN_find (b := fun i s_1 => ref09_first.b1 (some M) s rs j i) (p := fun k => fitsV M s (rs.getD k 0) j) (r := fun k => (.ret (rs.getD k 0, (j : Int), true) : Stp Unit (Int × Int × Bool))) rs.length 0 () (by
      intro k _ hk
      unfold ref09_first.b1 at_
      rw [Int.toNat_natCast, docFits hw hb]
      simp only [Option.bind_some]
      split <;> rfl)
    have e0 : (((rs.length : Nat) : Int) - 0).toNat = rs.length := by omega
    rw [e0]
    rw [show (0 : Int) = ((0 : Nat) : Int) from rfl, h1, find_idx rs 0]
    have ha : (rs.any fun r => fitsV M s r j) = ((List.range' 0 rs.length).find? fun k => fitsV M s (rs.getD k 0) j).isSome := by
      rw [any_find, find_idx rs 0]; simp
    rw [ha]
    cases (List.range' 0 rs.length).find? fun k => fitsV M s (rs.getD k 0) j <;> rfl
  unfold ref09_first.f
  have h1 := forN_find (b := fun i s_1 => ref09_first.b0 (some M) s rs i) (p := fun j => rs.any fun r => fitsV M s r j) (r := fun j => ((rs.find? fun r => fitsV M s r j).getD 0, (j : Int), true)) M.length 0 () (fun j _ _ => hin j)
  have e0 : (((M.length : Nat) : Int) - 0).toNat = M.length := by omega
  simp only [Option.isSome_some, Option.getD_some, chk, if_true, e0]
  rw [show (0 : Int) = ((0 : Nat) : Int) from rfl, h1, ← List.range_eq_range']
  cases (List.range M.length).find? fun (j : Nat) => rs.any fun r => fitsV M s r j <;> rfl
theorem fits_on {M : List Nd} {s : Sq} {r : Int} (hr : r ≠ 0 ∧ r ≠ 2 ∧ r ≠ 8 ∧ r ≠ 9 ∧ r ≠ 11 ∧ r ≠ 12) {j : Nat} (hj : j < M.length) : fitsV M s r j = (s.left.has j && decide (onV M s.left j = r)) := by
  obtain ⟨h0, h2, h8, h9, h11, h12⟩ := hr
  have : inb (j : Int) M.length = true := by simp [inb]; omega
  simp [fitsV, this, h0, h2, h8, h9, h11, h12]
theorem find_goal {n : Nat} {g : Int} (h : inb g n = true) (c : Bool) : (List.range n).find? (fun (j : Nat) => decide ((j : Int) = g) && c) = if c then some g.toNat else none := by
  have hg := inb_ex h
  cases c with
  | false => simp
  | true =>
    simp only [Bool.and_true, if_true]
    rw [List.find?_range_eq_some]
    refine ⟨by simp; omega, by simp; omega, fun j hj => by simp; omega⟩
theorem docApply {M : List Nd} {s : Sq} (hw : Wf M) (h : Rt M s) : ref09_Apply.f (some M) s = some (applyV M s) := by
  have f1 : (List.range M.length).find? (fun (j : Nat) => [(1 : Int)].any fun r => fitsV M s r j) = firstV M s (fun r => decide (r = 1)) := find_congr fun j hj => by
    simp only [List.any_cons, List.any_nil, Bool.or_false]; exact fits_on (by decide) (List.mem_range.1 hj)
  have f2 : (List.range M.length).find? (fun (j : Nat) => [(2 : Int)].any fun r => fitsV M s r j) = if s.left.has s.goal then some s.goal.toNat else none := by
    rw [← find_goal h.goal]
    refine find_congr fun j hj => ?_
    have hi : inb (j : Int) M.length = true := by have := List.mem_range.1 hj; simp [inb]; omega
    simp only [List.any_cons, List.any_nil, Bool.or_false, fitsV, hi, if_true, Bool.true_eq_false, if_false]
    by_cases e : (j : Int) = s.goal
    · rw [e]
    · simp [e]
  have f3 : (List.range M.length).find? (fun (j : Nat) => [(3 : Int), 4, 5, 6, 7].any fun r => fitsV M s r j) = firstV M s (fun r => decide (3 ≤ r) && decide (r ≤ 7)) := find_congr fun j hj => by
    simp only [List.any_cons, List.any_nil, Bool.or_false]
    rw [fits_on (by decide) (List.mem_range.1 hj), fits_on (by decide) (List.mem_range.1 hj), fits_on (by decide) (List.mem_range.1 hj), fits_on (by decide) (List.mem_range.1 hj), fits_on (by decide) (List.mem_range.1 hj)]
    cases s.left.has j with
    | false => simp
    | true =>
      simp only [Bool.true_and]
      rw [Bool.eq_iff_iff]; simp only [Bool.or_eq_true, Bool.and_eq_true, decide_eq_true_eq]; omega
  have f8 : (List.range M.length).find? (fun (j : Nat) => [(8 : Int)].any fun r => fitsV M s r j) = if (nd M s.goal).kind = 5 then some s.goal.toNat else none := by
    have := find_goal h.goal (decide ((nd M s.goal).kind = 5))
    simp only [decide_eq_true_eq] at this
    rw [← this]
    refine find_congr fun j hj => ?_
    have hi : inb (j : Int) M.length = true := by have := List.mem_range.1 hj; simp [inb]; omega
    simp only [List.any_cons, List.any_nil, Bool.or_false, fitsV, hi, if_true, Bool.true_eq_false, if_false]
    by_cases e : (j : Int) = s.goal
    · rw [e]; simp
    · simp [e]
  have f9 : (List.range M.length).find? (fun (j : Nat) => [(9 : Int)].any fun r => fitsV M s r j) = if (nd M s.goal).kind = 3 then some s.goal.toNat else none := by
    have := find_goal h.goal (decide ((nd M s.goal).kind = 3))
    simp only [decide_eq_true_eq] at this
    rw [← this]
    refine find_congr fun j hj => ?_
    have hi : inb (j : Int) M.length = true := by have := List.mem_range.1 hj; simp [inb]; omega
    simp only [List.any_cons, List.any_nil, Bool.or_false, fitsV, hi, if_true, Bool.true_eq_false, if_false]
    by_cases e : (j : Int) = s.goal
    · rw [e]; simp
    · simp [e]
  have f10 : (List.range M.length).find? (fun (j : Nat) => [(10 : Int)].any fun r => fitsV M s r j) = firstV M s (fun r => decide (r = 10)) := find_congr fun j hj => by
    simp only [List.any_cons, List.any_nil, Bool.or_false]; exact fits_on (by decide) (List.mem_range.1 hj)
  have hg := inb_ex h.goal
  have hgt : ((s.goal.toNat : Nat) : Int) = s.goal := by omega
  unfold ref09_Apply.f applyV
  simp only [docFirst hw h.ok, f1, f2, f3, f8, f9, f10, Option.bind_some]
  cases h1 : firstV M s (fun r => decide (r = 1)) with
  | some j =>
    have h2 := firstV_some h1
    simp [fits_on (M := M) (s := s) (r := 1) (by decide) h2.1, h2.2.1, of_decide_eq_true h2.2.2]
  | none =>
    by_cases hh : s.left.has s.goal = true
    · simp [hh, hgt, fitsV, h.goal]
    simp only [hh, if_false, Bool.false_eq_true]
    cases h3 : firstV M s (fun r => decide (3 ≤ r) && decide (r ≤ 7)) with
    | some j =>
      have h2 := firstV_some h3
      have h4 := h2.2.2
      simp only [Bool.and_eq_true, decide_eq_true_eq] at h4
      have hrs : ([(3 : Int), 4, 5, 6, 7].find? fun r => fitsV M s r j) = some (onV M s.left j) := by
        have hr : onV M s.left j = 3 ∨ onV M s.left j = 4 ∨ onV M s.left j = 5 ∨ onV M s.left j = 6 ∨ onV M s.left j = 7 := by omega
        simp only [List.find?_cons, fits_on (M := M) (s := s) (r := 3) (by decide) h2.1, fits_on (M := M) (s := s) (r := 4) (by decide) h2.1, fits_on (M := M) (s := s) (r := 5) (by decide) h2.1, fits_on (M := M) (s := s) (r := 6) (by decide) h2.1, fits_on (M := M) (s := s) (r := 7) (by decide) h2.1, h2.2.1]
        rcases hr with e | e | e | e | e <;> simp [e]
      simp [hrs]
    | none =>
      by_cases h5 : (nd M s.goal).kind = 5
      · simp [h5, hgt, fitsV, h.goal]
      by_cases h6 : (nd M s.goal).kind = 3
      · simp [h6, hgt, fitsV, h.goal]
      simp only [h5, h6, if_false, Bool.false_eq_true]
      cases h10 : firstV M s (fun r => decide (r = 10)) with
      | some j =>
        have h2 := firstV_some h10
        simp [fits_on (M := M) (s := s) (r := 10) (by decide) h2.1, h2.2.1, of_decide_eq_true h2.2.2]
      | none => simp
end Go.Proofs.YtjjkhjieegmphaaDoor
