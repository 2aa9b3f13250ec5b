/- Chapter 09, the plain law: sequents of a table, choices. -/
import Derived.Test.YtjjkhjieegmphaaDoorRuleX
namespace Go.Proofs.YtjjkhjieegmphaaDoor
open Gw
set_option linter.unusedVariables false
set_option linter.unusedSimpArgs false
theorem inb_nat (j n : Nat) : inb (j : Int) n = decide (j < n) := by
  unfold inb
  rw [decide_eq_true (show 0 ≤ (j : Int) by omega), Bool.true_and, decide_eq_decide]
  omega
theorem list_eq {b : Bits} {n : Nat} (hn : n ≤ 1024) (h : ∀ j ∈ b.list, j < n) : b.list = (List.range n).filter fun (j : Nat) => b.has j := by
  unfold Bits.list
  rw [show (1024 : Nat) = n + (1024 - n) by omega, List.range_add, List.filter_append, List.append_right_eq_self]
  refine List.filter_eq_nil_iff.2 fun x hx hb => ?_
  obtain ⟨k, hk, rfl⟩ := List.mem_map.1 hx
  have := h (n + k) (Bits.mem_list.2 ⟨by have := List.mem_range.1 hk; omega, hb⟩)
  omega
/-- the sequent is one of the table's -/
def lookV (M : List Nd) (s : Sq) : Bool := (s.left.list.all fun j => decide (j < M.length)) && inb s.goal M.length
theorem lookV_rt {M : List Nd} {s : Sq} (hb : s.left.okB = true) (h : lookV M s = true) : Rt M s := by
  simp only [lookV, Bool.and_eq_true, List.all_eq_true, decide_eq_true_eq] at h
  exact ⟨hb, h.1, h.2⟩
theorem look_some {M : List Nd} {s : Sq} (hb : s.left.okB = true) : rule_look.f (some M) s = some (if lookV M s then 0 else 31) := by
  unfold rule_look.f
  simp only [formula_Table_Not_neg.f, Option.bind_some, hb, chk, if_true, show (decide ((31 : Int) = 1)) = false from rfl, Bool.false_eq_true, if_false]
  rw [forE_find (p := fun (j : Nat) => decide ((M.length : Int) ≤ (j : Int))) (r := fun _ => (31 : Int))]
  · have ha : (s.left.list.all fun j => decide (j < M.length)) = !(s.left.list.find? fun (j : Nat) => decide ((M.length : Int) ≤ (j : Int))).isSome := by
      rw [← any_find, List.all_eq_not_any_not]
      congr 2
      funext j
      by_cases hj : j < M.length
      · have : ¬ (M.length : Int) ≤ j := by omega
        simp [hj, this]
      · have : (M.length : Int) ≤ j := by omega
        simp [hj, this]
    unfold lookV
    rw [ha]
    cases s.left.list.find? fun (j : Nat) => decide ((M.length : Int) ≤ (j : Int)) with
    | some j => simp [fin]
    | none =>
      simp only [Option.bind_some, fin, Option.isSome_none, Bool.not_false, Bool.true_and, formula_Table_Len.f, Option.map_some]
      by_cases h0 : s.goal < 0
      · have h1 : ¬ 0 ≤ s.goal := by omega
        simp [h0, inb, h1]
      · have h1 : 0 ≤ s.goal := by omega
        by_cases h2 : (M.length : Int) ≤ s.goal
        · have h3 : ¬ s.goal < M.length := by omega
          simp [h0, inb, h1, h2, h3]
        · have h3 : s.goal < M.length := by omega
          simp [h0, inb, h1, h2, h3]
  · intro x _
    simp only [rule_look.b0, formula_Table_Len.f, Option.map_some, Option.bind_some]
    split <;> rfl
theorem docRight {M : List Nd} {s : Sq} (hb : s.left.okB = true) : ref09_Right.f (some M) s = some (lookV M s) := by
  unfold ref09_Right.f
  simp only [ref05_List.f, hb, chk, if_true, Option.bind_some]
  generalize hl : s.left.list.map (fun (n : Nat) => (n : Int)) = l
  have h1 := forN_find (b := fun i s_1 => ref09_Right.b0 (some M) l i) (p := fun k => !inb (l.getD k 0) M.length) (r := fun _ => false) l.length 0 () (by
    intro k _ hk
    unfold ref09_Right.b0 at_
    rw [Int.toNat_natCast, docHas]
    simp only [Option.bind_some]
    split <;> rfl)
  have e0 : (((l.length : Nat) : Int) - 0).toNat = l.length := by omega
  rw [e0, show (0 : Int) = ((0 : Nat) : Int) from rfl, h1, docHas]
  have ha : (s.left.list.all fun j => decide (j < M.length)) = !((List.range' 0 l.length).find? fun k => !inb (l.getD k 0) M.length).isSome := by
    have h2 := find_idx l 0 (fun i => !inb i M.length)
    have h3 : (l.find? fun i => !inb i M.length).isSome = ((List.range' 0 l.length).find? fun k => !inb (l.getD k 0) M.length).isSome := by rw [h2]; simp
    rw [← h3, ← any_find, ← hl, List.any_map, List.all_eq_not_any_not]
    refine congrArg (fun q => !s.left.list.any q) (funext fun j => ?_)
    show (!decide (j < M.length)) = !inb (j : Int) M.length
    rw [inb_nat]
  unfold lookV
  rw [ha]
  cases (List.range' 0 l.length).find? fun k => !inb (l.getD k 0) M.length <;> simp [aft]
/-- what is left to choose: rules, rows -/
def choicesV (M : List Nd) (s : Sq) : List Int × List Int :=
  if (applyV M s).1 = 14 then
    ((if (nd M s.goal).kind = 4 then [11, 12] else []) ++ ((List.range M.length).filter fun (j : Nat) => s.left.has j && decide (onV M s.left j = 13)).map (fun _ => 13),
     (if (nd M s.goal).kind = 4 then [s.goal, s.goal] else []) ++ ((List.range M.length).filter fun (j : Nat) => s.left.has j && decide (onV M s.left j = 13)).map fun (j : Nat) => (j : Int))
  else ([], [])
theorem choices_some {M : List Nd} {s : Sq} (hM : M.length ≤ 1024) (hl : lookV M s = true) (hb : s.left.okB = true) : rule_Choices.f (some M) s = some ((choicesV M s).1, (choicesV M s).2, 0) := by
  have h := lookV_rt hb hl
  unfold rule_Choices.f choicesV
  simp only [look_some hb, hl, if_true, Option.bind_some, apply_some hM h, node_some, decide_eq_true_eq, ne_eq, not_true_eq_false, decide_false, Bool.false_eq_true, if_false]
  by_cases h14 : (applyV M s).1 = 14
  · simp only [h14, not_true_eq_false, if_false, if_true]
    have hll : s.left.list.length ≤ 1024 := by
      unfold Bits.list
      exact Nat.le_trans (List.length_filter_le _ _) (by simp)
    have key : ∀ x y : List Int, x.length ≤ 2 → y.length ≤ 2 → forE (fun (x : Nat) (s_1 : List Int × List Int) => rule_Choices.b0 (some M) s (x : Int) s_1.1 s_1.2) s.left.list (x, y) =
        some (.inl (x ++ (s.left.list.filter fun (j : Nat) => decide (onV M s.left j = 13)).map (fun (j : Nat) => (j : Int)), y ++ (s.left.list.filter fun (j : Nat) => decide (onV M s.left j = 13)).map fun _ => 13)) := by
      intro x y hx hy
      refine forE_two _ 0 x y (fun j x y hj h1 h2 => ?_) (by omega) (by omega)
      unfold rule_Choices.b0
      simp only [on_some hb, Option.bind_some, chk, List.length_cons, List.length_nil, decide_eq_true_eq]
      by_cases h13 : onV M s.left j = 13
      · have e1 : (x.length + (0 + 1)) * 8 ≤ 140737488355328 := by omega
        have e2 : (y.length + (0 + 1)) * 8 ≤ 140737488355328 := by omega
        simp only [h13, e1, e2, decide_true, if_true]
      · simp only [h13, decide_false, if_false, Bool.false_eq_true]
    have hf : (s.left.list.filter fun (j : Nat) => decide (onV M s.left j = 13)) = (List.range M.length).filter fun (j : Nat) => s.left.has j && decide (onV M s.left j = 13) := by
      rw [list_eq hM h.left, List.filter_filter]
      exact congrArg (fun q => (List.range M.length).filter q) (funext fun j => Bool.and_comm _ _)
    by_cases h4 : (nd M s.goal).kind = 4
    · simp only [h4, if_true, chk, List.length_nil, List.length_cons, Option.bind_some, hb, List.nil_append]
      simp only [show decide ((0 + (0 + 1 + 1)) * 8 ≤ 140737488355328) = true from rfl, if_true]
      simp only [Option.bind_some]
      rw [key _ _ (by simp) (by simp), hf]
      simp [fin]
    · simp only [h4, if_false, Option.bind_some, hb, chk, if_true]
      rw [key _ _ (by simp) (by simp), hf]
      simp [fin]
  · simp [h14]
theorem docChoices {M : List Nd} {s : Sq} (hw : Wf M) (h : Rt M s) : ref09_Choices.f (some M) s = some (choicesV M s) := by
  unfold ref09_Choices.f choicesV
  simp only [docApply hw h, Option.bind_some, docKind h.goal, decide_eq_true_eq, ne_eq]
  by_cases h14 : (applyV M s).1 = 14
  · simp only [h14, not_true_eq_false, if_false, if_true, Option.isSome_some, Option.getD_some]
    have key : ∀ x y : List Int, x.length ≤ 2 → y.length ≤ 2 → forS (fun i (s_1 : List Int × List Int) => ref09_Choices.b0 (some M) s i s_1.1 s_1.2) M.length ((0 : Nat) : Int) (x, y) =
        some (x ++ ((List.range' 0 M.length).filter fun (j : Nat) => fitsV M s 13 j).map (fun _ => 13), y ++ ((List.range' 0 M.length).filter fun (j : Nat) => fitsV M s 13 j).map fun (j : Nat) => (j : Int)) := by
      intro x y hx hy
      refine forS_two (c := fun _ => 0) _ 0 x y (fun j x y h1 h2 h3 h4 => ?_) (by omega) (by omega)
      have := hw.len
      unfold ref09_Choices.b0
      simp only [docFits hw h.ok, Option.bind_some, chk, List.length_cons, List.length_nil, decide_eq_true_eq]
      cases fitsV M s 13 j with
      | true =>
        have e1 : (x.length + (0 + 1)) * 8 ≤ 140737488355328 := by omega
        have e2 : (y.length + (0 + 1)) * 8 ≤ 140737488355328 := by omega
        simp only [e1, e2, decide_true, if_true]
      | false => rfl
    have hf : ((List.range' 0 M.length).filter fun (j : Nat) => fitsV M s 13 j) = (List.range M.length).filter fun (j : Nat) => s.left.has j && decide (onV M s.left j = 13) := by
      rw [← List.range_eq_range']
      exact List.filter_congr fun j hj => fits_on (by decide) (List.mem_range.1 hj)
    have e0 : (((M.length : Nat) : Int) - 0).toNat = M.length := by omega
    by_cases h4 : (nd M s.goal).kind = 4
    · simp only [h4, if_true, chk, List.length_nil, List.length_cons, Option.bind_some, List.nil_append]
      simp only [show decide ((0 + (0 + 1 + 1)) * 8 ≤ 140737488355328) = true from rfl, if_true]
      simp only [Option.bind_some]
      rw [e0, show (0 : Int) = ((0 : Nat) : Int) from rfl, key _ _ (by simp) (by simp), hf]
      simp
    · simp only [h4, if_false, Option.bind_some, chk, if_true]
      rw [e0, show (0 : Int) = ((0 : Nat) : Int) from rfl, key _ _ (by simp) (by simp), hf]
      simp
  · simp [h14]
end Go.Proofs.YtjjkhjieegmphaaDoor
