/- Chapter 09, the plain law: tables out of rows; RuleTells. -/
import Derived.Test.YtjjkhjieegmphaaDoorRuleY
import Derived.Test.YtjjkhjieegmphaaDoorRuleTP
namespace Go.Proofs.YtjjkhjieegmphaaDoor
open Gw
set_option linter.unusedVariables false
set_option linter.unusedSimpArgs false
theorem wrap_small {n : Int} (h : 0 ≤ n ∧ n < 9223372036854775808) : IntKind.i64.wrap n = n := by
  exact IntWalk.i64_in _ ⟨by omega, by omega⟩
theorem idx_find (n : Nd) : ∀ (N : List Nd) (s : Nat), (List.range' s N.length).find? (fun k => decide (N.getD (k - s) Nd.z = n)) = (N.idxOf? n).map (· + s)
  | [], s => rfl
  | a :: N, s => by
    rw [List.length_cons, List.range'_succ, List.find?_cons, List.idxOf?_cons]
    by_cases h : a = n
    · simp [h]
    · have h1 : (a == n) = false := by simpa using h
      have h2 : (List.range' (s + 1) N.length).find? (fun k => decide ((a :: N).getD (k - s) Nd.z = n)) = (List.range' (s + 1) N.length).find? (fun k => decide (N.getD (k - (s + 1)) Nd.z = n)) := find_congr fun k hk => by
        have hk := (List.mem_range'_1.1 hk).1
        rw [show k - s = (k - (s + 1)) + 1 by omega]; simp
      simp only [Nat.sub_self, List.getD_cons_zero, h, decide_false, h1, h2, idx_find n N (s + 1)]
      cases N.idxOf? n with
      | none => rfl
      | some k => simp; omega
theorem docFind (N : List Nd) (n : Nd) : ref03_T_Find.f (some N) n = some (match N.idxOf? n with | some k => ((k : Int), true) | none => (0, false)) := by
  unfold ref03_T_Find.f
  have h1 := forN_find (b := fun i s => ref03_T_Find.b0 (some N) n i) (p := fun k => decide (N.getD k Nd.z = n)) (r := fun k => ((k : Int), true)) N.length 0 () (by
    intro k _ hk
    unfold ref03_T_Find.b0 at_
    rw [Int.toNat_natCast, Option.getD_some]
    split <;> rfl)
  have e0 : (((N.length : Nat) : Int) - 0).toNat = N.length := by omega
  simp only [Option.isSome_some, Option.getD_some, chk, if_true, e0]
  rw [show (0 : Int) = ((0 : Nat) : Int) from rfl, h1]
  have h2 := idx_find n N 0
  simp only [Nat.sub_zero, Nat.add_zero] at h2
  rw [h2]
  cases N.idxOf? n <;> rfl
theorem bind_eq {α β : Type} {x : Option α} {y : α} {f : α → Option β} {r : Option β} (hx : x = some y) (h : f y = r) : x.bind f = r := by rw [hx]; exact h
theorem docPut {N : List Nd} {n : Nd} (hN : N.length ≤ 1024) (hn : n.name.size < 9223372036854775808) : ref03_T_Put.f (some N) n = some (some (putS N n).1, (putS N n).2.1, (putS N n).2.2) := by
  have hrow : ∀ i : Int, ref03_T_Has.f (some N) i = some (hasRow N i) := fun i => by simp [ref03_T_Has.f, chk, hasRow]
  have hend : ((ref03_T_Find.f (some N) n).bind fun r25 => if r25.2 then some (some N, r25.1, 0) else chk (some N).isSome (if decide (1024 ≤ ((((some N).getD []).length : Nat) : Int)) then some ((some ((some N).getD [])), 0, 30) else chk (decide ((((some N).getD []).length + 1) * 40 ≤ 140737488355328)) (some ((some (((some N).getD []) ++ [n])), IntKind.i64.wrap (((((some N).getD []) ++ [n]).length : Int) - 1), 0)))) =
      (match N.idxOf? n with | some k => some (some N, (k : Int), (0 : Int)) | none => if 1024 ≤ N.length then some (some N, 0, 30) else some (some (N ++ [n]), (N.length : Int), 0)) := by
    rw [docFind]
    cases N.idxOf? n with
    | some k => rfl
    | none =>
      simp only [Option.bind_some, Bool.false_eq_true, if_false, Option.isSome_some, Option.getD_some, chk, if_true, decide_eq_true_eq]
      by_cases h : 1024 ≤ N.length
      · have h1 : (1024 : Int) ≤ (N.length : Int) := by omega
        simp only [h, h1, if_true]
      · have h1 : ¬ (1024 : Int) ≤ (N.length : Int) := by omega
        have h2 : (N.length + 1) * 40 ≤ 140737488355328 := by omega
        have h3 : IntKind.i64.wrap (((N ++ [n]).length : Int) - 1) = (N.length : Int) := by
          rw [wrap_small (by simp; omega)]; simp
        simp only [h, h1, h2, h3, if_true, if_false]
  unfold ref03_T_Put.f
  refine bind_eq (y := if fitsS N n = 0 then .inl (some N) else .inr (some N, 0, fitsS N n)) ?_ ?_
  · unfold fitsS
    simp only [hrow, ref03_Word.f, hn, chk, decide_true, if_true, Option.bind_some]
    by_cases k1 : n.kind = 1
    · simp only [k1, decide_true, if_true]
      by_cases hl : n.l = 0
      · by_cases hr : n.r = 0
        · by_cases hw : isWord n.name <;> simp [hl, hr, hw]
        · simp [hl, hr]
      · simp [hl]
    by_cases k2 : n.kind = 2
    · have e : (n = { Nd.z with kind := 2 }) ↔ (n.name = ⟨#[]⟩ ∧ n.l = 0 ∧ n.r = 0) := by
        constructor
        · intro h; rw [h]; exact ⟨rfl, rfl, rfl⟩
        · rintro ⟨h1, h2, h3⟩
          obtain ⟨a, b, c, d⟩ := n
          simp only at k2 h1 h2 h3
          subst k2 h1 h2 h3; rfl
      simp only [k2, decide_true, if_true, show ¬ ((2 : Int) = 1) by decide, decide_false, Bool.false_eq_true, if_false, e]
      by_cases hm : n.name = ⟨#[]⟩
      · by_cases hl : n.l = 0
        · by_cases hr : n.r = 0 <;> simp [hm, hl, hr]
        · simp [hm, hl]
      · simp [hm]
    by_cases k3 : n.kind = 3 ∨ n.kind = 4 ∨ n.kind = 5
    · have ho : ((if decide (n.kind = 3) = true then some (decide (n.kind = 3)) else if decide (n.kind = 4) = true then some (decide (n.kind = 4)) else some (decide (n.kind = 5))) : Option Bool) = some true := by
        rcases k3 with k | k | k <;> simp [k]
      simp only [k1, k2, k3, decide_false, Bool.false_eq_true, if_false, if_true]
      simp only [decide_eq_true_eq] at ho ⊢
      rw [ho]
      simp only [Option.bind_some, if_true]
      by_cases hm : n.name = ⟨#[]⟩
      · cases hl : hasRow N n.l with
        | false => simp [hm, hl]
        | true => cases hr : hasRow N n.r <;> simp [hm, hl, hr]
      · simp [hm]
    · have ho : ((if decide (n.kind = 3) = true then some (decide (n.kind = 3)) else if decide (n.kind = 4) = true then some (decide (n.kind = 4)) else some (decide (n.kind = 5))) : Option Bool) = some false := by
        simp only [not_or] at k3; simp [k3.1, k3.2.1, k3.2.2]
      simp only [k1, k2, k3, decide_false, Bool.false_eq_true, if_false, if_true]
      simp only [decide_eq_true_eq] at ho ⊢
      rw [ho]
      simp
  · by_cases hf : fitsS N n = 0
    · rw [if_pos hf]
      refine Eq.trans (show _ = _ from hend) ?_
      unfold putS
      rw [if_pos hf]
      cases N.idxOf? n with
      | some k => rfl
      | none =>
        by_cases h : 1024 ≤ N.length
        · simp only [if_pos h]
        · simp only [if_neg h]
    · rw [if_neg hf, put_bad hf]; rfl
theorem progPut {N : List Nd} {n : Nd} (hn : n.name.size < 9223372036854775808) : formula_Table_Put.f (some N) n = some (some (putS N n).1, (putS N n).2.1, (putS N n).2.2) := by
  simp [formula_Table_Put.f, chk, hn]
theorem rows_take {M : List Nd} {i : Nat} (hi : i < M.length) : at_ Nd.z M i = M[i] := by
  unfold at_; rw [Int.toNat_natCast, List.getD_eq_getElem?_getD, List.getElem?_eq_getElem hi]; rfl
/-- a row behind a table whose rows stand behind their parts -/
theorem wf_push {N : List Nd} {n : Nd} (h : Wf N) (hf : fitsS N n = 0) (hl : N.length < 1024) (hnew : n ∉ N) : Wf (N ++ [n]) := by
  have hnd : ∀ i : Int, inb i N.length = true → nd (N ++ [n]) i = nd N i := by
    intro i hi
    have h1 := inb_ex hi
    unfold nd nodeS hasRow
    have h2 : i.toNat < N.length := by omega
    rw [if_pos (by simp; omega), if_pos (by simp; omega)]
    simp only
    rw [List.getD_eq_getElem?_getD, List.getElem?_append_left h2, ← List.getD_eq_getElem?_getD]
  have hlast : nd (N ++ [n]) N.length = n := by
    unfold nd nodeS hasRow
    rw [if_pos (by simp; omega)]
    simp
  have hsplit : ∀ i : Int, inb i (N ++ [n]).length = true → inb i N.length = true ∨ i = N.length := by
    intro i hi
    have := inb_ex hi
    simp at this
    simp only [inb, Bool.and_eq_true, decide_eq_true_eq]; omega
  have hkind : n.kind = 1 ∨ n.kind = 2 ∨ n.kind = 3 ∨ n.kind = 4 ∨ n.kind = 5 := by
    unfold fitsS at hf
    by_cases k1 : n.kind = 1
    · exact .inl k1
    by_cases k2 : n.kind = 2
    · exact .inr (.inl k2)
    by_cases k3 : n.kind = 3 ∨ n.kind = 4 ∨ n.kind = 5
    · exact .inr (.inr k3)
    · simp [k1, k2, k3] at hf
  refine ⟨by simp; omega, by rw [List.nodup_append]; exact ⟨h.nodup, by simp, fun a ha b hb e => hnew (by rw [← List.mem_singleton.1 hb, ← e]; exact ha)⟩, fun i hi => ?_, fun i hi hk => ?_⟩
  · rcases hsplit i hi with h1 | rfl
    · rw [hnd i h1]; exact h.kind i h1
    · rw [hlast]; exact hkind
  · rcases hsplit i hi with h1 | rfl
    · rw [hnd i h1] at hk ⊢; exact h.kids i h1 hk
    · rw [hlast] at hk ⊢
      unfold fitsS at hf
      have k1 : ¬ n.kind = 1 := by omega
      have k2 : ¬ n.kind = 2 := by omega
      rw [if_neg k1, if_neg k2, if_pos hk] at hf
      split at hf
      · simp at hf
      · rename_i hh
        simp only [not_or, Bool.not_eq_false] at hh
        obtain ⟨⟨_, h1⟩, h2⟩ := hh
        simp only [hasRow, Bool.and_eq_true, decide_eq_true_eq] at h1 h2
        exact ⟨h1, h2⟩
/-- what comes of rows: an error, or the table of them -/
theorem from_some {rows : List Nd} (hn : ∀ n ∈ rows, n.name.size < 9223372036854775808) : ∃ r : Tb × Int, ref03_From.f rows = some r ∧ formula_From.f rows = some r ∧ (r.2 = 0 → r.1 = some rows ∧ Wf rows) := by
  have hstep : ∀ (N : List Nd) (i : Nat), i < rows.length → N.length ≤ 1024 → ref03_From.b0 rows i (some N) = some (if (putS N (at_ Nd.z rows i)).2.2 ≠ 0 then .ret (none, (putS N (at_ Nd.z rows i)).2.2) else if (putS N (at_ Nd.z rows i)).2.1 ≠ i then .ret (none, 31) else .go (some (putS N (at_ Nd.z rows i)).1)) ∧
      formula_From.b0 rows i (some N) = ref03_From.b0 rows i (some N) := by
    intro N i hi hN
    have hm : (at_ Nd.z rows i).name.size < 9223372036854775808 := by rw [rows_take hi]; exact hn _ (List.getElem_mem hi)
    have h1 : ref03_From.b0 rows i (some N) = some (if (putS N (at_ Nd.z rows i)).2.2 ≠ 0 then .ret (none, (putS N (at_ Nd.z rows i)).2.2) else if (putS N (at_ Nd.z rows i)).2.1 ≠ i then .ret (none, 31) else .go (some (putS N (at_ Nd.z rows i)).1)) := by
      unfold ref03_From.b0
      rw [docPut hN hm]
      simp only [Option.bind_some, decide_eq_true_eq]
      split
      · rfl
      · split <;> rfl
    refine ⟨h1, ?_⟩
    rw [h1]
    unfold formula_From.b0
    rw [progPut hm]
    simp only [Option.bind_some]
    by_cases e : (putS N (at_ Nd.z rows i)).2.2 = 0
    · by_cases e2 : (putS N (at_ Nd.z rows i)).2.1 = i
      · simp [e, e2]
      · simp [e, e2]
    · simp [e]
  have main : ∀ (n i : Nat), i + n = rows.length → i ≤ 1024 → Wf (rows.take i) → ∃ o, forN (fun j s => ref03_From.b0 rows j s) n i (some (rows.take i)) = some o ∧ forN (fun j s => formula_From.b0 rows j s) n i (some (rows.take i)) = some o ∧
      ((∃ e, e ≠ 0 ∧ o = .inr (none, e)) ∨ (o = .inl (some rows) ∧ Wf rows)) := by
    intro n
    induction n with
    | zero =>
      intro i hi _ hw
      rw [List.take_of_length_le (by omega)] at hw ⊢
      exact ⟨_, rfl, rfl, .inr ⟨rfl, hw⟩⟩
    | succ n ih =>
      intro i hi hle hw
      have hil : i < rows.length := by omega
      have hlen : (rows.take i).length = i := by simp; omega
      obtain ⟨h1, h2⟩ := hstep (rows.take i) i hil (by omega)
      simp only [forN]
      rw [h2, h1]
      by_cases e : (putS (rows.take i) (at_ Nd.z rows i)).2.2 = 0
      · by_cases e2 : (putS (rows.take i) (at_ Nd.z rows i)).2.1 = i
        · simp only [e, e2, ne_eq, not_true_eq_false, if_false, Option.bind_some]
          have hput : fitsS (rows.take i) (at_ Nd.z rows i) = 0 ∧ i < 1024 ∧ at_ Nd.z rows i ∉ rows.take i ∧ (putS (rows.take i) (at_ Nd.z rows i)).1 = rows.take i ++ [at_ Nd.z rows i] := by
            by_cases hf : fitsS (rows.take i) (at_ Nd.z rows i) = 0
            · cases hk : (rows.take i).idxOf? (at_ Nd.z rows i) with
              | some k =>
                rw [put_old hf hk] at e2
                have : k < (rows.take i).length := by
                  have := List.idxOf?_eq_some_iff.1 hk
                  exact this.1
                simp only at e2; omega
              | none =>
                by_cases hl : 1024 ≤ (rows.take i).length
                · rw [put_full hf hk hl] at e; simp at e
                · rw [put_new hf hk hl]
                  exact ⟨hf, by omega, List.idxOf?_eq_none_iff.1 hk, rfl⟩
            · rw [put_bad hf] at e; exact absurd e hf
          obtain ⟨hf, hlt, hnew, hp⟩ := hput
          have ht : rows.take i ++ [at_ Nd.z rows i] = rows.take (i + 1) := by
            rw [rows_take hil, List.take_succ_eq_append_getElem hil]
          rw [hp, ht]
          have := ih (i + 1) (by omega) (by omega) (by rw [← ht]; exact wf_push hw hf (by omega) hnew)
          simpa using this
        · simp only [e, e2, ne_eq, not_true_eq_false, not_false_eq_true, if_false, if_true, Option.bind_some]
          exact ⟨_, rfl, rfl, .inl ⟨31, by decide, rfl⟩⟩
      · simp only [e, ne_eq, not_false_eq_true, if_true, Option.bind_some]
        exact ⟨_, rfl, rfl, .inl ⟨_, e, rfl⟩⟩
  have e0 : (((rows.length : Nat) : Int) - 0).toNat = rows.length := by omega
  obtain ⟨o, h1, h2, h3⟩ := main rows.length 0 (by omega) (by omega) ⟨by simp, by simp, fun i hi => absurd (inb_ex hi) (by simp), fun i hi => absurd (inb_ex hi) (by simp)⟩
  unfold ref03_From.f formula_From.f formula_New.f
  rw [e0]
  simp only [Option.bind_some]
  rw [show (0 : Int) = ((0 : Nat) : Int) from rfl]
  rw [List.take_zero] at h1 h2
  rw [h1, h2]
  rcases h3 with ⟨e, he, rfl⟩ | ⟨rfl, hw⟩
  · exact ⟨_, rfl, rfl, fun q => absurd q he⟩
  · exact ⟨_, rfl, rfl, fun _ => ⟨rfl, hw⟩⟩
theorem heads09 : law09_heads.f = some true := by decide +kernel
theorem rules_self (l : List Int) : law09_rules.f l l = some true := by
  unfold law09_rules.f
  have h1 := forN_find (b := fun i s => law09_rules.b0 l l i) (p := fun _ => false) (r := fun _ => false) l.length 0 () (by
    intro k _ hk
    unfold law09_rules.b0
    rw [inb_nat]
    simp [chk]
    omega)
  have e0 : (((l.length : Nat) : Int) - 0).toNat = l.length := by omega
  rw [e0, show (0 : Int) = ((0 : Nat) : Int) from rfl, h1, show (List.range' 0 l.length).find? (fun _ => false) = none from List.find?_eq_none.2 (by simp), if_neg (by simp)]
  rfl
theorem ints_self (l : List Int) : ref03_Ints.f l l = some true := by
  unfold ref03_Ints.f
  have h1 := forN_find (b := fun i s => ref03_Ints.b0 l l i) (p := fun _ => false) (r := fun _ => false) l.length 0 () (by
    intro k _ hk
    unfold ref03_Ints.b0
    rw [inb_nat]
    simp [chk]
    omega)
  have e0 : (((l.length : Nat) : Int) - 0).toNat = l.length := by omega
  rw [e0, show (0 : Int) = ((0 : Nat) : Int) from rfl, h1, show (List.range' 0 l.length).find? (fun _ => false) = none from List.find?_eq_none.2 (by simp), if_neg (by simp)]
  rfl
theorem same_self (l : List Nd) : ref03_Same.f l l = some true := by
  unfold ref03_Same.f
  have h1 := forN_find (b := fun i s => ref03_Same.b0 l l i) (p := fun _ => false) (r := fun _ => false) l.length 0 () (by
    intro k _ hk
    unfold ref03_Same.b0
    rw [inb_nat]
    simp [chk]
    omega)
  have e0 : (((l.length : Nat) : Int) - 0).toNat = l.length := by omega
  rw [e0, show (0 : Int) = ((0 : Nat) : Int) from rfl, h1, show (List.range' 0 l.length).find? (fun _ => false) = none from List.find?_eq_none.2 (by simp), if_neg (by simp)]
  rfl
theorem like_self (M : List Nd) : law03_Like.f (some M) (some M) = some true := by
  simp [law03_Like.f, chk, formula_Table_Rows.f, same_self, formula_Table_Len.f]
/-- both tables of the same rows, or none -/
theorem both_some {rows : List Nd} (hn : ∀ n ∈ rows, n.name.size < 9223372036854775808) (hl : rows.length * 40 ≤ 140737488355328) : law03_Both.f rows = some (none, none, false) ∨ (law03_Both.f rows = some (some rows, some rows, true) ∧ Wf rows) := by
  obtain ⟨r, h1, h2, h3⟩ := from_some hn
  have hc : (([] : List Nd).length + rows.length) * 40 ≤ 140737488355328 := by rw [List.length_nil, Nat.zero_add]; exact hl
  unfold law03_Both.f
  rw [chk, if_pos (decide_eq_true hc), h1]
  simp only [Option.bind_some, List.nil_append, h2]
  by_cases e : r.2 = 0
  · obtain ⟨h4, hw⟩ := h3 e
    exact .inr ⟨by rw [h4]; simp [e], hw⟩
  · exact .inl (by simp [e])
theorem Fits_some {M : List Nd} {s : Sq} (hb : s.left.okB = true) (r k : Int) : rule_Fits.f (some M) s r k = some (if lookV M s then (fitsV M s r k, 0) else (false, 31)) := by
  unfold rule_Fits.f
  rw [look_some hb]
  cases lookV M s with
  | true => simp [fits_some hb]
  | false => simp
theorem Apply_some {M : List Nd} {s : Sq} (hM : M.length ≤ 1024) (hb : s.left.okB = true) : rule_Apply.f (some M) s = some (if lookV M s then ((applyV M s).1, (applyV M s).2, 0) else (0, 0, 31)) := by
  unfold rule_Apply.f
  rw [look_some hb]
  cases hl : lookV M s with
  | true => simp [apply_some hM (lookV_rt hb hl)]
  | false => simp
theorem Choices_bad {M : List Nd} {s : Sq} (hb : s.left.okB = true) (hl : lookV M s = false) : rule_Choices.f (some M) s = some ([], [], 31) := by
  unfold rule_Choices.f
  rw [look_some hb, hl]
  simp
theorem RuleTells_true {rows : List Nd} {s : Sq} {r k : Int} (hn : ∀ n ∈ rows, n.name.size < 9223372036854775808) (hl : rows.length * 40 ≤ 140737488355328) (hb : s.left.okB = true) : law09_RuleTells.f rows s r k = some true := by
  unfold law09_RuleTells.f
  rcases both_some hn hl with h | ⟨h, hw⟩
  · rw [h]; simp [heads09]
  · rw [h]
    simp only [Option.bind_some, Bool.not_true, Bool.false_eq_true, if_false, Apply_some hw.len hb, Fits_some hb, docRight hb]
    cases hk : lookV rows s with
    | false => simp [Choices_bad hb hk, heads09]
    | true =>
      have hr := lookV_rt hb hk
      simp [choices_some hw.len hk hb, docApply hw hr, docChoices hw hr, docFits hw hb, rules_self, ints_self, like_self, heads09]
end Go.Proofs.YtjjkhjieegmphaaDoor
