/- RuleFalls, where what it reads is of the bulk that the row names: the row's statement and its card. The table of trailing zeros reads as the program lays it. Printed by card.py, a program of mine. -/
import Derived.Test.YtjjkhjieegmphaaDoorMFalls5
import Derived.Test.YtjjkhjieegmphaaDoorCards
import Derived.Test.YtjjkhjieegmphaaDoorTie
import Derived.WalkKit
import Derived.ProofKit
import Derived.OpenShut
import Derived.Deep.DeepHandedRow
import Derived.Lib.LaidTab
import Derived.Deep.Slices
section
namespace Go.Proofs.YtjjkhjieegmphaaDoor
open Gw
set_option linter.unusedVariables false
set_option linter.unusedSimpArgs false
/-- what Premises answers: an error, or what PremR tells -/
theorem Premises_rel {M : List Nd} {s : Sq} (r i : Int) (hw : Wf M) (hl : lookV M s = true) (hb : s.left.okB = true) :
    ∃ N L e, rule_Premises.f (some M) s r i = some (some N, L, e) ∧ (e = 0 → fitsV M s r i = true ∧ PremR M s i r N L) := by
  obtain ⟨N, L, e, h, _⟩ := prem_eq (r := r) (i := i) hw hl hb
  refine ⟨N, L, e, h, fun he => ?_⟩
  subst he
  unfold rule_Premises.f at h
  rw [look_some hb, hl, fits_some hb] at h
  simp only [if_true, ne_eq, not_true_eq_false, decide_false, Bool.false_eq_true, if_false, Option.bind_some] at h
  cases hf : fitsV M s r i with
  | false => simp [hf] at h
  | true =>
    refine ⟨rfl, ?_⟩
    simp only [hf, Bool.not_true, Bool.false_eq_true, if_false] at h
    obtain ⟨n, h1, h⟩ := bind_ex h
    obtain ⟨⟨T, L', e'⟩, h2, h⟩ := bind_ex h
    by_cases he : e' = 0
    · subst he
      simp only [not_true_eq_false, decide_false, Bool.false_eq_true, if_false, Option.some.injEq, Prod.mk.injEq] at h
      obtain ⟨rfl, rfl, _⟩ := h
      obtain ⟨N', e1, h3⟩ := prem_rel hw hb hf h2
      cases e1
      exact h3
    · simp only [he, not_false_eq_true, decide_true, if_true] at h
      obtain ⟨_, _, h⟩ := bind_ex h
      simp only [Option.some.injEq, Prod.mk.injEq] at h
      exact absurd h.2.2 he
theorem inb_mono {i : Int} {m n : Nat} (h : inb i m = true) (hmn : m ≤ n) : inb i n = true := by
  have := inb_ex h
  simp only [inb, Bool.and_eq_true, decide_eq_true_eq]; omega
theorem lookV_iff {M : List Nd} {s : Sq} : lookV M s = true ↔ (∀ j : Int, s.left.has j = true → inb j M.length = true) ∧ inb s.goal M.length = true := by
  unfold lookV
  rw [Bool.and_eq_true, List.all_eq_true]
  refine and_congr ⟨fun h j hj => ?_, fun h j hj => ?_⟩ Iff.rfl
  · have hr : 0 ≤ j ∧ j < 1024 := by
      refine Decidable.byContradiction fun q => ?_
      rw [Bits.has_out _ _ (by omega)] at hj; cases hj
    have hjn : ((j.toNat : Nat) : Int) = j := by omega
    have := h j.toNat (Bits.mem_list.2 ⟨by omega, by rw [hjn]; exact hj⟩)
    rw [← hjn, inb_nat]; exact this
  · have := h j (Bits.mem_list.1 hj).2
    rw [inb_nat] at this; exact this
/-- what a rule leaves: the rows stay ahead, premises are sequents of the rows behind it -/
theorem prem_wf {M N : List Nd} {s : Sq} {i r : Int} {L : List Sq} (hw : Wf M) (hb : s.left.okB = true) (hl : lookV M s = true) (hi : inb i M.length = true) (h : PremR M s i r N L) :
    Wf N ∧ M.length ≤ N.length ∧ (∀ j : Int, inb j M.length = true → nd N j = nd M j) ∧ ∀ p ∈ L, p.left.okB = true ∧ lookV N p = true := by
  obtain ⟨hl1, hl2⟩ := lookV_iff.1 hl
  have k345 : (nd M i).kind = 3 ∨ (nd M i).kind = 4 ∨ (nd M i).kind = 5 → inb (nd M i).l M.length = true ∧ inb (nd M i).r M.length = true := fun k => ⟨hw.left hi k, hw.right hi k⟩
  have hdel : ∀ j : Int, (s.left.del i).has j = true → inb j M.length = true := fun j hj => by
    rw [Bits.del_has] at hj; simp only [Bool.and_eq_true] at hj; exact hl1 j hj.2
  cases h with
  | bot h k => exact ⟨hw, Nat.le_refl _, fun _ _ => rfl, fun p hp => by cases hp⟩
  | ax h g => exact ⟨hw, Nat.le_refl _, fun _ _ => rfl, fun p hp => by cases hp⟩
  | andL h k =>
    obtain ⟨hx, hy⟩ := k345 (.inl k)
    refine ⟨hw, Nat.le_refl _, fun _ _ => rfl, fun p hp => ?_⟩
    rw [List.mem_singleton] at hp; subst hp
    exact ⟨okB_add _, lookV_iff.2 ⟨(all_add (in1024 hw.len hy)).2 ⟨hy, (all_add (in1024 hw.len hx)).2 ⟨hx, hdel⟩⟩, hl2⟩⟩
  | atom h k c a =>
    obtain ⟨hx, hy⟩ := k345 (.inr (.inr k))
    refine ⟨hw, Nat.le_refl _, fun _ _ => rfl, fun p hp => ?_⟩
    rw [List.mem_singleton] at hp; subst hp
    exact ⟨okB_add _, lookV_iff.2 ⟨(all_add (in1024 hw.len hy)).2 ⟨hy, hdel⟩, hl2⟩⟩
  | botL h k c =>
    refine ⟨hw, Nat.le_refl _, fun _ _ => rfl, fun p hp => ?_⟩
    rw [List.mem_singleton] at hp; subst hp
    exact ⟨okB_del _, lookV_iff.2 ⟨hdel, hl2⟩⟩
  | impR g k =>
    obtain ⟨hx, hy⟩ := k345 (.inr (.inr k))
    refine ⟨hw, Nat.le_refl _, fun _ _ => rfl, fun p hp => ?_⟩
    rw [List.mem_singleton] at hp; subst hp
    exact ⟨okB_add _, lookV_iff.2 ⟨(all_add (in1024 hw.len hx)).2 ⟨hx, hl1⟩, hy⟩⟩
  | andR g k =>
    obtain ⟨hx, hy⟩ := k345 (.inl k)
    refine ⟨hw, Nat.le_refl _, fun _ _ => rfl, fun p hp => ?_⟩
    simp only [List.mem_cons, List.not_mem_nil, or_false] at hp
    rcases hp with rfl | rfl
    · exact ⟨hb, lookV_iff.2 ⟨hl1, hx⟩⟩
    · exact ⟨hb, lookV_iff.2 ⟨hl1, hy⟩⟩
  | orL h k =>
    obtain ⟨hx, hy⟩ := k345 (.inr (.inl k))
    refine ⟨hw, Nat.le_refl _, fun _ _ => rfl, fun p hp => ?_⟩
    simp only [List.mem_cons, List.not_mem_nil, or_false] at hp
    rcases hp with rfl | rfl
    · exact ⟨okB_add _, lookV_iff.2 ⟨(all_add (in1024 hw.len hx)).2 ⟨hx, hdel⟩, hl2⟩⟩
    · exact ⟨okB_add _, lookV_iff.2 ⟨(all_add (in1024 hw.len hy)).2 ⟨hy, hdel⟩, hl2⟩⟩
  | orR1 g k =>
    obtain ⟨hx, hy⟩ := k345 (.inr (.inl k))
    refine ⟨hw, Nat.le_refl _, fun _ _ => rfl, fun p hp => ?_⟩
    rw [List.mem_singleton] at hp; subst hp
    exact ⟨hb, lookV_iff.2 ⟨hl1, hx⟩⟩
  | orR2 g k =>
    obtain ⟨hx, hy⟩ := k345 (.inr (.inl k))
    refine ⟨hw, Nat.le_refl _, fun _ _ => rfl, fun p hp => ?_⟩
    rw [List.mem_singleton] at hp; subst hp
    exact ⟨hb, lookV_iff.2 ⟨hl1, hy⟩⟩
  | conj h k c e1 e2 =>
    obtain ⟨n1, w1, i1, q1, l1⟩ := put_nd hw e1
    obtain ⟨n2, w2, i2, q2, l2⟩ := put_nd w1 e2
    generalize hA1 : putS M (impN (nd M (nd M i).l).r (nd M i).r) = A1 at n1 w1 i1 q1 l1 n2 w2 i2 q2 l2 e1 e2 ⊢
    generalize hA2 : putS A1.1 (impN (nd M (nd M i).l).l A1.2.1) = A2 at n2 w2 i2 q2 l2 e2 ⊢
    refine ⟨w2, by omega, fun j hj => by rw [q2 j (inb_mono hj l1), q1 j hj], fun p hp => ?_⟩
    rw [List.mem_singleton] at hp; subst hp
    exact ⟨okB_add _, lookV_iff.2 ⟨(all_add (in1024 w2.len i2)).2 ⟨i2, fun j hj => inb_mono (hdel j hj) (by omega)⟩, inb_mono hl2 (by omega)⟩⟩
  | disj h k c e1 e2 =>
    obtain ⟨n1, w1, i1, q1, l1⟩ := put_nd hw e1
    obtain ⟨n2, w2, i2, q2, l2⟩ := put_nd w1 e2
    generalize hA1 : putS M (impN (nd M (nd M i).l).l (nd M i).r) = A1 at n1 w1 i1 q1 l1 n2 w2 i2 q2 l2 e1 e2 ⊢
    generalize hA2 : putS A1.1 (impN (nd M (nd M i).l).r (nd M i).r) = A2 at n2 w2 i2 q2 l2 e2 ⊢
    refine ⟨w2, by omega, fun j hj => by rw [q2 j (inb_mono hj l1), q1 j hj], fun p hp => ?_⟩
    rw [List.mem_singleton] at hp; subst hp
    exact ⟨okB_add _, lookV_iff.2 ⟨(all_add (in1024 w2.len i2)).2 ⟨i2, (all_add (in1024 w1.len i1)).2 ⟨inb_mono i1 l2, fun j hj => inb_mono (hdel j hj) (by omega)⟩⟩, inb_mono hl2 (by omega)⟩⟩
  | impL h k c e1 =>
    obtain ⟨n1, w1, i1, q1, l1⟩ := put_nd hw e1
    generalize hA1 : putS M (impN (nd M (nd M i).l).r (nd M i).r) = A1 at n1 w1 i1 q1 l1 e1 ⊢
    obtain ⟨hx, hy⟩ := k345 (.inr (.inr k))
    refine ⟨w1, l1, q1, fun p hp => ?_⟩
    simp only [List.mem_cons, List.not_mem_nil, or_false] at hp
    rcases hp with rfl | rfl
    · exact ⟨okB_add _, lookV_iff.2 ⟨(all_add (in1024 w1.len i1)).2 ⟨i1, fun j hj => inb_mono (hdel j hj) l1⟩, inb_mono hx l1⟩⟩
    · exact ⟨okB_add _, lookV_iff.2 ⟨(all_add (in1024 hw.len hy)).2 ⟨inb_mono hy l1, fun j hj => inb_mono (hdel j hj) l1⟩, inb_mono hl2 l1⟩⟩
theorem fits_inb {M : List Nd} {s : Sq} {r i : Int} (h : fitsV M s r i = true) : inb i M.length = true := (fits_cases h).1
/-- an index that a number picks -/
theorem pick_inb {n : Nat} (h0 : n ≠ 0) (hn : n ≤ 4096) (p : Int) : inb (IntKind.i64.wrap (Int.tmod (IntKind.u64.wrap p) (IntKind.u64.wrap (n : Int)))) n = true ∧ IntKind.u64.wrap (n : Int) ≠ 0 := by
  have h1 : IntKind.u64.wrap (n : Int) = n := by simp [IntKind.wrap, IntKind.bits, IntKind.signed]; omega
  have h2 := wrap_pos p
  rw [h1]
  have h3 := Int.tmod_lt_of_pos (IntKind.u64.wrap p) (b := (n : Int)) (by omega)
  have h4 : 0 ≤ Int.tmod (IntKind.u64.wrap p) (n : Int) := Int.tmod_nonneg _ h2
  rw [wrap_small (by omega)]
  refine ⟨?_, by omega⟩
  simp only [inb, Bool.and_eq_true, decide_eq_true_eq]; omega
theorem choices_len {M : List Nd} {s : Sq} (hM : M.length ≤ 1024) : (choicesV M s).1.length = (choicesV M s).2.length ∧ (choicesV M s).1.length ≤ 4096 := by
  unfold choicesV
  have h1 : ((List.range M.length).filter fun (j : Nat) => s.left.has j && decide (onV M s.left j = 13)).length ≤ M.length := by simpa using List.length_filter_le (fun (j : Nat) => s.left.has j && decide (onV M s.left j = 13)) (List.range M.length)
  split
  · split <;> simp <;> omega
  · simp
/-- the premises of what a program answers, or of a choice -/
theorem next_some {M : List Nd} {s : Sq} (pick : Int) (hw : Wf M) (hb : s.left.okB = true) :
    ∃ T L r ok, law09_next.f (some M) s pick = some (T, L, r, ok) ∧ (ok = true → lookV M s = true ∧ ∃ N i, T = some N ∧ fitsV M s r i = true ∧ PremR M s i r N L) := by
  unfold law09_next.f
  rw [Apply_some hw.len hb]
  cases hl : lookV M s with
  | false => exact ⟨_, _, _, _, rfl, fun h => by cases h⟩
  | true =>
    have key : ∀ r i : Int, ∃ T L ok, (rule_Premises.f (some M) s r i).bind (fun r20 => some (r20.1, r20.2.1, r, decide (r20.2.2 = 0))) = some (T, L, r, ok) ∧ (ok = true → ∃ N i, T = some N ∧ fitsV M s r i = true ∧ PremR M s i r N L) := by
      intro r i
      obtain ⟨N, L, e, h, he⟩ := Premises_rel r i hw hl hb
      rw [h]
      exact ⟨_, _, _, rfl, fun q => ⟨N, i, rfl, he (of_decide_eq_true q)⟩⟩
    simp only [if_true, Option.bind_some, ne_eq, not_true_eq_false, decide_false, Bool.false_eq_true, if_false]
    by_cases h14 : (applyV M s).1 = 14
    · simp only [h14, decide_true, if_true, choices_some hw.len hl hb, Option.bind_some, not_true_eq_false, decide_false, Bool.false_or]
      obtain ⟨c1, c2⟩ := choices_len (M := M) (s := s) hw.len
      by_cases h0 : (choicesV M s).1.length = 0
      · rw [decide_eq_true (show (((choicesV M s).1.length : Nat) : Int) = 0 by omega)]
        exact ⟨_, _, _, _, rfl, fun h => by cases h⟩
      · obtain ⟨p1, p2⟩ := pick_inb h0 c2 pick
        rw [decide_eq_false (show ¬ (((choicesV M s).1.length : Nat) : Int) = 0 by omega), Bool.false_or, decide_eq_false (show ¬ ¬ (((choicesV M s).2.length : Nat) : Int) = (((choicesV M s).1.length : Nat) : Int) by omega), if_neg (by simp), chk, if_pos (decide_eq_true p2), p1, chk, if_pos rfl, chk, ← c1, if_pos p1]
        obtain ⟨T, L, ok, h1, h2⟩ := key (at_ (0 : Int) (choicesV M s).1 (IntKind.i64.wrap (Int.tmod (IntKind.u64.wrap pick) (IntKind.u64.wrap ((choicesV M s).1.length : Int))))) (at_ (0 : Int) (choicesV M s).2 (IntKind.i64.wrap (Int.tmod (IntKind.u64.wrap pick) (IntKind.u64.wrap ((choicesV M s).1.length : Int)))))
        exact ⟨T, L, _, ok, h1, fun q => ⟨trivial, h2 q⟩⟩
    · simp only [h14, decide_false, Bool.false_eq_true, if_false, Option.bind_some]
      obtain ⟨T, L, ok, h1, h2⟩ := key (applyV M s).1 (applyV M s).2
      exact ⟨T, L, _, ok, h1, fun q => ⟨trivial, h2 q⟩⟩
end Go.Proofs.YtjjkhjieegmphaaDoor
end
section
namespace Go.Proofs.YtjjkhjieegmphaaDoor
open Gw
set_option linter.unusedVariables false
set_option linter.unusedSimpArgs false
set_option maxRecDepth 100000
/-- a weight -/
abbrev wt (W : List Int) (i : Int) : Int := at_ (0 : Int) W i
theorem chk_t {α : Type} {b : Bool} {x : Option α} (h : b = true) : chk b x = x := by rw [chk, if_pos h]
theorem wt_set {W : List Int} {i j : Int} {b : Int} (hi : inb i W.length = true) (hj : 0 ≤ j) : wt (W.set i.toNat b) j = if j = i then b else wt W j := by
  have h := inb_ex hi
  unfold wt at_
  rw [List.getD_eq_getElem?_getD, List.getD_eq_getElem?_getD, List.getElem?_set]
  by_cases e : j = i
  · subst e
    have : j.toNat < W.length := by omega
    simp [this]
  · have : ¬ i.toNat = j.toNat := by omega
    simp [e, this]
/-- the weight of row i out of its parts' -/
def wOf (N : List Nd) (W : List Int) (i : Int) : Int :=
  if (nd N i).kind = 1 ∨ (nd N i).kind = 2 then 1 else min 4611686018427387904 (wt W (nd N i).l + wt W (nd N i).r + (if (nd N i).kind = 3 then 2 else 1))
/-- W tells the weights of the rows of N below n -/
def Wts (N : List Nd) (W : List Int) (n : Int) : Prop := ∀ i : Int, 0 ≤ i → i < n → wt W i = wOf N W i ∧ 1 ≤ wt W i ∧ wt W i ≤ 4611686018427387904
theorem wOf_set {N : List Nd} (hw : Wf N) {W : List Int} {i j : Int} {b : Int} (hi : inb i W.length = true) (hj : inb j N.length = true) (hji : j ≤ i) : wOf N (W.set i.toNat b) j = wOf N W j := by
  unfold wOf
  by_cases h12 : (nd N j).kind = 1 ∨ (nd N j).kind = 2
  · rw [if_pos h12, if_pos h12]
  · have hk : (nd N j).kind = 3 ∨ (nd N j).kind = 4 ∨ (nd N j).kind = 5 := by have := hw.kind j hj; omega
    have := hw.kids j hj hk
    rw [if_neg h12, if_neg h12, wt_set hi this.1.1, wt_set hi this.2.1, if_neg (by omega), if_neg (by omega)]
theorem wts_set {N : List Nd} (hw : Wf N) {i : Nat} {W : List Int} {b : Int} (hi : i < N.length) (hW : W.length = N.length) (hs : Wts N W i) (hb : b = wOf N W i) (h1 : 1 ≤ b ∧ b ≤ 4611686018427387904) : Wts N (W.set i b) ((i + 1 : Nat) : Int) := by
  have hin : inb (i : Int) W.length = true := by rw [inb_nat, hW]; simpa using hi
  intro j h0 hj
  have hjn : inb j N.length = true := by simp only [inb, Bool.and_eq_true, decide_eq_true_eq]; omega
  have e1 := wt_set (b := b) hin h0
  have e2 := wOf_set (b := b) hw hin hjn (show j ≤ (i : Int) by omega)
  rw [Int.toNat_natCast] at e1 e2
  rw [e1, e2]
  by_cases e : j = i
  · subst e; rw [if_pos rfl]; exact ⟨hb, h1⟩
  · rw [if_neg e]; exact hs j h0 (by omega)
theorem wrap_u {n : Int} (h : 0 ≤ n ∧ n < 18446744073709551616) : IntKind.u64.wrap n = n := by
  simp [IntKind.wrap, IntKind.bits, IntKind.signed]; omega
theorem weights_step {N : List Nd} (hw : Wf N) {i : Nat} {W : List Int} (hi : i < N.length) (hW : W.length = N.length) (hs : Wts N W i) :
    ∃ W', ref09_Weights.b0 (some N) i W = some W' ∧ W'.length = N.length ∧ Wts N W' ((i + 1 : Nat) : Int) := by
  have hiN : inb (i : Int) N.length = true := by rw [inb_nat]; simpa using hi
  have hiW : inb (i : Int) W.length = true := by rw [hW]; exact hiN
  have hlen := hw.len
  unfold ref09_Weights.b0
  simp only [Option.getD_some, nd_at hiN]
  rw [chk, if_pos hiW]
  by_cases h12 : (nd N i).kind = 1 ∨ (nd N i).kind = 2
  · have e : (decide ((nd N i).kind ≠ 1) && decide ((nd N i).kind ≠ 2)) = false := by
      rw [Bool.and_eq_false_iff]
      rcases h12 with h | h
      · exact .inl (decide_eq_false (fun q => q h))
      · exact .inr (decide_eq_false (fun q => q h))
    rw [e, if_neg (by simp)]
    refine ⟨_, rfl, by simpa using hW, ?_⟩
    rw [Int.toNat_natCast]
    exact wts_set hw hi hW hs (by unfold wOf; rw [if_pos h12]) (by omega)
  · have e : (decide ((nd N i).kind ≠ 1) && decide ((nd N i).kind ≠ 2)) = true := by
      rw [Bool.and_eq_true]; exact ⟨decide_eq_true (fun q => h12 (.inl q)), decide_eq_true (fun q => h12 (.inr q))⟩
    have hk : (nd N i).kind = 3 ∨ (nd N i).kind = 4 ∨ (nd N i).kind = 5 := by have := hw.kind i hiN; omega
    rw [e, if_pos rfl]
    have hl := hw.left hiN hk
    have hr := hw.right hiN hk
    have hkids := hw.kids i hiN hk
    have hl' : inb (nd N i).l (W.set i 1).length = true := by simpa [hW] using hl
    have hr' : inb (nd N i).r (W.set i 1).length = true := by simpa [hW] using hr
    have hi' : inb (i : Int) (W.set i 1).length = true := by simpa using hiW
    have s1 := wt_set (b := 1) hiW hkids.1.1
    have s2 := wt_set (b := 1) hiW hkids.2.1
    rw [Int.toNat_natCast, if_neg (by omega)] at s1 s2
    have b1 := hs _ hkids.1.1 hkids.1.2
    have b2 := hs _ hkids.2.1 hkids.2.2
    have key : ∀ c : Int, (c = if (nd N i).kind = 3 then 2 else 1) → ∃ W', ((some (c, W.set (i : Int).toNat 1)).bind fun (o26 : Int × List Int) => chk (inb ((nd N i).l) o26.2.length) (chk (inb ((nd N i).r) o26.2.length) (chk (inb (i : Int) o26.2.length) (some (o26.2.set (i : Int).toNat (if IntKind.u64.wrap ((IntKind.u64.wrap ((at_ (0 : Int) o26.2 ((nd N i).l)) + (at_ (0 : Int) o26.2 ((nd N i).r)))) + o26.1) < 4611686018427387904 then IntKind.u64.wrap ((IntKind.u64.wrap ((at_ (0 : Int) o26.2 ((nd N i).l)) + (at_ (0 : Int) o26.2 ((nd N i).r)))) + o26.1) else 4611686018427387904)))))) = some W' ∧ W'.length = N.length ∧ Wts N W' ((i + 1 : Nat) : Int) := by
      intro c hc
      have hc2 : 1 ≤ c ∧ c ≤ 2 := by split at hc <;> omega
      simp only [Option.bind_some, Int.toNat_natCast, chk, hl', hr', hi', if_true]
      refine ⟨_, rfl, by simpa using hW, ?_⟩
      rw [List.set_set]
      change Wts N (W.set i (if IntKind.u64.wrap (IntKind.u64.wrap (wt (W.set i 1) (nd N i).l + wt (W.set i 1) (nd N i).r) + c) < 4611686018427387904 then IntKind.u64.wrap (IntKind.u64.wrap (wt (W.set i 1) (nd N i).l + wt (W.set i 1) (nd N i).r) + c) else 4611686018427387904)) _
      rw [s1, s2, wrap_u (n := wt W (nd N i).l + wt W (nd N i).r) (by omega), wrap_u (n := wt W (nd N i).l + wt W (nd N i).r + c) (by omega)]
      refine wts_set hw hi hW hs ?_ (by split <;> omega)
      unfold wOf
      rw [if_neg h12, ← hc]
      split <;> omega
    by_cases h3 : (nd N i).kind = 3
    · rw [if_pos (decide_eq_true h3)]; exact key 2 (by rw [if_pos h3])
    · rw [if_neg (by simpa using h3)]; exact key 1 (by rw [if_neg h3])
theorem weights_loop {N : List Nd} (hw : Wf N) : ∃ W : List Int, forS (fun i (s : List Int) => ref09_Weights.b0 (some N) i s) N.length (0 : Int) (List.replicate N.length (0 : Int)) = some W ∧ W.length = N.length ∧ Wts N W N.length := by
  have main : ∀ (n i : Nat) (W : List Int), i + n = N.length → W.length = N.length → Wts N W i → ∃ W', forS (fun i (s : List Int) => ref09_Weights.b0 (some N) i s) n i W = some W' ∧ W'.length = N.length ∧ Wts N W' N.length := by
    intro n
    induction n with
    | zero =>
      intro i W hi hW hs
      have : i = N.length := by omega
      subst this
      exact ⟨W, rfl, hW, hs⟩
    | succ n ih =>
      intro i W hi hW hs
      obtain ⟨W', h1, h2, h3⟩ := weights_step hw (by omega) hW hs
      obtain ⟨W2, h6, h7, h8⟩ := ih (i + 1) W' (by omega) h2 h3
      refine ⟨W2, ?_, h7, h8⟩
      rw [forS]
      simp only [h1, Option.bind_some]
      simpa using h6
  exact main N.length 0 _ (by omega) (by simp) (fun i h0 hi => by omega)
/-- a falling row, x put in its place -/
def Falls (l : List Int) : Prop := l.Pairwise fun a b => b ≤ a
theorem ins_loop {r37 : List Int} {a1 : Sq} {o11 : List Int} {i47 x : Int} {A : List Int} (hi : inb (at_ (0 : Int) (r37 ++ [a1.goal]) i47) o11.length = true) (hx : at_ (0 : Int) o11 (at_ (0 : Int) (r37 ++ [a1.goal]) i47) = x) (hA : Falls A) (hl : A.length < 4096) :
    ∀ (k f : Nat) (y : Int), k ≤ A.length → k < f → (∀ j (h : j < A.length), k ≤ j → A[j] < x) →
      ∃ (j : Nat) (z : Int), j ≤ A.length ∧ iter (fun (s : Int × List Int) => ref09_Weights.b2 r37 a1 i47 o11 s.1 s.2) f ((k : Int), A.take k ++ y :: A.drop k) = some (.inl ((j : Int), A.take j ++ z :: A.drop j)) ∧ (∀ m (h : m < A.length), j ≤ m → A[m] < x) ∧ (∀ m (h : m < A.length), m < j → x ≤ A[m]) := by
  intro k
  induction k with
  | zero =>
    intro f y _ hf hlt
    obtain ⟨f, rfl⟩ : ∃ g, f = g + 1 := ⟨f - 1, by omega⟩
    refine ⟨0, y, Nat.zero_le _, ?_, hlt, fun m _ h => by omega⟩
    rw [iter]
    simp [ref09_Weights.b2, chk]
  | succ k ih =>
    intro f y hk hf hlt
    obtain ⟨f, rfl⟩ : ∃ g, f = g + 1 := ⟨f - 1, by omega⟩
    have hkA : k < A.length := by omega
    have e1 : IntKind.i64.wrap (((k + 1 : Nat) : Int) - 1) = (k : Int) := by rw [wrap_small (by omega)]; omega
    have hlen : (A.take (k + 1) ++ y :: A.drop (k + 1)).length = A.length + 1 := by simp; omega
    have hinb : inb (k : Int) (A.take (k + 1) ++ y :: A.drop (k + 1)).length = true := by rw [inb_nat, hlen]; simp; omega
    have hinb2 : inb ((k + 1 : Nat) : Int) (A.take (k + 1) ++ y :: A.drop (k + 1)).length = true := by rw [inb_nat, hlen]; simp; omega
    have hat : at_ (0 : Int) (A.take (k + 1) ++ y :: A.drop (k + 1)) (k : Int) = A[k] := by
      unfold at_
      rw [Int.toNat_natCast, List.getD_eq_getElem?_getD, List.getElem?_append_left (by simp; omega), List.getElem?_take_of_lt (by omega), List.getElem?_eq_getElem hkA]; rfl
    have hpos : (0 : Int) < ((k + 1 : Nat) : Int) := by omega
    have hb : ref09_Weights.b2 r37 a1 i47 o11 ((k + 1 : Nat) : Int) (A.take (k + 1) ++ y :: A.drop (k + 1)) = if A[k] < x then some (.go ((k : Int), (A.take (k + 1) ++ y :: A.drop (k + 1)).set (k + 1) A[k])) else some (.brk (((k + 1 : Nat) : Int), A.take (k + 1) ++ y :: A.drop (k + 1))) := by
      unfold ref09_Weights.b2
      rw [e1, hinb, hi, hat, hx, hinb2, decide_eq_true hpos]
      simp [chk]
    rw [iter]
    simp only [hb]
    by_cases hc : A[k] < x
    · rw [if_pos hc]
      have hset : (A.take (k + 1) ++ y :: A.drop (k + 1)).set (k + 1) A[k] = A.take k ++ A[k] :: A.drop k := by
        have h1 : (A.take (k + 1)).length = k + 1 := by simp; omega
        rw [List.set_append_right _ _ (by omega), h1, Nat.sub_self, List.set_cons_zero, List.take_succ_eq_append_getElem hkA, List.append_assoc, List.singleton_append]
        congr 2
        exact (List.drop_eq_getElem_cons hkA).symm
      rw [hset]
      simp only [Option.bind_some]
      refine ih f A[k] (by omega) (by omega) fun j hj hkj => ?_
      by_cases e : j = k
      · subst e; exact hc
      · exact hlt j hj (by omega)
    · rw [if_neg hc]
      refine ⟨k + 1, y, hk, rfl, hlt, fun m hm hmk => ?_⟩
      have h1 : A[k] ≤ A[m] := by
        by_cases e : m = k
        · subst e; exact Int.le_refl _
        · exact List.pairwise_iff_getElem.1 hA m k hm hkA (by omega)
      omega
theorem falls_ins {A : List Int} {x : Int} {j : Nat} (hA : Falls A) (hj : j ≤ A.length) (h1 : ∀ m (h : m < A.length), j ≤ m → A[m] < x) (h2 : ∀ m (h : m < A.length), m < j → x ≤ A[m]) : Falls (A.take j ++ x :: A.drop j) ∧ (A.take j ++ x :: A.drop j).Perm (A ++ [x]) := by
  constructor
  · unfold Falls
    rw [List.pairwise_append]
    have hA' := hA
    unfold Falls at hA'
    rw [← List.take_append_drop j A, List.pairwise_append] at hA'
    refine ⟨hA'.1, ?_, ?_⟩
    · rw [List.pairwise_cons]
      refine ⟨fun a ha => ?_, hA'.2.1⟩
      obtain ⟨m, hm, rfl⟩ := List.getElem_of_mem ha
      rw [List.getElem_drop]
      exact Int.le_of_lt (h1 _ _ (by omega))
    · intro a ha b hb
      rcases List.mem_cons.1 hb with rfl | hb
      · obtain ⟨m, hm, rfl⟩ := List.getElem_of_mem ha
        rw [List.getElem_take]
        exact h2 _ _ (by rw [List.length_take] at hm; omega)
      · exact hA'.2.2 a ha b hb
  · have : (A.take j ++ x :: A.drop j).Perm (x :: (A.take j ++ A.drop j)) := List.perm_middle
    rw [List.take_append_drop] at this
    exact this.trans (List.perm_append_comm (l₁ := [x]))
/-- the formulas of a sequent -/
def fms (s : Sq) : List Int := s.left.list.map (fun (n : Nat) => (n : Int)) ++ [s.goal]
theorem list_le (b : Bits) : b.list.length ≤ 1024 := by
  unfold Bits.list
  exact Nat.le_trans (List.length_filter_le _ _) (by simp)
theorem weights_some {N : List Nd} {s : Sq} {k : Nat} (hw : Wf N) (hb : s.left.okB = true) (hl : lookV N s = true) (hk : 4096 ≤ k) :
    ∃ W R, ref09_Weights.f k (some N) s = some R ∧ W.length = N.length ∧ Wts N W N.length ∧ Falls R ∧ R.Perm ((fms s).map (wt W)) := by
  obtain ⟨W, w1, w2, w3⟩ := weights_loop hw
  obtain ⟨l1, l2⟩ := lookV_iff.1 hl
  have hlen := hw.len
  have hll := list_le s.left
  have e0 : (((N.length : Nat) : Int) - 0).toNat = N.length := by omega
  have e1 : decide (0 ≤ (N.length : Int) ∧ ((N.length : Int)).toNat ≤ 16777216) = true := decide_eq_true (by omega)
  have hin : ∀ x ∈ fms s, inb x W.length = true := by
    intro x hx
    rw [w2]
    rcases List.mem_append.1 hx with hx | hx
    · obtain ⟨j, hj, rfl⟩ := List.mem_map.1 hx
      exact l1 j (Bits.mem_list.1 hj).2
    · rw [List.mem_singleton.1 hx]; exact l2
  have hfl : (fms s).length ≤ 1025 := by unfold fms; simp; omega
  generalize hq : s.left.list.map (fun (n : Nat) => (n : Int)) = q
  have hfms : fms s = q ++ [s.goal] := by rw [← hq]; rfl
  have main : ∀ (n i : Nat) (A : List Int), i + n = (fms s).length → Falls A → A.Perm (((fms s).take i).map (wt W)) →
      ∃ R, forS (fun i (A : List Int) => ref09_Weights.b1 q s W k i A) n i A = some R ∧ Falls R ∧ R.Perm ((fms s).map (wt W)) := by
    intro n
    induction n with
    | zero =>
      intro i A hi hA hp
      rw [List.take_of_length_le (by omega)] at hp
      exact ⟨A, rfl, hA, hp⟩
    | succ n ih =>
      intro i A hi hA hp
      have hif : i < (fms s).length := by omega
      have hAl : A.length = i := by rw [hp.length_eq]; simp; omega
      have hati : at_ (0 : Int) (q ++ [s.goal]) (i : Int) = (fms s)[i] := by
        rw [← hfms]; unfold at_; rw [Int.toNat_natCast, List.getD_eq_getElem?_getD, List.getElem?_eq_getElem hif]; rfl
      have hinb : inb (at_ (0 : Int) (q ++ [s.goal]) (i : Int)) W.length = true := by rw [hati]; exact hin _ (List.getElem_mem hif)
      obtain ⟨j, z, hj, hit, h1, h2⟩ := ins_loop (A := A) hinb rfl hA (by omega) A.length k (at_ (0 : Int) W (at_ (0 : Int) (q ++ [s.goal]) i)) (Nat.le_refl _) (by omega) (fun j h h' => by omega)
      have hb1 : ref09_Weights.b1 q s W k i A = some (A.take j ++ (at_ (0 : Int) W (at_ (0 : Int) (q ++ [s.goal]) i)) :: A.drop j) := by
        unfold ref09_Weights.b1
        have c1 : decide ((A.length + ([at_ (0 : Int) W (at_ (0 : Int) (q ++ [s.goal]) i)]).length) * 8 ≤ 140737488355328) = true := decide_eq_true (by rw [List.length_singleton]; omega)
        rw [List.take_length, List.drop_length] at hit
        refine (chk_t hinb).trans ((chk_t c1).trans ?_)
        refine bind_eq hit ?_
        have c2 : inb (j : Int) (A.take j ++ z :: A.drop j).length = true := by rw [inb_nat]; simp; omega
        refine (chk_t hinb).trans ((chk_t c2).trans ?_)
        congr 1
        rw [Int.toNat_natCast]
        have h3 : (A.take j).length = j := by simp; omega
        rw [List.set_append_right _ _ (by omega), h3, Nat.sub_self, List.set_cons_zero]
      obtain ⟨f1, f2⟩ := falls_ins hA hj h1 h2
      rw [forS]
      simp only [hb1, Option.bind_some]
      refine ih (i + 1) _ (by omega) f1 (f2.trans ?_)
      rw [List.take_succ_eq_append_getElem hif, List.map_append, hati]
      exact hp.append_right _
  obtain ⟨R, r1, r2, r3⟩ := main (fms s).length 0 [] (by omega) List.Pairwise.nil (by simp)
  refine ⟨W, R, ?_, w2, w3, r2, r3⟩
  unfold ref09_Weights.f
  simp only [Option.getD_some, Option.isSome_some]
  refine (chk_t rfl).trans ((chk_t e1).trans ?_)
  rw [e0, Int.toNat_natCast, w1]
  simp only [Option.bind_some, ref05_List.f, hb, chk, if_true, hq]
  have c3 : decide ((q.length + ([s.goal]).length) * 8 ≤ 140737488355328) = true := decide_eq_true (by rw [hfms] at hfl; simp only [List.length_append] at hfl; omega)
  have e2 : ((((q ++ [s.goal]).length : Nat) : Int) - 0).toNat = (fms s).length := by rw [← hfms]; omega
  rw [if_pos c3, e2, show (0 : Int) = ((0 : Nat) : Int) from rfl, r1]
  rfl
/-- a falling row is ahead of another one -/
def lessV : List Int → List Int → Bool
  | [], b => !b.isEmpty
  | _ :: _, [] => false
  | x :: a, y :: b => if x = y then lessV a b else decide (x < y)
theorem less_loop {a b : List Int} (ha : a.length < 4096) (hb : b.length < 4096) : ∀ (n i f : Nat), i + n = min a.length b.length → n < f →
    (iter (fun s => ref09_Less.b0 a b s) f (i : Int)).bind (aft fun (_ : Int) => some (decide ((a.length : Int) < (b.length : Int)))) = some (lessV (a.drop i) (b.drop i)) := by
  intro n
  induction n with
  | zero =>
    intro i f hi hf
    obtain ⟨f, rfl⟩ : ∃ g, f = g + 1 := ⟨f - 1, by omega⟩
    rw [iter]
    have hc : (decide ((i : Int) < (a.length : Int)) && decide ((i : Int) < (b.length : Int))) = false := by
      rw [Bool.and_eq_false_iff, decide_eq_false_iff_not, decide_eq_false_iff_not]; omega
    simp only [ref09_Less.b0, hc, Bool.false_eq_true, if_false, Option.bind_some, aft]
    by_cases h1 : a.length ≤ i
    · rw [List.drop_eq_nil_of_le h1]
      by_cases h2 : b.length ≤ i
      · rw [List.drop_eq_nil_of_le h2]
        exact congrArg some (decide_eq_false (by omega))
      · rw [List.drop_eq_getElem_cons (by omega)]
        exact congrArg some (decide_eq_true (by omega))
    · have h2 : b.length ≤ i := by omega
      rw [List.drop_eq_nil_of_le h2, List.drop_eq_getElem_cons (show i < a.length by omega)]
      exact congrArg some (decide_eq_false (by omega))
  | succ n ih =>
    intro i f hi hf
    obtain ⟨f, rfl⟩ : ∃ g, f = g + 1 := ⟨f - 1, by omega⟩
    have h1 : i < a.length := by omega
    have h2 : i < b.length := by omega
    rw [iter, List.drop_eq_getElem_cons h1, List.drop_eq_getElem_cons h2]
    have hc : (decide ((i : Int) < (a.length : Int)) && decide ((i : Int) < (b.length : Int))) = true := by
      rw [Bool.and_eq_true, decide_eq_true_eq, decide_eq_true_eq]; omega
    have i1 : inb (i : Int) a.length = true := by rw [inb_nat]; simpa using h1
    have i2 : inb (i : Int) b.length = true := by rw [inb_nat]; simpa using h2
    have a1 : at_ (0 : Int) a (i : Int) = a[i] := by unfold at_; rw [Int.toNat_natCast, List.getD_eq_getElem?_getD, List.getElem?_eq_getElem h1]; rfl
    have a2 : at_ (0 : Int) b (i : Int) = b[i] := by unfold at_; rw [Int.toNat_natCast, List.getD_eq_getElem?_getD, List.getElem?_eq_getElem h2]; rfl
    simp only [ref09_Less.b0, hc, if_true, chk, i1, i2, a1, a2, lessV]
    by_cases e : a[i] = b[i]
    · rw [if_pos e]
      simp only [e, ne_eq, not_true_eq_false, decide_false, Bool.false_eq_true, if_false, Option.bind_some]
      rw [wrap_small (by omega)]
      exact ih (i + 1) f (by omega) (by omega)
    · simp [e, aft]
theorem less_some {a b : List Int} {k : Nat} (ha : a.length < 4096) (hb : b.length < 4096) (hk : 4096 ≤ k) : ref09_Less.f k a b = some (lessV a b) := by
  unfold ref09_Less.f
  have := less_loop ha hb (min a.length b.length) 0 k (by omega) (by omega)
  simpa using this
/-- the order of multisets: fewer of weight m, no more of each greater one -/
theorem less_of_count {m : Int} : ∀ {a b : List Int}, Falls a → Falls b → (∀ u, m ≤ u → a.count u ≤ b.count u) → a.count m < b.count m → lessV a b = true
  | _, [], _, _, _, h => by simp at h
  | [], _ :: _, _, _, _, _ => rfl
  | x :: a, y :: b, ha, hb, hu, hm => by
    have ha' := List.pairwise_cons.1 ha
    have hb' := List.pairwise_cons.1 hb
    rw [lessV]
    by_cases e : x = y
    · subst e
      rw [if_pos rfl]
      refine less_of_count (m := m) ha'.2 hb'.2 (fun u h => ?_) ?_
      · have := hu u h
        rw [List.count_cons, List.count_cons] at this
        omega
      · rw [List.count_cons, List.count_cons] at hm
        omega
    · rw [if_neg e, decide_eq_true_eq]
      refine Int.lt_iff_le_and_ne.2 ⟨Int.not_lt.1 fun hlt => ?_, e⟩
      have hz : ∀ u, y < u → (y :: b).count u = 0 := fun u h => List.count_eq_zero.2 fun q => by
        rcases List.mem_cons.1 q with rfl | q
        · omega
        · have := hb'.1 u q; omega
      by_cases hxm : m ≤ x
      · have h1 := hu x hxm
        rw [hz x hlt, List.count_cons_self] at h1
        omega
      · rw [hz m (by omega)] at hm; omega
end Go.Proofs.YtjjkhjieegmphaaDoor
end
section
namespace Go.Proofs.YtjjkhjieegmphaaDoor
open Gw
set_option linter.unusedVariables false
set_option linter.unusedSimpArgs false
set_option maxRecDepth 100000
theorem countP_lt {α : Type} {p q : α → Bool} : ∀ {l : List α}, (∀ x ∈ l, p x = true → q x = true) → (∃ x ∈ l, q x = true ∧ p x = false) → l.countP p < l.countP q
  | [], _, h => by obtain ⟨x, hx, _⟩ := h; cases hx
  | y :: l, h, hs => by
    have hm : l.countP p ≤ l.countP q := List.countP_mono_left fun x hx => h x (List.mem_cons_of_mem _ hx)
    rw [List.countP_cons, List.countP_cons]
    have hy := h y (List.mem_cons_self ..)
    obtain ⟨x, hx, h1, h2⟩ := hs
    rcases List.mem_cons.1 hx with rfl | hx
    · simp only [h1, h2, if_true, Bool.false_eq_true, if_false]; omega
    · have := countP_lt (l := l) (fun x hx => h x (List.mem_cons_of_mem _ hx)) ⟨x, hx, h1, h2⟩
      by_cases hp : p y = true
      · simp only [hp, hy hp, if_true]; omega
      · simp only [hp, Bool.false_eq_true, if_false]; omega
/-- how many formulas on the left side have weight u -/
def cl (W : List Int) (b : Bits) (u : Int) : Nat := b.list.countP fun (j : Nat) => decide (wt W j = u)
theorem cl_eq (W : List Int) (b : Bits) (u : Int) : cl W b u = (List.range 1024).countP fun (j : Nat) => decide (wt W j = u) && b.has j := by
  unfold cl Bits.list; rw [List.countP_filter]
theorem cl_le {W : List Int} {b c : Bits} {u : Int} (h : ∀ j : Int, c.has j = true → wt W j = u → b.has j = true) : cl W c u ≤ cl W b u := by
  rw [cl_eq, cl_eq]
  refine List.countP_mono_left fun j _ hj => ?_
  simp only [Bool.and_eq_true, decide_eq_true_eq] at hj ⊢
  exact ⟨hj.1, h _ hj.2 hj.1⟩
theorem cl_lt {W : List Int} {b c : Bits} {u i : Int} (h : ∀ j : Int, c.has j = true → wt W j = u → b.has j = true) (hi : b.has i = true) (hu : wt W i = u) (hn : c.has i = false) : cl W c u < cl W b u := by
  rw [cl_eq, cl_eq]
  have hr : 0 ≤ i ∧ i < 1024 := by
    refine Decidable.byContradiction fun q => ?_
    rw [Bits.has_out _ _ (by omega)] at hi; cases hi
  have hin : ((i.toNat : Nat) : Int) = i := by omega
  refine countP_lt (fun j _ hj => ?_) ⟨i.toNat, List.mem_range.2 (by omega), ?_, ?_⟩
  · simp only [Bool.and_eq_true, decide_eq_true_eq] at hj ⊢
    exact ⟨hj.1, h _ hj.2 hj.1⟩
  · rw [hin, hi, hu]; simp
  · rw [hin, hn]; simp
theorem cnt_fms (W : List Int) (s : Sq) (u : Int) : ((fms s).map (wt W)).count u = cl W s.left u + if wt W s.goal = u then 1 else 0 := by
  unfold fms cl
  rw [List.map_append, List.count_append, List.map_map, List.map_singleton, List.count_singleton, List.count_eq_countP, List.countP_map]
  congr 1
  by_cases h : wt W s.goal = u <;> simp [h]
/-- p is lighter than s by one formula of weight m -/
def Lighter (W : List Int) (m : Int) (p s : Sq) : Prop := (∀ u, m ≤ u → ((fms p).map (wt W)).count u ≤ ((fms s).map (wt W)).count u) ∧ ((fms p).map (wt W)).count m < ((fms s).map (wt W)).count m
theorem lighter_left {W : List Int} {m i : Int} {p s : Sq} (hm : wt W i = m) (his : s.left.has i = true) (hl : ∀ j : Int, p.left.has j = true → (s.left.has j = true ∧ j ≠ i) ∨ wt W j < m) (hg : p.goal = s.goal ∨ wt W p.goal < m) : Lighter W m p s := by
  have h1 : ∀ u, m ≤ u → ∀ j : Int, p.left.has j = true → wt W j = u → s.left.has j = true := fun u hu j hj e => (hl j hj).elim (·.1) (fun q => by omega)
  have h2 : p.left.has i = false := by
    cases h : p.left.has i with
    | false => rfl
    | true => exact ((hl i h).elim (fun q => absurd rfl q.2) (fun q => by omega))
  refine ⟨fun u hu => ?_, ?_⟩
  · rw [cnt_fms, cnt_fms]
    have := cl_le (h1 u hu)
    rcases hg with e | e
    · rw [e]; omega
    · rw [if_neg (by omega)]; omega
  · rw [cnt_fms, cnt_fms]
    have := cl_lt (h1 m (Int.le_refl _)) his hm h2
    rcases hg with e | e
    · rw [e]; omega
    · rw [if_neg (by omega)]; omega
theorem lighter_right {W : List Int} {m : Int} {p s : Sq} (hm : wt W s.goal = m) (hl : ∀ j : Int, p.left.has j = true → s.left.has j = true ∨ wt W j < m) (hg : wt W p.goal < m) : Lighter W m p s := by
  have h1 : ∀ u, m ≤ u → ∀ j : Int, p.left.has j = true → wt W j = u → s.left.has j = true := fun u hu j hj e => (hl j hj).elim id (fun q => by omega)
  refine ⟨fun u hu => ?_, ?_⟩
  · rw [cnt_fms, cnt_fms]
    have := cl_le (h1 u hu)
    rw [if_neg (by omega)]; omega
  · rw [cnt_fms, cnt_fms]
    have := cl_le (h1 m (Int.le_refl _))
    rw [if_neg (by omega), if_pos hm]; omega
theorem add_has' {b : Bits} {x j : Int} (hx : 0 ≤ x ∧ x < 1024) (h : (b.add x).has j = true) : j = x ∨ b.has j = true := by
  rw [Bits.add_has _ _ _ hx] at h
  simpa using h
theorem del_has' {b : Bits} {x j : Int} (h : (b.del x).has j = true) : b.has j = true ∧ j ≠ x := by
  rw [Bits.del_has] at h
  simp only [Bool.and_eq_true, Bool.not_eq_true', decide_eq_false_iff_not] at h
  exact ⟨h.2, h.1⟩
theorem w_main {N : List Nd} {W : List Int} {i : Int} (hw : Wf N) (hW : Wts N W N.length) (hi : inb i N.length = true) (hc : wt W i < 1152921504606846976) (hk : (nd N i).kind = 3 ∨ (nd N i).kind = 4 ∨ (nd N i).kind = 5) :
    wt W i = wt W (nd N i).l + wt W (nd N i).r + (if (nd N i).kind = 3 then 2 else 1) ∧ 1 ≤ wt W (nd N i).l ∧ 1 ≤ wt W (nd N i).r := by
  have h1 := inb_ex hi
  have h2 := hw.kids i hi hk
  have h3 := hW i h1.1 h1.2
  have h4 := hW _ h2.1.1 (by omega)
  have h5 := hW _ h2.2.1 (by omega)
  refine ⟨?_, h4.2.1, h5.2.1⟩
  have h6 := h3.1
  unfold wOf at h6
  rw [if_neg (by omega)] at h6
  omega
theorem w_new {N : List Nd} {W : List Int} {y a b : Int} (hW : Wts N W N.length) (hi : inb y N.length = true) (hn : nd N y = impN a b) : wt W y ≤ wt W a + wt W b + 1 := by
  have h1 := inb_ex hi
  have h3 := (hW y h1.1 h1.2).1
  unfold wOf at h3
  rw [hn] at h3
  have e1 : (impN a b).kind = 5 := rfl
  have e2 : (impN a b).l = a := rfl
  have e3 : (impN a b).r = b := rfl
  rw [e1, e2, e3, if_neg (by decide), if_neg (by decide)] at h3
  omega
theorem prem_falls {M N : List Nd} {s : Sq} {i r : Int} {L : List Sq} {W : List Int} (hw : Wf M) (hb : s.left.okB = true) (hl : lookV M s = true) (hi : inb i M.length = true) (h : PremR M s i r N L) (hW : Wts N W N.length)
    (hc : ∀ x ∈ fms s, wt W x < 1152921504606846976) (hL : L ≠ []) : ∀ p ∈ L, Lighter W (wt W i) p s := by
  obtain ⟨wN, lN, qN, _⟩ := prem_wf hw hb hl hi h
  have hiN := inb_mono hi lN
  have cl' : s.left.has i = true → wt W i < 1152921504606846976 := fun h => by
    have hr := in1024 hw.len hi
    refine hc i (List.mem_append_left _ (List.mem_map.2 ⟨i.toNat, Bits.mem_list.2 ⟨by omega, ?_⟩, by omega⟩))
    rw [show ((i.toNat : Nat) : Int) = i by omega]; exact h
  have cg : i = s.goal → wt W i < 1152921504606846976 := fun h => hc i (List.mem_append_right _ (by simp [h]))
  have mn : (s.left.has i = true ∨ i = s.goal) → (nd M i).kind = 3 ∨ (nd M i).kind = 4 ∨ (nd M i).kind = 5 → wt W i = wt W (nd M i).l + wt W (nd M i).r + (if (nd M i).kind = 3 then 2 else 1) ∧ 1 ≤ wt W (nd M i).l ∧ 1 ≤ wt W (nd M i).r := fun q k => by
    have := w_main wN hW hiN (q.elim cl' cg) (by rw [qN i hi]; exact k)
    rw [qN i hi] at this; exact this
  have mn2 : s.left.has i = true → (nd M i).kind = 5 → (nd M (nd M i).l).kind = 3 ∨ (nd M (nd M i).l).kind = 4 ∨ (nd M (nd M i).l).kind = 5 → wt W (nd M i).l = wt W (nd M (nd M i).l).l + wt W (nd M (nd M i).l).r + (if (nd M (nd M i).l).kind = 3 then 2 else 1) ∧ 1 ≤ wt W (nd M (nd M i).l).l ∧ 1 ≤ wt W (nd M (nd M i).l).r := fun q k k2 => by
    have hli := hw.left hi (.inr (.inr k))
    have h1 := mn (.inl q) (.inr (.inr k))
    have h2 := cl' q
    have := w_main wN hW (inb_mono hli lN) (by omega) (by rw [qN _ hli]; exact k2)
    rw [qN _ hli] at this; exact this
  have k345 : (nd M i).kind = 3 ∨ (nd M i).kind = 4 ∨ (nd M i).kind = 5 → (0 ≤ (nd M i).l ∧ (nd M i).l < 1024) ∧ (0 ≤ (nd M i).r ∧ (nd M i).r < 1024) := fun k => ⟨in1024 hw.len (hw.left hi k), in1024 hw.len (hw.right hi k)⟩
  cases h with
  | bot h k => exact absurd rfl hL
  | ax h g => exact absurd rfl hL
  | andL h k =>
    obtain ⟨hx, hy⟩ := k345 (.inl k)
    have := mn (.inl h) (.inl k)
    rw [if_pos k] at this
    intro p hp
    rw [List.mem_singleton] at hp; subst hp
    refine lighter_left rfl h (fun j hj => ?_) (.inl rfl)
    rcases add_has' hy hj with rfl | hj
    · exact .inr (by omega)
    rcases add_has' hx hj with rfl | hj
    · exact .inr (by omega)
    · exact .inl (del_has' hj)
  | atom h k c a =>
    obtain ⟨hx, hy⟩ := k345 (.inr (.inr k))
    have := mn (.inl h) (.inr (.inr k))
    rw [if_neg (by omega)] at this
    intro p hp
    rw [List.mem_singleton] at hp; subst hp
    refine lighter_left rfl h (fun j hj => ?_) (.inl rfl)
    rcases add_has' hy hj with rfl | hj
    · exact .inr (by omega)
    · exact .inl (del_has' hj)
  | botL h k c =>
    intro p hp
    rw [List.mem_singleton] at hp; subst hp
    exact lighter_left rfl h (fun j hj => .inl (del_has' hj)) (.inl rfl)
  | impR g k =>
    obtain ⟨hx, hy⟩ := k345 (.inr (.inr k))
    have := mn (.inr g) (.inr (.inr k))
    rw [if_neg (by omega)] at this
    intro p hp
    rw [List.mem_singleton] at hp; subst hp
    refine lighter_right (by rw [g]) (fun j hj => ?_) (by show wt W (nd M i).r < _; omega)
    rcases add_has' hx hj with rfl | hj
    · exact .inr (by omega)
    · exact .inl hj
  | andR g k =>
    have := mn (.inr g) (.inl k)
    rw [if_pos k] at this
    intro p hp
    simp only [List.mem_cons, List.not_mem_nil, or_false] at hp
    rcases hp with rfl | rfl
    · exact lighter_right (by rw [g]) (fun j hj => .inl hj) (by show wt W (nd M i).l < _; omega)
    · exact lighter_right (by rw [g]) (fun j hj => .inl hj) (by show wt W (nd M i).r < _; omega)
  | orL h k =>
    obtain ⟨hx, hy⟩ := k345 (.inr (.inl k))
    have := mn (.inl h) (.inr (.inl k))
    rw [if_neg (by omega)] at this
    intro p hp
    simp only [List.mem_cons, List.not_mem_nil, or_false] at hp
    rcases hp with rfl | rfl
    · refine lighter_left rfl h (fun j hj => ?_) (.inl rfl)
      rcases add_has' hx hj with rfl | hj
      · exact .inr (by omega)
      · exact .inl (del_has' hj)
    · refine lighter_left rfl h (fun j hj => ?_) (.inl rfl)
      rcases add_has' hy hj with rfl | hj
      · exact .inr (by omega)
      · exact .inl (del_has' hj)
  | orR1 g k =>
    have := mn (.inr g) (.inr (.inl k))
    rw [if_neg (by omega)] at this
    intro p hp
    rw [List.mem_singleton] at hp; subst hp
    exact lighter_right (by rw [g]) (fun j hj => .inl hj) (by show wt W (nd M i).l < _; omega)
  | orR2 g k =>
    have := mn (.inr g) (.inr (.inl k))
    rw [if_neg (by omega)] at this
    intro p hp
    rw [List.mem_singleton] at hp; subst hp
    exact lighter_right (by rw [g]) (fun j hj => .inl hj) (by show wt W (nd M i).r < _; omega)
  | conj h k c e1 e2 =>
    have m1 := mn (.inl h) (.inr (.inr k))
    have m2 := mn2 h k (.inl c)
    rw [if_neg (by omega)] at m1
    rw [if_pos c] at m2
    obtain ⟨n1, w1, i1, q1, l1⟩ := put_nd hw e1
    obtain ⟨n2, w2, i2, q2, l2⟩ := put_nd w1 e2
    generalize hA1 : putS M (impN (nd M (nd M i).l).r (nd M i).r) = A1 at n1 w1 i1 q1 l1 n2 w2 i2 q2 l2 hW e1 e2 ⊢
    generalize hA2 : putS A1.1 (impN (nd M (nd M i).l).l A1.2.1) = A2 at n2 w2 i2 q2 l2 hW e2 ⊢
    have v1 := w_new hW (inb_mono i1 l2) (by rw [q2 _ i1]; exact n1)
    have v2 := w_new hW i2 n2
    intro p hp
    rw [List.mem_singleton] at hp; subst hp
    refine lighter_left rfl h (fun j hj => ?_) (.inl rfl)
    rcases add_has' (in1024 w2.len i2) hj with rfl | hj
    · exact .inr (by omega)
    · exact .inl (del_has' hj)
  | disj h k c e1 e2 =>
    have m1 := mn (.inl h) (.inr (.inr k))
    have m2 := mn2 h k (.inr (.inl c))
    rw [if_neg (by omega)] at m1 m2
    obtain ⟨n1, w1, i1, q1, l1⟩ := put_nd hw e1
    obtain ⟨n2, w2, i2, q2, l2⟩ := put_nd w1 e2
    generalize hA1 : putS M (impN (nd M (nd M i).l).l (nd M i).r) = A1 at n1 w1 i1 q1 l1 n2 w2 i2 q2 l2 hW e1 e2 ⊢
    generalize hA2 : putS A1.1 (impN (nd M (nd M i).l).r (nd M i).r) = A2 at n2 w2 i2 q2 l2 hW e2 ⊢
    have v1 := w_new hW (inb_mono i1 l2) (by rw [q2 _ i1]; exact n1)
    have v2 := w_new hW i2 n2
    intro p hp
    rw [List.mem_singleton] at hp; subst hp
    refine lighter_left rfl h (fun j hj => ?_) (.inl rfl)
    rcases add_has' (in1024 w2.len i2) hj with rfl | hj
    · exact .inr (by omega)
    rcases add_has' (in1024 w1.len i1) hj with rfl | hj
    · exact .inr (by omega)
    · exact .inl (del_has' hj)
  | impL h k c e1 =>
    have m1 := mn (.inl h) (.inr (.inr k))
    have m2 := mn2 h k (.inr (.inr c))
    rw [if_neg (by omega)] at m1 m2
    obtain ⟨hx, hy⟩ := k345 (.inr (.inr k))
    obtain ⟨n1, w1, i1, q1, l1⟩ := put_nd hw e1
    generalize hA1 : putS M (impN (nd M (nd M i).l).r (nd M i).r) = A1 at n1 w1 i1 q1 l1 hW e1 ⊢
    have v1 := w_new hW i1 n1
    intro p hp
    simp only [List.mem_cons, List.not_mem_nil, or_false] at hp
    rcases hp with rfl | rfl
    · refine lighter_left rfl h (fun j hj => ?_) (.inr (by show wt W (nd M i).l < _; omega))
      rcases add_has' (in1024 w1.len i1) hj with rfl | hj
      · exact .inr (by omega)
      · exact .inl (del_has' hj)
    · refine lighter_left rfl h (fun j hj => ?_) (.inl rfl)
      rcases add_has' hy hj with rfl | hj
      · exact .inr (by omega)
      · exact .inl (del_has' hj)
theorem wts_unique {N : List Nd} {W V : List Int} (hw : Wf N) (h1 : Wts N W N.length) (h2 : Wts N V N.length) : ∀ (n : Nat) (i : Int), i < n → inb i N.length = true → wt W i = wt V i := by
  intro n
  induction n with
  | zero => intro i hi hb; have := inb_ex hb; omega
  | succ n ih =>
    intro i hi hb
    have h := inb_ex hb
    rw [(h1 i h.1 h.2).1, (h2 i h.1 h.2).1]
    unfold wOf
    by_cases h12 : (nd N i).kind = 1 ∨ (nd N i).kind = 2
    · rw [if_pos h12, if_pos h12]
    · have hk : (nd N i).kind = 3 ∨ (nd N i).kind = 4 ∨ (nd N i).kind = 5 := by have := hw.kind i hb; omega
      have := hw.kids i hb hk
      rw [if_neg h12, if_neg h12, ih _ (by omega) (hw.left hb hk), ih _ (by omega) (hw.right hb hk)]
theorem fms_inb {N : List Nd} {s : Sq} (hl : lookV N s = true) : ∀ x ∈ fms s, inb x N.length = true := by
  obtain ⟨l1, l2⟩ := lookV_iff.1 hl
  intro x hx
  rcases List.mem_append.1 hx with hx | hx
  · obtain ⟨j, hj, rfl⟩ := List.mem_map.1 hx
    exact l1 j (Bits.mem_list.1 hj).2
  · rw [List.mem_singleton.1 hx]; exact l2
theorem fms_len (s : Sq) : (fms s).length ≤ 1025 ∧ fms s ≠ [] := by
  have hll := list_le s.left
  unfold fms
  exact ⟨by simp; omega, by simp⟩
theorem forN_go {ρ σ : Type} {b : Int → σ → Option (Stp σ ρ)} {x : σ} : ∀ (n i : Nat), (∀ j : Nat, i ≤ j → j < i + n → b j x = some (.go x)) → forN b n i x = some (.inl x)
  | 0, i, _ => by simp [forN]
  | n + 1, i, h => by
    rw [forN, h i (Nat.le_refl _) (by omega)]
    have := forN_go (b := b) (x := x) n (i + 1) fun j h1 h2 => h j (by omega) (by omega)
    simpa using this
theorem pick_inb7 {n : Nat} (h0 : n ≠ 0) (hn : n ≤ 4096) (p : Int) : inb (IntKind.i64.wrap (Int.tmod (IntKind.u64.wrap (Int.tdiv (IntKind.u64.wrap p) 7)) (IntKind.u64.wrap (n : Int)))) n = true ∧ IntKind.u64.wrap (n : Int) ≠ 0 :=
  pick_inb h0 hn _
theorem prem_len {M N : List Nd} {s : Sq} {i r : Int} {L : List Sq} (h : PremR M s i r N L) : L.length ≤ 2 := by cases h <;> simp
theorem RuleFalls_step {k : Nat} (hk : 4096 ≤ k) {M : List Nd} {s : Sq} {picks : List Int} {i : Nat} (hw : Wf M) (hb : s.left.okB = true) :
    ∃ q, law09_RuleFalls.b0 picks k i (some M) s = some q ∧ ((∃ T t, q = .brk (T, t)) ∨ ∃ N t, q = .go (some N, t) ∧ Wf N ∧ t.left.okB = true) := by
  unfold law09_RuleFalls.b0
  obtain ⟨T, L, r, ok, h1, h2⟩ := next_some (at_ (0 : Int) picks i) hw hb
  rw [h1]
  simp only [Option.bind_some]
  by_cases hbk : (!ok || decide (((L.length : Nat) : Int) = 0)) = true
  · rw [if_pos hbk]; exact ⟨_, rfl, .inl ⟨_, _, rfl⟩⟩
  · rw [if_neg hbk]
    simp only [Bool.or_eq_true, Bool.not_eq_true', decide_eq_true_eq, not_or, Bool.not_eq_false] at hbk
    have hL : L ≠ [] := fun e => hbk.2 (by rw [e]; rfl)
    obtain ⟨hl, N, j, rfl, hf, hp⟩ := h2 hbk.1
    have hj := fits_inb hf
    obtain ⟨wN, lN, qN, pN⟩ := prem_wf hw hb hl hj hp
    have hlN : lookV N s = true := by
      obtain ⟨k1, k2⟩ := lookV_iff.1 hl
      exact lookV_iff.2 ⟨fun j hj => inb_mono (k1 j hj) lN, inb_mono k2 lN⟩
    obtain ⟨W, R, g1, g2, g3, g4, g5⟩ := weights_some wN hb hlN hk
    obtain ⟨f1, f2⟩ := fms_len s
    have hRl : R.length = (fms s).length := by rw [g5.length_eq]; simp
    have hR0 : inb 0 R.length = true := by
      rw [show (0 : Int) = ((0 : Nat) : Int) from rfl, inb_nat, hRl]
      have : (fms s).length ≠ 0 := fun e => f2 (List.length_eq_zero_iff.1 e)
      simp; omega
    simp only [formula_Table_Rows.f, Option.getD_some, Option.bind_some, docRight hb, hlN, Bool.not_true, Bool.false_eq_true, if_false, g1, chk, hR0, if_true]
    by_cases hbig : (1152921504606846976 : Int) ≤ at_ 0 R 0
    · rw [if_pos (decide_eq_true hbig)]; exact ⟨_, rfl, .inl ⟨_, _, rfl⟩⟩
    · rw [if_neg (by simpa using hbig)]
      have hc : ∀ x ∈ fms s, wt W x < 1152921504606846976 := by
        intro x hx
        have hm : wt W x ∈ R := g5.mem_iff.2 (List.mem_map.2 ⟨x, hx, rfl⟩)
        cases R with
        | nil => cases hm
        | cons y R =>
          have hy : at_ 0 (y :: R) 0 = y := rfl
          rw [hy] at hbig
          rcases List.mem_cons.1 hm with e | e
          · omega
          · have := (List.pairwise_cons.1 g4).1 _ e; omega
      have hfall := prem_falls hw hb hl hj hp g3 hc hL
      have hloop := forN_go (b := fun i (s_1 : Sq) => law09_RuleFalls.b1 N (some N, L, r, ok) k i s_1) (x := s) L.length 0 (fun j' _ hj' => by
        have hj'' : j' < L.length := by omega
        have hm : at_ Sq.z L (j' : Int) = L[j'] := by simp [at_, List.getD_eq_getElem?_getD, hj'']
        obtain ⟨b1, b2⟩ := pN L[j'] (List.getElem_mem hj'')
        obtain ⟨W2, R2, d1, d2, d3, d4, d5⟩ := weights_some wN b1 b2 hk
        have hperm : R2.Perm ((fms L[j']).map (wt W)) := by
          refine d5.trans ?_
          rw [List.map_congr_left fun x hx => ?_]
          have := fms_inb b2 x hx
          exact wts_unique wN d3 g3 (x.toNat + 1) x (by omega) this
        have hless : lessV R2 R = true := by
          obtain ⟨z1, z2⟩ := hfall L[j'] (List.getElem_mem hj'')
          refine less_of_count (m := wt W j) d4 g4 (fun u hu => ?_) ?_
          · rw [hperm.count_eq, g5.count_eq]; exact z1 u hu
          · rw [hperm.count_eq, g5.count_eq]; exact z2
        have hR2l : R2.length ≤ 1025 := by rw [hperm.length_eq, List.length_map]; exact (fms_len _).1
        unfold law09_RuleFalls.b1
        simp only [hm, docRight b1, b2, Option.bind_some, Bool.not_true, Bool.not_false, chk, if_true, d1, g1]
        rw [less_some (by omega) (by omega) hk, hless]
        rfl)
      have e0 : (((L.length : Nat) : Int) - 0).toNat = L.length := by omega
      have hLl := prem_len hp
      obtain ⟨p1, p2⟩ := pick_inb7 (n := L.length) (fun e => hL (List.length_eq_zero_iff.1 e)) (by omega) (at_ (0 : Int) picks i)
      change forN (fun i (s_1 : Sq) => law09_RuleFalls.b1 N (some N, L, r, ok) k i s_1) L.length (0 : Int) s = some (.inl s) at hloop
      rw [e0, hloop]
      simp only [Option.bind_some, aft, p1, if_true]
      rw [if_pos (decide_eq_true p2)]
      refine ⟨_, rfl, .inr ⟨N, _, rfl, wN, ?_⟩⟩
      have p3 := inb_ex p1
      generalize IntKind.i64.wrap (Int.tmod (IntKind.u64.wrap (Int.tdiv (IntKind.u64.wrap (at_ (0 : Int) picks i)) 7)) (IntKind.u64.wrap (L.length : Int))) = t at p3 ⊢
      have ht : t.toNat < L.length := by omega
      have hm : at_ Sq.z L t = L[t.toNat] := by simp [at_, List.getD_eq_getElem?_getD, ht]
      rw [hm]
      exact (pN _ (List.getElem_mem ht)).1
theorem RuleFalls_true {k : Nat} (hk : 4096 ≤ k) {rows : List Nd} {s : Sq} {picks : List Int} (hn : ∀ n ∈ rows, n.name.size < 9223372036854775808) (hl : rows.length * 40 ≤ 140737488355328) (hb : s.left.okB = true) : law09_RuleFalls.f k rows s picks = some true := by
  unfold law09_RuleFalls.f
  rcases both_some hn hl with h | ⟨h, hw⟩
  · rw [h]; simp [heads09]
  · rw [h]
    simp only [Option.bind_some, Bool.not_true, Bool.false_eq_true, if_false]
    have main : ∀ (n i : Nat) (M : List Nd) (s : Sq), Wf M → s.left.okB = true → ∃ T t, forN (fun i (s_1 : Tb × Sq) => law09_RuleFalls.b0 picks k i s_1.1 s_1.2) n i (some M, s) = some (.inl (T, t)) := by
      intro n
      induction n with
      | zero => intro i M s _ _; exact ⟨_, _, rfl⟩
      | succ n ih =>
        intro i M s hw hb
        obtain ⟨q, h1, h2⟩ := RuleFalls_step hk (picks := picks) (i := i) hw hb
        rw [forN]
        simp only [h1, Option.bind_some]
        rcases h2 with ⟨T, t, rfl⟩ | ⟨N, t, rfl, wN, bt⟩
        · exact ⟨T, t, rfl⟩
        · obtain ⟨T, t', h3⟩ := ih (i + 1) N t wN bt
          exact ⟨T, t', by simpa using h3⟩
    obtain ⟨T, t, h3⟩ := main ((picks.length : Int) - 0).toNat 0 rows s hw hb
    change forN (fun i (s_1 : Tb × Sq) => law09_RuleFalls.b0 picks k i s_1.1 s_1.2) ((picks.length : Int) - 0).toNat (0 : Int) (some rows, s) = _ at h3
    rw [h3]
    simp [aft, heads09]
end Go.Proofs.YtjjkhjieegmphaaDoor
end
section
namespace Go.Proofs.YtjjkhjieegmphaaDoor
open Gw Go.ChangeShapes Go.WideShapes Go.ChangeAt Go.RowKit
set_option linter.unusedVariables false
set_option maxRecDepth 100000
theorem ownKnob_none : ownKnob PP.godebug = none := by kernel_rfl
theorem laidOut_PP : laidOutB PP = true := by kernel_rfl
theorem gTab : PP.globalNamed "math/bits.deBruijn64tab" = some 0 := by kernel_rfl
/-- arguments read as they did -/
theorem trodAll_stays {H : Type} {enc : TypeId × Value → H} {W W' : World} {sp : Nat → Bool} : ∀ {ts : List TypeId} {vs : List Value} {ds : List (DataW H)} {ps : List MemPlace}, (∀ t ∈ ts, PP.readableRec t = true ∧ t < PP.types.size) →
    DataW.TrodAll enc PP W 0 (fun _ => true) true ts vs ds ps → (∀ p ∈ ps, W.sameAt W' p) → (∀ p ∈ ps, sp p.block = true) → DataW.TrodAll enc PP W' 0 sp true ts vs ds ps
  | [], vs, ds, ps, _, h, _, _ => by
    obtain ⟨rfl, rfl, rfl⟩ := trodAll_nil h
    exact trodAll_mk0
  | t :: ts, vs, ds, ps, hr, h, h1, h2 => by
    obtain ⟨v, vs, d, ds, p, q, rfl, rfl, rfl, h0, h3⟩ := trodAll_cons h
    have ht := hr t (by simp)
    exact trodAll_cons_mk (WideElems.Trod_stays laidOut_PP ht.1 ht.2 h0 (fun x hx => h1 x (by simp [hx])) (fun x hx => h2 x (by simp [hx])))
      (trodAll_stays (fun t ht => hr t (by simp [ht])) h3 (fun x hx => h1 x (by simp [hx])) (fun x hx => h2 x (by simp [hx])))
/-- no blocks of others -/
def oth0 : Oth := ⟨fun _ => False, [], fun _ h => by cases h⟩
/-- the table of trailing zeros, as the rows lay it -/
def tzs : List Int := Lib.deBruijn64tab.map fun (z : Nat) => (z : Int)
theorem tz_of {W : World} (h : laidMetH PP Rows.ruleNobodyRow.laid W) : Tz W := by
  have ht : Lib.TabIs PP W "math/bits.deBruijn64tab" .u8 tzs := Lib.tabIs_of_head (rest := []) gTab (t := T_64_uint8) (e := T_uint8) (n := 64) (by kernel_rfl) ar_64_uint8.1 (by kernel_rfl) (by kernel_rfl) (by kernel_rfl) h
  intro i v hv
  have hi : i < Lib.deBruijn64tab.length := by
    have := (List.getElem?_eq_some_iff.1 hv).1
    simpa using this
  have h1 := ht.cell gTab i (by simpa [tzs] using hi)
  rw [List.getElem?_map, List.getElem?_eq_getElem hi] at hv
  cases hv
  rw [Nat.zero_add, h1]
  simp [tzs, List.getD, hi]
section
variable {P : Program} {W : World} {b t : Nat} {k : IntKind} {v : Value}
theorem cell_int (ht : P.underlying t = some (.int k)) (h : Cell.okWide P W .any b t v) : ∃ n, v = .int k n ∧ k.has n := by
  simp only [Cell.okWide, ht] at h
  cases v <;> simp_all [Cell.ok]
theorem agg_of {n : Nat} {ts : List TypeId} (ht : AggT P t n) (h : Value.okWide P W .any b t v) (hts : P.cellTypes P.depth t = some ts) (hc : P.cellsOf t = n) (hn : ts.length = n) :
    ∃ cs : List Value, v = .agg cs.toArray ∧ cs.length = n ∧ ∀ (i : Nat) (v : Value) (u : TypeId), cs[i]? = some v → ts[i]? = some u → Cell.okWide P W .any b u v := by
  obtain ⟨⟨d, ht, hk⟩, -⟩ := ht
  have h : ∃ cs, v = .agg cs ∧ cs.size = P.cellsOf t ∧ Row.okWide P W .any b t cs := by
    unfold Value.okWide at h
    rw [ht] at h
    cases d <;> first | exact h | cases hk
  obtain ⟨cs, rfl, hsz, ts', hts', -, hcell⟩ := h
  obtain rfl := Option.some.inj (hts'.symm.trans hts)
  refine ⟨cs.toList, rfl, by simpa using hsz.trans hc, fun i v u hv hu => ?_⟩
  obtain ⟨u', hu', h1⟩ := hcell i v (by simpa using hv)
  rw [Nat.mod_eq_of_lt (List.getElem?_eq_some_iff.1 hu).1] at hu'
  rw [hu'] at hu; cases hu
  exact h1
end
def intOf : Value → Int | .int _ n => n | _ => 0
def ts_Sq : List TypeId := List.replicate 16 T_uint64 ++ [T_int]
theorem ct_Sq : PP.cellTypes PP.depth T_Sq = some ts_Sq := by kernel_rfl
theorem co_Sq : PP.cellsOf T_Sq = 17 := by kernel_rfl
/-- the bits of 16 cells -/
def bitsOf (l : List Value) : Bits := Vector.ofFn fun i : Fin 16 => intOf (l.getD i .nilFunc)
theorem sq_of {W : World} {b : Nat} {v : Value} (h : Value.okWide PP W .any b T_Sq v) : ∃ a : Sq, v = .agg (Sq.C a).toArray ∧ a.left.okB = true ∧ IntKind.i64.has a.goal := by
  obtain ⟨cs, rfl, hl, hc⟩ := agg_of (P := PP) (t := T_Sq) (ts := ts_Sq) ag_Sq h ct_Sq co_Sq rfl
  have hl : cs.length = 17 := hl
  have h16 : ∀ i, i < 16 → ∃ n, cs[i]? = some (.int .u64 n) ∧ IntKind.u64.has n := fun i hi => by
    obtain ⟨n, e, hn⟩ := cell_int un_uint64 (hc i cs[i] T_uint64 (List.getElem?_eq_getElem (by omega)) (by rw [ts_Sq, List.getElem?_append_left (by simpa using hi), List.getElem?_replicate, if_pos hi]))
    exact ⟨n, by rw [List.getElem?_eq_getElem (by omega), e], hn⟩
  obtain ⟨g, e, hg⟩ := cell_int un_int (hc 16 cs[16] T_int (List.getElem?_eq_getElem (by omega)) rfl)
  refine ⟨⟨bitsOf cs, g⟩, ?_, ?_, hg⟩
  · congr 2
    refine List.ext_getElem? fun i => ?_
    by_cases hi : i < 16
    · obtain ⟨n, hn, _⟩ := h16 i hi
      rw [hn, Sq.C, List.getElem?_append_left (by rw [Bits.len]; exact hi), Bits.get _ _ hi]
      simp [bitsOf, hn, intOf, List.getD]
    · by_cases h2 : i = 16
      · subst h2; rw [Sq.get_goal, List.getElem?_eq_getElem (by omega), e]
      · rw [List.getElem?_eq_none (by omega), List.getElem?_eq_none (by rw [Sq.len]; omega)]
  · unfold Bits.okB
    rw [List.all_eq_true]
    intro x hx
    obtain ⟨i, hi⟩ := List.getElem?_of_mem hx
    have hi16 : i < 16 := by have := (List.getElem?_eq_some_iff.1 hi).1; simpa using this
    obtain ⟨n, hn, hh⟩ := h16 i hi16
    have hxn : x = n := by
      have := (List.getElem?_eq_some_iff.1 hi).2
      rw [← this]; simp [bitsOf, hn, intOf, List.getD]
    subst hxn
    have h2 : 0 ≤ x ∧ x ≤ 18446744073709551615 := hh
    simp only [Bool.and_eq_true, decide_eq_true_eq]
    omega
end Go.Proofs.YtjjkhjieegmphaaDoor
end
section
namespace Go.Proofs.YtjjkhjieegmphaaDoor
open Gw Go.ChangeShapes Go.WideShapes Go.ChangeAt Go.RowKit
set_option linter.unusedVariables false
set_option maxRecDepth 100000
section
variable {H : Type} {enc : TypeId × Value → H} {P : Program} {W : World} {t : TypeId} {fuel : Nat} {cs : List Value} {x : DataW H × List MemPlace} {sp : Nat → Bool} {hd : Bool} {b0 : Nat}
theorem take_one {l : List Value} {o : Nat} {v : Value} (h : (l.drop o).take 1 = [v]) : l[o]? = some v := by
  have : ((l.drop o).take 1)[0]? = some v := by rw [h]; rfl
  rw [List.getElem?_take] at this
  simpa using this
theorem fld_int {i off ft : Nat} {k : IntKind} (hf : FieldV P t i off ft) (hk : P.underlying ft = some (.int k)) (hc : P.cellsOf ft = 1) (h : DataW.trod enc P W b0 sp hd fuel t cs = some x) : ∃ n, cs[off]? = some (.int k n) := by
  obtain ⟨fs, fd, hu, hi, rfl, rfl⟩ := hf
  obtain ⟨xs, n, _, _, hl, hx, hall⟩ := DataW.trod_struct hu h
  have h1 := hall i fd hi
  have h2 : i < xs.length := by rw [hx]; exact (Array.getElem?_eq_some_iff.1 hi).1
  rw [List.getElem?_eq_getElem h2, hc] at h1
  obtain ⟨n, e, _⟩ := DataW.trod_int hk h1
  exact ⟨n, take_one e⟩
theorem fld_str {i off ft : Nat} (hf : FieldV P t i off ft) (hk : P.underlying ft = some .string) (hc : P.cellsOf ft = 1) (h : DataW.trod enc P W b0 sp hd fuel t cs = some x) : ∃ s : ByteArray, cs[off]? = some (.string s) ∧ s.size ≤ maxLen := by
  obtain ⟨fs, fd, hu, hi, rfl, rfl⟩ := hf
  obtain ⟨xs, n, _, _, hl, hx, hall⟩ := DataW.trod_struct hu h
  have h1 := hall i fd hi
  have h2 : i < xs.length := by rw [hx]; exact (Array.getElem?_eq_some_iff.1 hi).1
  rw [List.getElem?_eq_getElem h2, hc] at h1
  obtain ⟨s, e, _, hs⟩ := DataW.trod_string hk h1
  exact ⟨s, take_one e, hs⟩
/-- a slice whose elements are told one by one -/
theorem slice_of {α : Type} [Inhabited α] {e k : Nat} {C : α → List Value} {Q : α → Prop} {base : Nat} {v : Value} {d : DataW H} {ps : List MemPlace} (ht : P.underlying t = some (.slice e)) (hk : P.cellsOf e = k) (hC : ∀ a, (C a).length = k) (hk0 : 0 < k)
    (hel : ∀ (n : Nat) (cs : List Value) (x : DataW H × List MemPlace), DataW.trod enc P W 0 (fun _ => true) true n e cs = some x → ∃ a, cs = C a ∧ Q a)
    (hval : Value.okWide P W .any base t v) (h : DataW.Trod enc P W 0 (fun _ => true) true t v d ps) :
    ∃ (l : List α) (s : SlV), v = s.v ∧ Rd W k s (l.map C) ∧ (∀ a ∈ l, Q a) ∧ (l = [] ∨ ∃ elems spare, d = .slice elems spare ∧ elems.length = l.length) := by
  obtain ⟨a0, len0, cap0, rfl⟩ := okWide_slice ht hval
  obtain ⟨fuel, hf⟩ := h
  rcases Deep.open_slice ht hf with ⟨h1, h2⟩ | ⟨a, len, cap, m, n, D, Pl, h1, _, hlc, hcm, hm, h2, hx⟩
  · simp [Value.cells] at h1
    obtain ⟨rfl, rfl, rfl⟩ := h1
    exact ⟨[], SlV.nil, SlV.nil_eq, Rd.nil W k, by simp, .inl rfl⟩
  · simp [Value.cells] at h1
    obtain ⟨rfl, rfl, rfl⟩ := h1
    have hval2 := hval
    simp only [Value.okWide, ht, Cell.okWide, Cell.ok] at hval2
    obtain ⟨_, _, _, hspot, row, cells, hshape, _⟩ := hval2
    obtain ⟨ab, ao, asp⟩ := a
    obtain rfl : asp = none := hspot
    simp only at hshape
    have hlt : ab < W.heap.size := by
      unfold World.shape? at hshape
      cases hh : W.heap[ab]? with
      | none => rw [hh] at hshape; cases hshape
      | some o => exact (Array.getElem?_eq_some_iff.1 hh).1
    have hmc : m = cap0 := by rw [hm]; rfl
    obtain ⟨f, hfx⟩ := Deep.choose_lt (α := α) (n := len0) (p := fun i y => W.cells? 0 ((⟨ab, ao, none⟩ : Addr).add (i * P.cellsOf e)) (P.cellsOf e) = some (C y) ∧ Q y) (fun i hi => by
      obtain ⟨cs', hc, ht'⟩ := hx i (by omega)
      obtain ⟨y, rfl, hq⟩ := hel _ _ _ ht'
      exact ⟨y, hc, hq⟩)
    refine ⟨(List.range len0).map f, ⟨some ⟨ab, ao, none⟩, len0, cap0⟩, by rw [SlV.eq], ⟨⟨by simp, ?_, ?_⟩, ?_, hlc⟩, ?_, .inr ⟨_, _, by simpa using congrArg Prod.fst h2, by simp⟩⟩
    · intro r hr
      obtain ⟨y, _, rfl⟩ := List.mem_map.1 hr
      exact hC y
    · intro i r hr
      rw [List.getElem?_map, List.getElem?_map] at hr
      have hi : i < len0 := by
        refine Nat.lt_of_not_le fun q => ?_
        rw [List.getElem?_eq_none (by simpa using q)] at hr; cases hr
      rw [List.getElem?_eq_getElem (by simpa using hi)] at hr
      simp only [List.getElem_range, Option.map_some, Option.some.injEq] at hr
      subst hr
      obtain ⟨h3, _⟩ := hfx i hi
      obtain ⟨_, hl, hc⟩ := World.cells?_some h3
      refine ⟨rfl, fun j v hv => ?_⟩
      have hj : j < k := by have := (List.getElem?_eq_some_iff.1 hv).1; rw [hC] at this; exact this
      have h4 := hc j (by rw [hk]; exact hj)
      rw [hv] at h4
      have hadd : ((⟨ab, ao, none⟩ : Addr).add (i * P.cellsOf e)).add j = ⟨ab, ao + i * k + j, none⟩ := by
        rw [hk]
        unfold Addr.add
        by_cases h5 : i * k = 0
        · by_cases h6 : j = 0
          · simp [h5, h6]
          · simp [h5, h6]
        · by_cases h6 : j = 0
          · simp [h5, h6]
          · simp [h5, h6]
      rw [hadd] at h4
      exact h4
    · rintro i ⟨_, rfl⟩
      exact hlt
    · intro y hy
      obtain ⟨i, hi, rfl⟩ := List.mem_map.1 hy
      exact (hfx i (List.mem_range.1 hi)).2
end
instance : Inhabited Nd := ⟨Nd.z⟩
theorem nds_of {H : Type} {enc : TypeId × Value → H} {W : World} {base : Nat} {v : Value} {d : DataW H} {ps : List MemPlace} (hval : Value.okWide PP W .any base T_L_api_Node v) (h : DataW.Trod enc PP W 0 (fun _ => true) true T_L_api_Node v d ps) :
    ∃ (l : List Nd) (s : SlV), v = s.v ∧ Rd W 4 s (l.map Nd.C) ∧ (∀ a ∈ l, a.name.size < 9223372036854775808) ∧ (l = [] ∨ ∃ elems spare, d = .slice elems spare ∧ elems.length = l.length) := by
  refine slice_of sl_L_api_Node.1 (by kernel_rfl) Nd.len (by decide) (fun n cs x hx => ?_) hval h
  obtain ⟨a, ha⟩ := fld_int fv_Nd_kind un_api_Kind (by kernel_rfl) hx
  obtain ⟨b, hb, hbs⟩ := fld_str fv_Nd_name un_string (by kernel_rfl) hx
  obtain ⟨c, hc⟩ := fld_int fv_Nd_l un_int (by kernel_rfl) hx
  obtain ⟨d, hd⟩ := fld_int fv_Nd_r un_int (by kernel_rfl) hx
  obtain ⟨fs, fd, hu, _⟩ := fv_Nd_kind
  obtain ⟨xs, n', _, _, hl, _⟩ := DataW.trod_struct hu hx
  have hl : cs.length = 4 := hl.trans (by kernel_rfl)
  refine ⟨⟨a, b, c, d⟩, ?_, by have : maxLen = 9223372036854775807 := rfl; show b.size < _; omega⟩
  match cs, hl with
  | [v0, v1, v2, v3], _ =>
    simp at ha hb hc hd
    subst ha hb hc hd
    rfl
theorem bulk_one {H : Type} (d : DataW H) : 1 ≤ Rows.uptoBulk d := by
  cases d with
  | lit l => cases l <;> simp [Rows.uptoBulk]
  | nil => simp [Rows.uptoBulk]
  | ptr d => simp [Rows.uptoBulk]
  | slice elems spare => simp [Rows.uptoBulk]
  | agg parts => simp [Rows.uptoBulk]
  | iface t d => simp [Rows.uptoBulk]
  | map entries => simp [Rows.uptoBulk]
  | held h => simp [Rows.uptoBulk]
theorem bulk_part {H : Type} {d : DataW H} {l : List (DataW H)} (h : d ∈ l) : Rows.uptoBulk d ≤ Rows.uptoBulkAll l := by
  induction l with
  | nil => cases h
  | cons x r ih =>
    simp only [Rows.uptoBulkAll]
    cases List.mem_cons.1 h with
    | inl e => subst e; omega
    | inr e => have := ih e; omega
theorem bulk_len {H : Type} (l : List (DataW H)) : l.length ≤ Rows.uptoBulkAll l := by
  induction l with
  | nil => simp [Rows.uptoBulkAll]
  | cons x r ih => have := bulk_one x; simp only [Rows.uptoBulkAll, List.length_cons]; omega
/-- a slice that a small input reads is short -/
theorem small_len {H : Type} {α : Type} {l : List α} {d : DataW H} {ds : List (DataW H)} (hk : Rows.uptoSmall H ds = true) (hd : d ∈ ds) (h : l = [] ∨ ∃ elems spare, d = .slice elems spare ∧ elems.length = l.length) : l.length ≤ 1048576 := by
  rcases h with rfl | ⟨elems, spare, rfl, he⟩
  · simp
  · have h1 := bulk_part hd
    have h2 := bulk_len elems
    have h3 : Rows.uptoBulkAll ds ≤ 1048576 := by simpa [Rows.uptoSmall] using hk
    simp only [Rows.uptoBulk] at h1
    omega
end Go.Proofs.YtjjkhjieegmphaaDoor
end
section
namespace Go.Proofs.YtjjkhjieegmphaaDoor
open Gw Go.ChangeShapes Go.WideShapes Go.ChangeAt Go.RowKit
set_option linter.unusedVariables false
set_option maxRecDepth 100000
/-- pieces that all hold -/
def Held (W : World) (Z : List OA) : Prop := ∀ z ∈ Z, ∃ F, z.holds W F
theorem Held.nil {W : World} : Held W [] := fun _ h => by cases h
theorem Held.cons {W : World} {z : OA} {Z : List OA} (h : ∃ F, z.holds W F) (hz : Held W Z) : Held W (z :: Z) := fun x hx => by
  rcases List.mem_cons.1 hx with rfl | hx
  · exact h
  · exact hz x hx
theorem Held.s {W : World} {Z : List OA} {k : Nat} {α : Type} {C : α → List Value} {s : SlV} {l : List α} (hr : Rd W k s (l.map C)) (hl : l.length ≤ 140737488355328) (hz : Held W Z) : Held W (fS k C s l :: Z) :=
  .cons ⟨s.fp, ⟨hr, hl⟩, fun _ => Iff.rfl⟩ hz
theorem Held.tz {W : World} {Z : List OA} (h : Tz W) (hz : Held W Z) : Held W (oTz :: Z) := .cons ⟨fun i => i = 0, ⟨h, fun _ => Iff.rfl⟩⟩ hz
/-- what stays while a law runs -/
theorem stheld {W : World} {Z : List OA} (h : Held W Z) : St (fun _ => False) oth0 W W [] Z :=
  ⟨fun _ => False, fun _ h => h.elim, fun _ h => h.elim, Chg.refl _ _, trivial, fun z hz => by
    obtain ⟨F, hF⟩ := h z hz
    exact ⟨F, hF, fun i _ q => q.elim (fun x => x) (fun x => x)⟩, fun d hd => absurd hd (by simp [oth0])⟩
theorem ints_of {H : Type} {enc : TypeId × Value → H} {W : World} {base : Nat} {v : Value} {d : DataW H} {ps : List MemPlace} (hval : Value.okWide PP W .any base T_L_int v) (h : DataW.Trod enc PP W 0 (fun _ => true) true T_L_int v d ps) :
    ∃ (l : List Int) (s : SlV), v = s.v ∧ Rd W 1 s (l.map IC) ∧ (∀ a ∈ l, True) ∧ (l = [] ∨ ∃ elems spare, d = .slice elems spare ∧ elems.length = l.length) := by
  refine slice_of sl_L_int.1 (by kernel_rfl) (fun _ => rfl) (by decide) (fun n cs x hx => ?_) hval h
  obtain ⟨n, rfl, _⟩ := DataW.trod_int un_int hx
  exact ⟨n, rfl, trivial⟩
end Go.Proofs.YtjjkhjieegmphaaDoor
end
section
namespace Go.Proofs.YtjjkhjieegmphaaDoor
open Gw Go.ChangeShapes Go.WideShapes Go.ChangeAt Go.RowKit
set_option linter.unusedVariables false
set_option maxRecDepth 100000
namespace LawRuleFalls
theorem contract (H : Type) (enc : TypeId × Value → H) (W : World) (base : Nat) (args : Array Value) (ds gs : List (DataW H)) (before : List MemPlace)
    (hval : ∀ (j : Nat) t v, D_law09_RuleFalls.params[j]? = some t → args[j]? = some v → Value.okWide PP W .any base t v)
    (hW : DataW.Whole enc PP D_law09_RuleFalls.params.toList Rows.ruleFallsSpec.vars false W args.toList ds gs before) (hL : laidMetH PP Rows.ruleFallsUptoRow.laid W) (hsm : Rows.uptoSmall H (ds ++ gs) = true) :
    Calls PP F_law09_RuleFalls args W fun e W' => ∃ v, e = .returned v ∧ Rows.ruleFallsSpec.post enc PP D_law09_RuleFalls false true false false W args v W' := by
  have hW' := hW
  have hlt := hW.lt
  obtain ⟨p, q, hA0, hV, rfl, hfz, hnd⟩ := hW
  have hA : DataW.TrodAll enc PP W 0 (fun _ => true) true D_law09_RuleFalls.params.toList args.toList ds p := hA0
  have hpar : D_law09_RuleFalls.params = #[T_L_api_Node, T_Sq, T_L_int] := by kernel_rfl
  rw [hpar] at hA hval
  obtain ⟨v0, v1, v2, d0, d1, d2, p0, p1, p2, rfl, rfl, rfl, h0, h1, h2⟩ := trodAll_three hA
  obtain ⟨rfl, rfl⟩ := trodVars_none hV
  obtain ⟨a0, s0, rfl, hrd0, hnm0, hsl0⟩ := nds_of (hval 0 _ _ rfl rfl) h0
  have hln0 := small_len hsm (by simp) hsl0
  obtain ⟨a1, rfl, hb1, hg1⟩ := sq_of (hval 1 _ _ rfl rfl)
  obtain ⟨a2, s2, rfl, hrd2, hnm2, hsl2⟩ := ints_of (hval 2 _ _ rfl rfl) h2
  have hln2 := small_len hsm (by simp) hsl2
  have S := stheld (W := W) (.s hrd0 (by omega) (.s hrd2 (by omega) (.tz (tz_of hL) .nil)))
  refine (law09_RuleFalls_st S (RuleFalls_true (k := 4096) (picks := a2) (Nat.le_refl _) hnm0 (by omega) hb1)).mono fun e W' ⟨v, he, hv, hS⟩ => ?_
  subst hv
  have hx := hS.frame
  refine ⟨_, he, post_of_same (pa := p0 ++ p1 ++ p2) (pv := []) hW' (fun _ _ _ => trodAll_cons_mk (shut_bool un_bool _) trodAll_mk0) (fun sp hsp => ?_) (fun _ _ => rfl) (by simp) ((Ext.below hx).frame _) hx.froz (ok_one (by kernel_rfl) rfl (okWide_bool_mk un_bool _))⟩
  rw [hpar]
  refine trodAll_stays (ts := [T_L_api_Node, T_Sq, T_L_int]) (fun t ht => ?_) hA (fun p hp => (Ext.below hx).same (hlt p (by simpa using hp))) (fun p hp => hsp p (by simpa using hp))
  simp only [List.mem_cons, List.not_mem_nil, or_false] at ht
  rcases ht with rfl | rfl | rfl <;> exact ⟨by kernel_rfl, of_decide_eq_true (by kernel_rfl)⟩
/-- a world for the witness: the settled one, the table laid -/
noncomputable def laidWorld (os : Os) : World :=
  { World.holding PP os ⟨#[], #[], []⟩ with heap := (World.holding PP os ⟨#[], #[], []⟩).heap.modify 0 fun
      | .cells _ t frozen => .cells (tzs.map (Value.int .u8)).toArray t frozen
      | o => o }
def argsN : Array Value := #[.slice none 0 0, .agg (Sq.C Sq.z).toArray, .slice none 0 0]
theorem laid_met (os : Os) : laidMet PP Rows.ruleFallsUptoRow.laid ((laidWorld os).forCall (fun _ _ => 0) ⟨#[], argsN, []⟩).memory :=
  laidMet_of_run' 8 (by kernel_rfl) (by kernel_rfl)
def ddN (H : Type) : List (DataW H) := [.nil, .agg [.agg (List.replicate 16 (.lit (.int .u64 0))), .lit (.int .i64 0)], .nil]
theorem reads (os : Os) {H : Type} (enc : TypeId × Value → H) : ∃ places, DataW.whole enc PP ((laidWorld os).forCall (fun _ _ => 0) ⟨#[], argsN, []⟩).memory D_law09_RuleFalls.params.toList Rows.ruleFallsSpec.vars false argsN.toList 8 = some (ddN H, [], places) :=
  ⟨[], by kernel_rfl⟩
theorem lifted (os : Os) (started : os.Started) (H : Type) (enc : TypeId × Value → H) (F : Stop.Interp) :
    ReturnsInHanded {} Tryd.checked os F_law09_RuleFalls .any ((Rows.OpenSpec.upto Rows.ruleFallsSpec).preRow enc PP D_law09_RuleFalls Rows.ruleFallsUptoRow.domain false Rows.ruleFallsUptoRow.laid) (((Rows.OpenSpec.upto Rows.ruleFallsSpec).at F).post enc PP D_law09_RuleFalls false true false false) := by
  obtain ⟨places, hx⟩ := reads os enc
  refine returnsInHanded_of_row (C := Tryd.checked) (s := Rows.OpenSpec.upto Rows.ruleFallsSpec) ownKnob_none started (by kernel_rfl) fn_law09_RuleFalls
    (witness_row_at (enc := enc) (C := Tryd.checked) false (laidWorld os) argsN rfl (by kernel_rfl) (by kernel_rfl) (by kernel_rfl)
      (OpenSpec.preRow_of_cond 8 hx (by kernel_rfl) (fun k hk => by cases hk; kernel_rfl) (by kernel_rfl) (laid_met os))) ?_
  intro W base args ds gs before hval hW _ hcond _ hL _ _
  exact contract H enc W base args ds gs before hval hW hL (hcond _ rfl)
theorem said : Rows.RuleFallsUptoSaid :=
  OpenClaim.holds_of_cond F_law09_RuleFalls D_law09_RuleFalls rfl rfl rfl rfl rfl rfl rfl ⟨rfl, rfl, rfl, rfl, rfl⟩ rfl rfl rfl rfl rfl (by kernel_rfl) fn_law09_RuleFalls (by kernel_rfl)
    (of_decide_eq_true (by kernel_rfl)) (by unfold Func.isWrapper; first | (rw [if_pos (by decide +kernel)]; kernel_rfl) | (rw [if_neg (by decide +kernel)]; exact ⟨rfl, rfl⟩))
    (fun os started H enc _ F => by rw [OpenClaim.pre_eq_preRow]; exact lifted os started H enc F)
theorem plain (f : FuncId) (fn : Func) (hf : Tryd.pinned.checked.prog.funcNamed "dictum/dictumlaw09.RuleFalls" = some f) (hfn : Tryd.pinned.checked.prog.funcs[f]? = some fn) :
    false = Tryd.pinned.checked.prog.looks [] ∧ ∀ (j : Nat) t, fn.params[j]? = some t → Tryd.pinned.checked.prog.wantsStandIn t = false := by
  obtain rfl : f = F_law09_RuleFalls := Option.some.inj ((show PP.funcNamed "dictum/dictumlaw09.RuleFalls" = some F_law09_RuleFalls by kernel_rfl).symm.trans hf) |>.symm
  obtain rfl : fn = D_law09_RuleFalls := (Option.some.inj (fn_law09_RuleFalls.symm.trans hfn)).symm
  refine ⟨by kernel_rfl, fun j t ht => ?_⟩
  rw [show D_law09_RuleFalls.params = #[T_L_api_Node, T_Sq, T_L_int] by kernel_rfl] at ht
  have hm : t ∈ [T_L_api_Node, T_Sq, T_L_int] := by simpa using Array.mem_of_getElem? ht
  simp only [List.mem_cons, List.not_mem_nil, or_false] at hm
  rcases hm with rfl | rfl | rfl
  · exact (show PP.wantsStandIn T_L_api_Node = false by kernel_rfl)
  · exact (show PP.wantsStandIn T_Sq = false by kernel_rfl)
  · exact (show PP.wantsStandIn T_L_int = false by kernel_rfl)
theorem card : Rows.RuleFallsUptoCardSaid :=
  Claim7.holds_tied_plain_at .later [] _ _ _ _ said (fun _ h => by cases h) (by kernel_rfl) (fun _ h => by cases h) ruleFallsUpto_row_tie rfl ⟨rfl, rfl⟩ (by kernel_rfl) rfl plain (by kernel_rfl)
end LawRuleFalls
end Go.Proofs.YtjjkhjieegmphaaDoor
end
