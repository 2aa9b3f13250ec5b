/- RuleTruth, where what it reads is of the bulk that the row names: the row's statement and its card. The table of trailing zeros reads as the program lays it. Printed by card.py, a program of mine. -/
import Derived.Test.YtjjkhjieegmphaaDoorMTruth5
import Derived.Test.YtjjkhjieegmphaaDoorCards
import Derived.Test.YtjjkhjieegmphaaDoorTie
import Derived.WalkKit
import Derived.ProofKit
import Derived.OpenShut
import Derived.Deep.DeepHandedRow
import Derived.Lib.LaidTab
import Derived.Deep.Slices
section
namespace Go.Proofs.YtjjkhjieegmphaaDoor
open Gw
set_option linter.unusedVariables false
set_option linter.unusedSimpArgs false
/-- what Premises answers: an error, or what PremR tells -/
theorem Premises_rel {M : List Nd} {s : Sq} (r i : Int) (hw : Wf M) (hl : lookV M s = true) (hb : s.left.okB = true) :
    ∃ N L e, rule_Premises.f (some M) s r i = some (some N, L, e) ∧ (e = 0 → fitsV M s r i = true ∧ PremR M s i r N L) := by
  obtain ⟨N, L, e, h, _⟩ := prem_eq (r := r) (i := i) hw hl hb
  refine ⟨N, L, e, h, fun he => ?_⟩
  subst he
  unfold rule_Premises.f at h
  rw [look_some hb, hl, fits_some hb] at h
  simp only [if_true, ne_eq, not_true_eq_false, decide_false, Bool.false_eq_true, if_false, Option.bind_some] at h
  cases hf : fitsV M s r i with
  | false => simp [hf] at h
  | true =>
    refine ⟨rfl, ?_⟩
    simp only [hf, Bool.not_true, Bool.false_eq_true, if_false] at h
    obtain ⟨n, h1, h⟩ := bind_ex h
    obtain ⟨⟨T, L', e'⟩, h2, h⟩ := bind_ex h
    by_cases he : e' = 0
    · subst he
      simp only [not_true_eq_false, decide_false, Bool.false_eq_true, if_false, Option.some.injEq, Prod.mk.injEq] at h
      obtain ⟨rfl, rfl, _⟩ := h
      obtain ⟨N', e1, h3⟩ := prem_rel hw hb hf h2
      cases e1
      exact h3
    · simp only [he, not_false_eq_true, decide_true, if_true] at h
      obtain ⟨_, _, h⟩ := bind_ex h
      simp only [Option.some.injEq, Prod.mk.injEq] at h
      exact absurd h.2.2 he
theorem inb_mono {i : Int} {m n : Nat} (h : inb i m = true) (hmn : m ≤ n) : inb i n = true := by
  have := inb_ex h
  simp only [inb, Bool.and_eq_true, decide_eq_true_eq]; omega
theorem lookV_iff {M : List Nd} {s : Sq} : lookV M s = true ↔ (∀ j : Int, s.left.has j = true → inb j M.length = true) ∧ inb s.goal M.length = true := by
  unfold lookV
  rw [Bool.and_eq_true, List.all_eq_true]
  refine and_congr ⟨fun h j hj => ?_, fun h j hj => ?_⟩ Iff.rfl
  · have hr : 0 ≤ j ∧ j < 1024 := by
      refine Decidable.byContradiction fun q => ?_
      rw [Bits.has_out _ _ (by omega)] at hj; cases hj
    have hjn : ((j.toNat : Nat) : Int) = j := by omega
    have := h j.toNat (Bits.mem_list.2 ⟨by omega, by rw [hjn]; exact hj⟩)
    rw [← hjn, inb_nat]; exact this
  · have := h j (Bits.mem_list.1 hj).2
    rw [inb_nat] at this; exact this
/-- what a rule leaves: the rows stay ahead, premises are sequents of the rows behind it -/
theorem prem_wf {M N : List Nd} {s : Sq} {i r : Int} {L : List Sq} (hw : Wf M) (hb : s.left.okB = true) (hl : lookV M s = true) (hi : inb i M.length = true) (h : PremR M s i r N L) :
    Wf N ∧ M.length ≤ N.length ∧ (∀ j : Int, inb j M.length = true → nd N j = nd M j) ∧ ∀ p ∈ L, p.left.okB = true ∧ lookV N p = true := by
  obtain ⟨hl1, hl2⟩ := lookV_iff.1 hl
  have k345 : (nd M i).kind = 3 ∨ (nd M i).kind = 4 ∨ (nd M i).kind = 5 → inb (nd M i).l M.length = true ∧ inb (nd M i).r M.length = true := fun k => ⟨hw.left hi k, hw.right hi k⟩
  have hdel : ∀ j : Int, (s.left.del i).has j = true → inb j M.length = true := fun j hj => by
    rw [Bits.del_has] at hj; simp only [Bool.and_eq_true] at hj; exact hl1 j hj.2
  cases h with
  | bot h k => exact ⟨hw, Nat.le_refl _, fun _ _ => rfl, fun p hp => by cases hp⟩
  | ax h g => exact ⟨hw, Nat.le_refl _, fun _ _ => rfl, fun p hp => by cases hp⟩
  | andL h k =>
    obtain ⟨hx, hy⟩ := k345 (.inl k)
    refine ⟨hw, Nat.le_refl _, fun _ _ => rfl, fun p hp => ?_⟩
    rw [List.mem_singleton] at hp; subst hp
    exact ⟨okB_add _, lookV_iff.2 ⟨(all_add (in1024 hw.len hy)).2 ⟨hy, (all_add (in1024 hw.len hx)).2 ⟨hx, hdel⟩⟩, hl2⟩⟩
  | atom h k c a =>
    obtain ⟨hx, hy⟩ := k345 (.inr (.inr k))
    refine ⟨hw, Nat.le_refl _, fun _ _ => rfl, fun p hp => ?_⟩
    rw [List.mem_singleton] at hp; subst hp
    exact ⟨okB_add _, lookV_iff.2 ⟨(all_add (in1024 hw.len hy)).2 ⟨hy, hdel⟩, hl2⟩⟩
  | botL h k c =>
    refine ⟨hw, Nat.le_refl _, fun _ _ => rfl, fun p hp => ?_⟩
    rw [List.mem_singleton] at hp; subst hp
    exact ⟨okB_del _, lookV_iff.2 ⟨hdel, hl2⟩⟩
  | impR g k =>
    obtain ⟨hx, hy⟩ := k345 (.inr (.inr k))
    refine ⟨hw, Nat.le_refl _, fun _ _ => rfl, fun p hp => ?_⟩
    rw [List.mem_singleton] at hp; subst hp
    exact ⟨okB_add _, lookV_iff.2 ⟨(all_add (in1024 hw.len hx)).2 ⟨hx, hl1⟩, hy⟩⟩
  | andR g k =>
    obtain ⟨hx, hy⟩ := k345 (.inl k)
    refine ⟨hw, Nat.le_refl _, fun _ _ => rfl, fun p hp => ?_⟩
    simp only [List.mem_cons, List.not_mem_nil, or_false] at hp
    rcases hp with rfl | rfl
    · exact ⟨hb, lookV_iff.2 ⟨hl1, hx⟩⟩
    · exact ⟨hb, lookV_iff.2 ⟨hl1, hy⟩⟩
  | orL h k =>
    obtain ⟨hx, hy⟩ := k345 (.inr (.inl k))
    refine ⟨hw, Nat.le_refl _, fun _ _ => rfl, fun p hp => ?_⟩
    simp only [List.mem_cons, List.not_mem_nil, or_false] at hp
    rcases hp with rfl | rfl
    · exact ⟨okB_add _, lookV_iff.2 ⟨(all_add (in1024 hw.len hx)).2 ⟨hx, hdel⟩, hl2⟩⟩
    · exact ⟨okB_add _, lookV_iff.2 ⟨(all_add (in1024 hw.len hy)).2 ⟨hy, hdel⟩, hl2⟩⟩
  | orR1 g k =>
    obtain ⟨hx, hy⟩ := k345 (.inr (.inl k))
    refine ⟨hw, Nat.le_refl _, fun _ _ => rfl, fun p hp => ?_⟩
    rw [List.mem_singleton] at hp; subst hp
    exact ⟨hb, lookV_iff.2 ⟨hl1, hx⟩⟩
  | orR2 g k =>
    obtain ⟨hx, hy⟩ := k345 (.inr (.inl k))
    refine ⟨hw, Nat.le_refl _, fun _ _ => rfl, fun p hp => ?_⟩
    rw [List.mem_singleton] at hp; subst hp
    exact ⟨hb, lookV_iff.2 ⟨hl1, hy⟩⟩
  | conj h k c e1 e2 =>
    obtain ⟨n1, w1, i1, q1, l1⟩ := put_nd hw e1
    obtain ⟨n2, w2, i2, q2, l2⟩ := put_nd w1 e2
    generalize hA1 : putS M (impN (nd M (nd M i).l).r (nd M i).r) = A1 at n1 w1 i1 q1 l1 n2 w2 i2 q2 l2 e1 e2 ⊢
    generalize hA2 : putS A1.1 (impN (nd M (nd M i).l).l A1.2.1) = A2 at n2 w2 i2 q2 l2 e2 ⊢
    refine ⟨w2, by omega, fun j hj => by rw [q2 j (inb_mono hj l1), q1 j hj], fun p hp => ?_⟩
    rw [List.mem_singleton] at hp; subst hp
    exact ⟨okB_add _, lookV_iff.2 ⟨(all_add (in1024 w2.len i2)).2 ⟨i2, fun j hj => inb_mono (hdel j hj) (by omega)⟩, inb_mono hl2 (by omega)⟩⟩
  | disj h k c e1 e2 =>
    obtain ⟨n1, w1, i1, q1, l1⟩ := put_nd hw e1
    obtain ⟨n2, w2, i2, q2, l2⟩ := put_nd w1 e2
    generalize hA1 : putS M (impN (nd M (nd M i).l).l (nd M i).r) = A1 at n1 w1 i1 q1 l1 n2 w2 i2 q2 l2 e1 e2 ⊢
    generalize hA2 : putS A1.1 (impN (nd M (nd M i).l).r (nd M i).r) = A2 at n2 w2 i2 q2 l2 e2 ⊢
    refine ⟨w2, by omega, fun j hj => by rw [q2 j (inb_mono hj l1), q1 j hj], fun p hp => ?_⟩
    rw [List.mem_singleton] at hp; subst hp
    exact ⟨okB_add _, lookV_iff.2 ⟨(all_add (in1024 w2.len i2)).2 ⟨i2, (all_add (in1024 w1.len i1)).2 ⟨inb_mono i1 l2, fun j hj => inb_mono (hdel j hj) (by omega)⟩⟩, inb_mono hl2 (by omega)⟩⟩
  | impL h k c e1 =>
    obtain ⟨n1, w1, i1, q1, l1⟩ := put_nd hw e1
    generalize hA1 : putS M (impN (nd M (nd M i).l).r (nd M i).r) = A1 at n1 w1 i1 q1 l1 e1 ⊢
    obtain ⟨hx, hy⟩ := k345 (.inr (.inr k))
    refine ⟨w1, l1, q1, fun p hp => ?_⟩
    simp only [List.mem_cons, List.not_mem_nil, or_false] at hp
    rcases hp with rfl | rfl
    · exact ⟨okB_add _, lookV_iff.2 ⟨(all_add (in1024 w1.len i1)).2 ⟨i1, fun j hj => inb_mono (hdel j hj) l1⟩, inb_mono hx l1⟩⟩
    · exact ⟨okB_add _, lookV_iff.2 ⟨(all_add (in1024 hw.len hy)).2 ⟨inb_mono hy l1, fun j hj => inb_mono (hdel j hj) l1⟩, inb_mono hl2 l1⟩⟩
theorem fits_inb {M : List Nd} {s : Sq} {r i : Int} (h : fitsV M s r i = true) : inb i M.length = true := (fits_cases h).1
/-- an index that a number picks -/
theorem pick_inb {n : Nat} (h0 : n ≠ 0) (hn : n ≤ 4096) (p : Int) : inb (IntKind.i64.wrap (Int.tmod (IntKind.u64.wrap p) (IntKind.u64.wrap (n : Int)))) n = true ∧ IntKind.u64.wrap (n : Int) ≠ 0 := by
  have h1 : IntKind.u64.wrap (n : Int) = n := by simp [IntKind.wrap, IntKind.bits, IntKind.signed]; omega
  have h2 := wrap_pos p
  rw [h1]
  have h3 := Int.tmod_lt_of_pos (IntKind.u64.wrap p) (b := (n : Int)) (by omega)
  have h4 : 0 ≤ Int.tmod (IntKind.u64.wrap p) (n : Int) := Int.tmod_nonneg _ h2
  rw [wrap_small (by omega)]
  refine ⟨?_, by omega⟩
  simp only [inb, Bool.and_eq_true, decide_eq_true_eq]; omega
theorem choices_len {M : List Nd} {s : Sq} (hM : M.length ≤ 1024) : (choicesV M s).1.length = (choicesV M s).2.length ∧ (choicesV M s).1.length ≤ 4096 := by
  unfold choicesV
  have h1 : ((List.range M.length).filter fun (j : Nat) => s.left.has j && decide (onV M s.left j = 13)).length ≤ M.length := by simpa using List.length_filter_le (fun (j : Nat) => s.left.has j && decide (onV M s.left j = 13)) (List.range M.length)
  split
  · split <;> simp <;> omega
  · simp
/-- the premises of what a program answers, or of a choice -/
theorem next_some {M : List Nd} {s : Sq} (pick : Int) (hw : Wf M) (hb : s.left.okB = true) :
    ∃ T L r ok, law09_next.f (some M) s pick = some (T, L, r, ok) ∧ (ok = true → lookV M s = true ∧ ∃ N i, T = some N ∧ fitsV M s r i = true ∧ PremR M s i r N L) := by
  unfold law09_next.f
  rw [Apply_some hw.len hb]
  cases hl : lookV M s with
  | false => exact ⟨_, _, _, _, rfl, fun h => by cases h⟩
  | true =>
    have key : ∀ r i : Int, ∃ T L ok, (rule_Premises.f (some M) s r i).bind (fun r20 => some (r20.1, r20.2.1, r, decide (r20.2.2 = 0))) = some (T, L, r, ok) ∧ (ok = true → ∃ N i, T = some N ∧ fitsV M s r i = true ∧ PremR M s i r N L) := by
      intro r i
      obtain ⟨N, L, e, h, he⟩ := Premises_rel r i hw hl hb
      rw [h]
      exact ⟨_, _, _, rfl, fun q => ⟨N, i, rfl, he (of_decide_eq_true q)⟩⟩
    simp only [if_true, Option.bind_some, ne_eq, not_true_eq_false, decide_false, Bool.false_eq_true, if_false]
    by_cases h14 : (applyV M s).1 = 14
    · simp only [h14, decide_true, if_true, choices_some hw.len hl hb, Option.bind_some, not_true_eq_false, decide_false, Bool.false_or]
      obtain ⟨c1, c2⟩ := choices_len (M := M) (s := s) hw.len
      by_cases h0 : (choicesV M s).1.length = 0
      · rw [decide_eq_true (show (((choicesV M s).1.length : Nat) : Int) = 0 by omega)]
        exact ⟨_, _, _, _, rfl, fun h => by cases h⟩
      · obtain ⟨p1, p2⟩ := pick_inb h0 c2 pick
        rw [decide_eq_false (show ¬ (((choicesV M s).1.length : Nat) : Int) = 0 by omega), Bool.false_or, decide_eq_false (show ¬ ¬ (((choicesV M s).2.length : Nat) : Int) = (((choicesV M s).1.length : Nat) : Int) by omega), if_neg (by simp), chk, if_pos (decide_eq_true p2), p1, chk, if_pos rfl, chk, ← c1, if_pos p1]
        obtain ⟨T, L, ok, h1, h2⟩ := key (at_ (0 : Int) (choicesV M s).1 (IntKind.i64.wrap (Int.tmod (IntKind.u64.wrap pick) (IntKind.u64.wrap ((choicesV M s).1.length : Int))))) (at_ (0 : Int) (choicesV M s).2 (IntKind.i64.wrap (Int.tmod (IntKind.u64.wrap pick) (IntKind.u64.wrap ((choicesV M s).1.length : Int)))))
        exact ⟨T, L, _, ok, h1, fun q => ⟨trivial, h2 q⟩⟩
    · simp only [h14, decide_false, Bool.false_eq_true, if_false, Option.bind_some]
      obtain ⟨T, L, ok, h1, h2⟩ := key (applyV M s).1 (applyV M s).2
      exact ⟨T, L, _, ok, h1, fun q => ⟨trivial, h2 q⟩⟩
theorem forN_any {ρ : Type} {b : Int → Bool → Option (Stp Bool ρ)} {p : Nat → Bool} : ∀ (n i : Nat) (x : Bool), (∀ (j : Nat) (x : Bool), i ≤ j → j < i + n → b j x = some (.go (x || p j))) → forN b n i x = some (.inl (x || (List.range' i n).any p))
  | 0, i, x, _ => by simp [forN]
  | n + 1, i, x, h => by
    rw [forN, h i x (Nat.le_refl _) (by omega), List.range'_succ]
    have := forN_any (b := b) (p := p) n (i + 1) (x || p i) fun j x h1 h2 => h j x (by omega) (by omega)
    simpa [Bool.or_assoc] using this
theorem any_idx {α : Type} (l : List α) (d : α) (p : α → Bool) : l.any p = (List.range' 0 l.length).any fun k => p (l.getD k d) := by
  rw [any_find, find_idx l d p, any_find]; simp
theorem RuleTruth_true {rows : List Nd} {s : Sq} {pick row : Int} (hn : ∀ n ∈ rows, n.name.size < 9223372036854775808) (hl : rows.length * 40 ≤ 140737488355328) (hb : s.left.okB = true) : law09_RuleTruth.f rows s pick row = some true := by
  unfold law09_RuleTruth.f
  rcases both_some hn hl with h | ⟨h, hw⟩
  · rw [h]; simp [heads09]
  · rw [h]
    simp only [Option.bind_some, Bool.not_true, Bool.false_eq_true, if_false]
    obtain ⟨T, L, r, ok, h1, h2⟩ := next_some pick hw hb
    rw [h1]
    cases ok with
    | false => simp [heads09]
    | true =>
      obtain ⟨hk, N, i, rfl, hf, hp⟩ := h2 rfl
      have hi := fits_inb hf
      obtain ⟨wN, lN, qN, pN⟩ := prem_wf hw hb hk hi hp
      obtain ⟨V, v1, v2, v3⟩ := value_some wN row
      have hkN : lookV N s = true := by
        obtain ⟨k1, k2⟩ := lookV_iff.1 hk
        exact lookV_iff.2 ⟨fun j hj => inb_mono (k1 j hj) lN, inb_mono k2 lN⟩
      obtain ⟨t1, t2⟩ := prem_truth hw hi hp v3
      have hloop := forN_any (b := fun i s => law09_RuleTruth.b0 N (some N, L, r, true) V i s) (p := fun k => wrongV V (L.getD k Sq.z)) L.length 0 false (fun j x _ hj => by
        have hj' : j < L.length := by omega
        have hm : at_ Sq.z L (j : Int) = L[j] := by simp [at_, List.getD_eq_getElem?_getD, hj']
        have hg : L.getD j Sq.z = L[j] := by simp [List.getD_eq_getElem?_getD, hj']
        obtain ⟨b1, b2⟩ := pN L[j] (List.getElem_mem hj')
        unfold law09_RuleTruth.b0
        simp only [Option.getD_some]
        rw [hm, hg, docRight b1, b2, wrong_some v2 (lookV_rt b1 b2)]
        cases x <;> simp)
      rw [← any_idx L Sq.z] at hloop
      have e0 : (((L.length : Nat) : Int) - 0).toNat = L.length := by omega
      simp only [Option.bind_some, Bool.not_true, Bool.false_eq_true, if_false, formula_Table_Rows.f, Option.getD_some, docRight hb, hkN, v1, e0]
      rw [show (0 : Int) = ((0 : Nat) : Int) from rfl, hloop]
      simp only [Option.bind_some, aft, Bool.false_or, wrong_some v2 (lookV_rt hb hkN)]
      have hany : L.any (wrongV V) = true ↔ ∃ p ∈ L, wrongV V p = true := List.any_eq_true
      have hT1 : wrongV V s = true → L.any (wrongV V) = true := fun q => hany.2 (t1 q)
      have hT2 : r ≠ 11 → r ≠ 12 → r ≠ 13 → L.any (wrongV V) = true → wrongV V s = true := fun a b c q => t2 a b c (hany.1 q)
      change (if wrongV V s && !L.any (wrongV V) then some false else _) = _
      cases hws : wrongV V s with
      | true =>
        by_cases hr : r = 11 ∨ r = 12 ∨ r = 13
        · rcases hr with rfl | rfl | rfl <;> simp [hT1 hws, heads09]
        · have hr' : (¬r = 11 ∧ ¬r = 12) ∧ ¬r = 13 := by omega
          simp [hT1 hws, heads09, hr']
      | false =>
        cases hwa : L.any (wrongV V) with
        | false => simp [heads09, hwa]
        | true =>
          have hr : r = 11 ∨ r = 12 ∨ r = 13 := by
            refine Decidable.byContradiction fun q => ?_
            have := hT2 (by omega) (by omega) (by omega) hwa
            rw [hws] at this; cases this
          rcases hr with rfl | rfl | rfl <;> simp [heads09]
end Go.Proofs.YtjjkhjieegmphaaDoor
end
section
namespace Go.Proofs.YtjjkhjieegmphaaDoor
open Gw Go.ChangeShapes Go.WideShapes Go.ChangeAt Go.RowKit
set_option linter.unusedVariables false
set_option maxRecDepth 100000
theorem ownKnob_none : ownKnob PP.godebug = none := by kernel_rfl
theorem laidOut_PP : laidOutB PP = true := by kernel_rfl
theorem gTab : PP.globalNamed "math/bits.deBruijn64tab" = some 0 := by kernel_rfl
/-- arguments read as they did -/
theorem trodAll_stays {H : Type} {enc : TypeId × Value → H} {W W' : World} {sp : Nat → Bool} : ∀ {ts : List TypeId} {vs : List Value} {ds : List (DataW H)} {ps : List MemPlace}, (∀ t ∈ ts, PP.readableRec t = true ∧ t < PP.types.size) →
    DataW.TrodAll enc PP W 0 (fun _ => true) true ts vs ds ps → (∀ p ∈ ps, W.sameAt W' p) → (∀ p ∈ ps, sp p.block = true) → DataW.TrodAll enc PP W' 0 sp true ts vs ds ps
  | [], vs, ds, ps, _, h, _, _ => by
    obtain ⟨rfl, rfl, rfl⟩ := trodAll_nil h
    exact trodAll_mk0
  | t :: ts, vs, ds, ps, hr, h, h1, h2 => by
    obtain ⟨v, vs, d, ds, p, q, rfl, rfl, rfl, h0, h3⟩ := trodAll_cons h
    have ht := hr t (by simp)
    exact trodAll_cons_mk (WideElems.Trod_stays laidOut_PP ht.1 ht.2 h0 (fun x hx => h1 x (by simp [hx])) (fun x hx => h2 x (by simp [hx])))
      (trodAll_stays (fun t ht => hr t (by simp [ht])) h3 (fun x hx => h1 x (by simp [hx])) (fun x hx => h2 x (by simp [hx])))
/-- no blocks of others -/
def oth0 : Oth := ⟨fun _ => False, [], fun _ h => by cases h⟩
/-- the table of trailing zeros, as the rows lay it -/
def tzs : List Int := Lib.deBruijn64tab.map fun (z : Nat) => (z : Int)
theorem tz_of {W : World} (h : laidMetH PP Rows.ruleNobodyRow.laid W) : Tz W := by
  have ht : Lib.TabIs PP W "math/bits.deBruijn64tab" .u8 tzs := Lib.tabIs_of_head (rest := []) gTab (t := T_64_uint8) (e := T_uint8) (n := 64) (by kernel_rfl) ar_64_uint8.1 (by kernel_rfl) (by kernel_rfl) (by kernel_rfl) h
  intro i v hv
  have hi : i < Lib.deBruijn64tab.length := by
    have := (List.getElem?_eq_some_iff.1 hv).1
    simpa using this
  have h1 := ht.cell gTab i (by simpa [tzs] using hi)
  rw [List.getElem?_map, List.getElem?_eq_getElem hi] at hv
  cases hv
  rw [Nat.zero_add, h1]
  simp [tzs, List.getD, hi]
section
variable {P : Program} {W : World} {b t : Nat} {k : IntKind} {v : Value}
theorem cell_int (ht : P.underlying t = some (.int k)) (h : Cell.okWide P W .any b t v) : ∃ n, v = .int k n ∧ k.has n := by
  simp only [Cell.okWide, ht] at h
  cases v <;> simp_all [Cell.ok]
theorem agg_of {n : Nat} {ts : List TypeId} (ht : AggT P t n) (h : Value.okWide P W .any b t v) (hts : P.cellTypes P.depth t = some ts) (hc : P.cellsOf t = n) (hn : ts.length = n) :
    ∃ cs : List Value, v = .agg cs.toArray ∧ cs.length = n ∧ ∀ (i : Nat) (v : Value) (u : TypeId), cs[i]? = some v → ts[i]? = some u → Cell.okWide P W .any b u v := by
  obtain ⟨⟨d, ht, hk⟩, -⟩ := ht
  have h : ∃ cs, v = .agg cs ∧ cs.size = P.cellsOf t ∧ Row.okWide P W .any b t cs := by
    unfold Value.okWide at h
    rw [ht] at h
    cases d <;> first | exact h | cases hk
  obtain ⟨cs, rfl, hsz, ts', hts', -, hcell⟩ := h
  obtain rfl := Option.some.inj (hts'.symm.trans hts)
  refine ⟨cs.toList, rfl, by simpa using hsz.trans hc, fun i v u hv hu => ?_⟩
  obtain ⟨u', hu', h1⟩ := hcell i v (by simpa using hv)
  rw [Nat.mod_eq_of_lt (List.getElem?_eq_some_iff.1 hu).1] at hu'
  rw [hu'] at hu; cases hu
  exact h1
theorem int_of (ht : P.underlying t = some (.int k)) (h : Value.okWide P W .any b t v) : ∃ n, v = .int k n ∧ k.has n := by
  unfold Value.okWide at h
  rw [ht] at h
  exact cell_int ht h
end
def intOf : Value → Int | .int _ n => n | _ => 0
def ts_Sq : List TypeId := List.replicate 16 T_uint64 ++ [T_int]
theorem ct_Sq : PP.cellTypes PP.depth T_Sq = some ts_Sq := by kernel_rfl
theorem co_Sq : PP.cellsOf T_Sq = 17 := by kernel_rfl
/-- the bits of 16 cells -/
def bitsOf (l : List Value) : Bits := Vector.ofFn fun i : Fin 16 => intOf (l.getD i .nilFunc)
theorem sq_of {W : World} {b : Nat} {v : Value} (h : Value.okWide PP W .any b T_Sq v) : ∃ a : Sq, v = .agg (Sq.C a).toArray ∧ a.left.okB = true ∧ IntKind.i64.has a.goal := by
  obtain ⟨cs, rfl, hl, hc⟩ := agg_of (P := PP) (t := T_Sq) (ts := ts_Sq) ag_Sq h ct_Sq co_Sq rfl
  have hl : cs.length = 17 := hl
  have h16 : ∀ i, i < 16 → ∃ n, cs[i]? = some (.int .u64 n) ∧ IntKind.u64.has n := fun i hi => by
    obtain ⟨n, e, hn⟩ := cell_int un_uint64 (hc i cs[i] T_uint64 (List.getElem?_eq_getElem (by omega)) (by rw [ts_Sq, List.getElem?_append_left (by simpa using hi), List.getElem?_replicate, if_pos hi]))
    exact ⟨n, by rw [List.getElem?_eq_getElem (by omega), e], hn⟩
  obtain ⟨g, e, hg⟩ := cell_int un_int (hc 16 cs[16] T_int (List.getElem?_eq_getElem (by omega)) rfl)
  refine ⟨⟨bitsOf cs, g⟩, ?_, ?_, hg⟩
  · congr 2
    refine List.ext_getElem? fun i => ?_
    by_cases hi : i < 16
    · obtain ⟨n, hn, _⟩ := h16 i hi
      rw [hn, Sq.C, List.getElem?_append_left (by rw [Bits.len]; exact hi), Bits.get _ _ hi]
      simp [bitsOf, hn, intOf, List.getD]
    · by_cases h2 : i = 16
      · subst h2; rw [Sq.get_goal, List.getElem?_eq_getElem (by omega), e]
      · rw [List.getElem?_eq_none (by omega), List.getElem?_eq_none (by rw [Sq.len]; omega)]
  · unfold Bits.okB
    rw [List.all_eq_true]
    intro x hx
    obtain ⟨i, hi⟩ := List.getElem?_of_mem hx
    have hi16 : i < 16 := by have := (List.getElem?_eq_some_iff.1 hi).1; simpa using this
    obtain ⟨n, hn, hh⟩ := h16 i hi16
    have hxn : x = n := by
      have := (List.getElem?_eq_some_iff.1 hi).2
      rw [← this]; simp [bitsOf, hn, intOf, List.getD]
    subst hxn
    have h2 : 0 ≤ x ∧ x ≤ 18446744073709551615 := hh
    simp only [Bool.and_eq_true, decide_eq_true_eq]
    omega
end Go.Proofs.YtjjkhjieegmphaaDoor
end
section
namespace Go.Proofs.YtjjkhjieegmphaaDoor
open Gw Go.ChangeShapes Go.WideShapes Go.ChangeAt Go.RowKit
set_option linter.unusedVariables false
set_option maxRecDepth 100000
section
variable {H : Type} {enc : TypeId × Value → H} {P : Program} {W : World} {t : TypeId} {fuel : Nat} {cs : List Value} {x : DataW H × List MemPlace} {sp : Nat → Bool} {hd : Bool} {b0 : Nat}
theorem take_one {l : List Value} {o : Nat} {v : Value} (h : (l.drop o).take 1 = [v]) : l[o]? = some v := by
  have : ((l.drop o).take 1)[0]? = some v := by rw [h]; rfl
  rw [List.getElem?_take] at this
  simpa using this
theorem fld_int {i off ft : Nat} {k : IntKind} (hf : FieldV P t i off ft) (hk : P.underlying ft = some (.int k)) (hc : P.cellsOf ft = 1) (h : DataW.trod enc P W b0 sp hd fuel t cs = some x) : ∃ n, cs[off]? = some (.int k n) := by
  obtain ⟨fs, fd, hu, hi, rfl, rfl⟩ := hf
  obtain ⟨xs, n, _, _, hl, hx, hall⟩ := DataW.trod_struct hu h
  have h1 := hall i fd hi
  have h2 : i < xs.length := by rw [hx]; exact (Array.getElem?_eq_some_iff.1 hi).1
  rw [List.getElem?_eq_getElem h2, hc] at h1
  obtain ⟨n, e, _⟩ := DataW.trod_int hk h1
  exact ⟨n, take_one e⟩
theorem fld_str {i off ft : Nat} (hf : FieldV P t i off ft) (hk : P.underlying ft = some .string) (hc : P.cellsOf ft = 1) (h : DataW.trod enc P W b0 sp hd fuel t cs = some x) : ∃ s : ByteArray, cs[off]? = some (.string s) ∧ s.size ≤ maxLen := by
  obtain ⟨fs, fd, hu, hi, rfl, rfl⟩ := hf
  obtain ⟨xs, n, _, _, hl, hx, hall⟩ := DataW.trod_struct hu h
  have h1 := hall i fd hi
  have h2 : i < xs.length := by rw [hx]; exact (Array.getElem?_eq_some_iff.1 hi).1
  rw [List.getElem?_eq_getElem h2, hc] at h1
  obtain ⟨s, e, _, hs⟩ := DataW.trod_string hk h1
  exact ⟨s, take_one e, hs⟩
/-- a slice whose elements are told one by one -/
theorem slice_of {α : Type} [Inhabited α] {e k : Nat} {C : α → List Value} {Q : α → Prop} {base : Nat} {v : Value} {d : DataW H} {ps : List MemPlace} (ht : P.underlying t = some (.slice e)) (hk : P.cellsOf e = k) (hC : ∀ a, (C a).length = k) (hk0 : 0 < k)
    (hel : ∀ (n : Nat) (cs : List Value) (x : DataW H × List MemPlace), DataW.trod enc P W 0 (fun _ => true) true n e cs = some x → ∃ a, cs = C a ∧ Q a)
    (hval : Value.okWide P W .any base t v) (h : DataW.Trod enc P W 0 (fun _ => true) true t v d ps) :
    ∃ (l : List α) (s : SlV), v = s.v ∧ Rd W k s (l.map C) ∧ (∀ a ∈ l, Q a) ∧ (l = [] ∨ ∃ elems spare, d = .slice elems spare ∧ elems.length = l.length) := by
  obtain ⟨a0, len0, cap0, rfl⟩ := okWide_slice ht hval
  obtain ⟨fuel, hf⟩ := h
  rcases Deep.open_slice ht hf with ⟨h1, h2⟩ | ⟨a, len, cap, m, n, D, Pl, h1, _, hlc, hcm, hm, h2, hx⟩
  · simp [Value.cells] at h1
    obtain ⟨rfl, rfl, rfl⟩ := h1
    exact ⟨[], SlV.nil, SlV.nil_eq, Rd.nil W k, by simp, .inl rfl⟩
  · simp [Value.cells] at h1
    obtain ⟨rfl, rfl, rfl⟩ := h1
    have hval2 := hval
    simp only [Value.okWide, ht, Cell.okWide, Cell.ok] at hval2
    obtain ⟨_, _, _, hspot, row, cells, hshape, _⟩ := hval2
    obtain ⟨ab, ao, asp⟩ := a
    obtain rfl : asp = none := hspot
    simp only at hshape
    have hlt : ab < W.heap.size := by
      unfold World.shape? at hshape
      cases hh : W.heap[ab]? with
      | none => rw [hh] at hshape; cases hshape
      | some o => exact (Array.getElem?_eq_some_iff.1 hh).1
    have hmc : m = cap0 := by rw [hm]; rfl
    obtain ⟨f, hfx⟩ := Deep.choose_lt (α := α) (n := len0) (p := fun i y => W.cells? 0 ((⟨ab, ao, none⟩ : Addr).add (i * P.cellsOf e)) (P.cellsOf e) = some (C y) ∧ Q y) (fun i hi => by
      obtain ⟨cs', hc, ht'⟩ := hx i (by omega)
      obtain ⟨y, rfl, hq⟩ := hel _ _ _ ht'
      exact ⟨y, hc, hq⟩)
    refine ⟨(List.range len0).map f, ⟨some ⟨ab, ao, none⟩, len0, cap0⟩, by rw [SlV.eq], ⟨⟨by simp, ?_, ?_⟩, ?_, hlc⟩, ?_, .inr ⟨_, _, by simpa using congrArg Prod.fst h2, by simp⟩⟩
    · intro r hr
      obtain ⟨y, _, rfl⟩ := List.mem_map.1 hr
      exact hC y
    · intro i r hr
      rw [List.getElem?_map, List.getElem?_map] at hr
      have hi : i < len0 := by
        refine Nat.lt_of_not_le fun q => ?_
        rw [List.getElem?_eq_none (by simpa using q)] at hr; cases hr
      rw [List.getElem?_eq_getElem (by simpa using hi)] at hr
      simp only [List.getElem_range, Option.map_some, Option.some.injEq] at hr
      subst hr
      obtain ⟨h3, _⟩ := hfx i hi
      obtain ⟨_, hl, hc⟩ := World.cells?_some h3
      refine ⟨rfl, fun j v hv => ?_⟩
      have hj : j < k := by have := (List.getElem?_eq_some_iff.1 hv).1; rw [hC] at this; exact this
      have h4 := hc j (by rw [hk]; exact hj)
      rw [hv] at h4
      have hadd : ((⟨ab, ao, none⟩ : Addr).add (i * P.cellsOf e)).add j = ⟨ab, ao + i * k + j, none⟩ := by
        rw [hk]
        unfold Addr.add
        by_cases h5 : i * k = 0
        · by_cases h6 : j = 0
          · simp [h5, h6]
          · simp [h5, h6]
        · by_cases h6 : j = 0
          · simp [h5, h6]
          · simp [h5, h6]
      rw [hadd] at h4
      exact h4
    · rintro i ⟨_, rfl⟩
      exact hlt
    · intro y hy
      obtain ⟨i, hi, rfl⟩ := List.mem_map.1 hy
      exact (hfx i (List.mem_range.1 hi)).2
end
instance : Inhabited Nd := ⟨Nd.z⟩
theorem nds_of {H : Type} {enc : TypeId × Value → H} {W : World} {base : Nat} {v : Value} {d : DataW H} {ps : List MemPlace} (hval : Value.okWide PP W .any base T_L_api_Node v) (h : DataW.Trod enc PP W 0 (fun _ => true) true T_L_api_Node v d ps) :
    ∃ (l : List Nd) (s : SlV), v = s.v ∧ Rd W 4 s (l.map Nd.C) ∧ (∀ a ∈ l, a.name.size < 9223372036854775808) ∧ (l = [] ∨ ∃ elems spare, d = .slice elems spare ∧ elems.length = l.length) := by
  refine slice_of sl_L_api_Node.1 (by kernel_rfl) Nd.len (by decide) (fun n cs x hx => ?_) hval h
  obtain ⟨a, ha⟩ := fld_int fv_Nd_kind un_api_Kind (by kernel_rfl) hx
  obtain ⟨b, hb, hbs⟩ := fld_str fv_Nd_name un_string (by kernel_rfl) hx
  obtain ⟨c, hc⟩ := fld_int fv_Nd_l un_int (by kernel_rfl) hx
  obtain ⟨d, hd⟩ := fld_int fv_Nd_r un_int (by kernel_rfl) hx
  obtain ⟨fs, fd, hu, _⟩ := fv_Nd_kind
  obtain ⟨xs, n', _, _, hl, _⟩ := DataW.trod_struct hu hx
  have hl : cs.length = 4 := hl.trans (by kernel_rfl)
  refine ⟨⟨a, b, c, d⟩, ?_, by have : maxLen = 9223372036854775807 := rfl; show b.size < _; omega⟩
  match cs, hl with
  | [v0, v1, v2, v3], _ =>
    simp at ha hb hc hd
    subst ha hb hc hd
    rfl
theorem bulk_one {H : Type} (d : DataW H) : 1 ≤ Rows.uptoBulk d := by
  cases d with
  | lit l => cases l <;> simp [Rows.uptoBulk]
  | nil => simp [Rows.uptoBulk]
  | ptr d => simp [Rows.uptoBulk]
  | slice elems spare => simp [Rows.uptoBulk]
  | agg parts => simp [Rows.uptoBulk]
  | iface t d => simp [Rows.uptoBulk]
  | map entries => simp [Rows.uptoBulk]
  | held h => simp [Rows.uptoBulk]
theorem bulk_part {H : Type} {d : DataW H} {l : List (DataW H)} (h : d ∈ l) : Rows.uptoBulk d ≤ Rows.uptoBulkAll l := by
  induction l with
  | nil => cases h
  | cons x r ih =>
    simp only [Rows.uptoBulkAll]
    cases List.mem_cons.1 h with
    | inl e => subst e; omega
    | inr e => have := ih e; omega
theorem bulk_len {H : Type} (l : List (DataW H)) : l.length ≤ Rows.uptoBulkAll l := by
  induction l with
  | nil => simp [Rows.uptoBulkAll]
  | cons x r ih => have := bulk_one x; simp only [Rows.uptoBulkAll, List.length_cons]; omega
/-- a slice that a small input reads is short -/
theorem small_len {H : Type} {α : Type} {l : List α} {d : DataW H} {ds : List (DataW H)} (hk : Rows.uptoSmall H ds = true) (hd : d ∈ ds) (h : l = [] ∨ ∃ elems spare, d = .slice elems spare ∧ elems.length = l.length) : l.length ≤ 1048576 := by
  rcases h with rfl | ⟨elems, spare, rfl, he⟩
  · simp
  · have h1 := bulk_part hd
    have h2 := bulk_len elems
    have h3 : Rows.uptoBulkAll ds ≤ 1048576 := by simpa [Rows.uptoSmall] using hk
    simp only [Rows.uptoBulk] at h1
    omega
end Go.Proofs.YtjjkhjieegmphaaDoor
end
section
namespace Go.Proofs.YtjjkhjieegmphaaDoor
open Gw Go.ChangeShapes Go.WideShapes Go.ChangeAt Go.RowKit
set_option linter.unusedVariables false
set_option maxRecDepth 100000
/-- pieces that all hold -/
def Held (W : World) (Z : List OA) : Prop := ∀ z ∈ Z, ∃ F, z.holds W F
theorem Held.nil {W : World} : Held W [] := fun _ h => by cases h
theorem Held.cons {W : World} {z : OA} {Z : List OA} (h : ∃ F, z.holds W F) (hz : Held W Z) : Held W (z :: Z) := fun x hx => by
  rcases List.mem_cons.1 hx with rfl | hx
  · exact h
  · exact hz x hx
theorem Held.s {W : World} {Z : List OA} {k : Nat} {α : Type} {C : α → List Value} {s : SlV} {l : List α} (hr : Rd W k s (l.map C)) (hl : l.length ≤ 140737488355328) (hz : Held W Z) : Held W (fS k C s l :: Z) :=
  .cons ⟨s.fp, ⟨hr, hl⟩, fun _ => Iff.rfl⟩ hz
theorem Held.tz {W : World} {Z : List OA} (h : Tz W) (hz : Held W Z) : Held W (oTz :: Z) := .cons ⟨fun i => i = 0, ⟨h, fun _ => Iff.rfl⟩⟩ hz
/-- what stays while a law runs -/
theorem stheld {W : World} {Z : List OA} (h : Held W Z) : St (fun _ => False) oth0 W W [] Z :=
  ⟨fun _ => False, fun _ h => h.elim, fun _ h => h.elim, Chg.refl _ _, trivial, fun z hz => by
    obtain ⟨F, hF⟩ := h z hz
    exact ⟨F, hF, fun i _ q => q.elim (fun x => x) (fun x => x)⟩, fun d hd => absurd hd (by simp [oth0])⟩
end Go.Proofs.YtjjkhjieegmphaaDoor
end
section
namespace Go.Proofs.YtjjkhjieegmphaaDoor
open Gw Go.ChangeShapes Go.WideShapes Go.ChangeAt Go.RowKit
set_option linter.unusedVariables false
set_option maxRecDepth 100000
namespace LawRuleTruth
theorem contract (H : Type) (enc : TypeId × Value → H) (W : World) (base : Nat) (args : Array Value) (ds gs : List (DataW H)) (before : List MemPlace)
    (hval : ∀ (j : Nat) t v, D_law09_RuleTruth.params[j]? = some t → args[j]? = some v → Value.okWide PP W .any base t v)
    (hW : DataW.Whole enc PP D_law09_RuleTruth.params.toList Rows.ruleTruthSpec.vars false W args.toList ds gs before) (hL : laidMetH PP Rows.ruleTruthUptoRow.laid W) (hsm : Rows.uptoSmall H (ds ++ gs) = true) :
    Calls PP F_law09_RuleTruth args W fun e W' => ∃ v, e = .returned v ∧ Rows.ruleTruthSpec.post enc PP D_law09_RuleTruth false true false false W args v W' := by
  have hW' := hW
  have hlt := hW.lt
  obtain ⟨p, q, hA0, hV, rfl, hfz, hnd⟩ := hW
  have hA : DataW.TrodAll enc PP W 0 (fun _ => true) true D_law09_RuleTruth.params.toList args.toList ds p := hA0
  have hpar : D_law09_RuleTruth.params = #[T_L_api_Node, T_Sq, T_int, T_uint64] := by kernel_rfl
  rw [hpar] at hA hval
  obtain ⟨v0, v1, v2, v3, d0, d1, d2, d3, p0, p1, p2, p3, rfl, rfl, rfl, h0, h1, h2, h3⟩ := trodAll_four hA
  obtain ⟨rfl, rfl⟩ := trodVars_none hV
  obtain ⟨a0, s0, rfl, hrd0, hnm0, hsl0⟩ := nds_of (hval 0 _ _ rfl rfl) h0
  have hln0 := small_len hsm (by simp) hsl0
  obtain ⟨a1, rfl, hb1, hg1⟩ := sq_of (hval 1 _ _ rfl rfl)
  obtain ⟨a2, rfl, hr2⟩ := int_of (k := .i64) un_int (hval 2 _ _ rfl rfl)
  obtain ⟨a3, rfl, hr3⟩ := int_of (k := .u64) un_uint64 (hval 3 _ _ rfl rfl)
  have S := stheld (W := W) (.s hrd0 (by omega) (.tz (tz_of hL) .nil))
  refine (law09_RuleTruth_st S (RuleTruth_true (pick := a2) (row := a3) hnm0 (by omega) hb1)).mono fun e W' ⟨v, he, hv, hS⟩ => ?_
  subst hv
  have hx := hS.frame
  refine ⟨_, he, post_of_same (pa := p0 ++ p1 ++ p2 ++ p3) (pv := []) hW' (fun _ _ _ => trodAll_cons_mk (shut_bool un_bool _) trodAll_mk0) (fun sp hsp => ?_) (fun _ _ => rfl) (by simp) ((Ext.below hx).frame _) hx.froz (ok_one (by kernel_rfl) rfl (okWide_bool_mk un_bool _))⟩
  rw [hpar]
  refine trodAll_stays (ts := [T_L_api_Node, T_Sq, T_int, T_uint64]) (fun t ht => ?_) hA (fun p hp => (Ext.below hx).same (hlt p (by simpa using hp))) (fun p hp => hsp p (by simpa using hp))
  simp only [List.mem_cons, List.not_mem_nil, or_false] at ht
  rcases ht with rfl | rfl | rfl | rfl <;> exact ⟨by kernel_rfl, of_decide_eq_true (by kernel_rfl)⟩
/-- a world for the witness: the settled one, the table laid -/
noncomputable def laidWorld (os : Os) : World :=
  { World.holding PP os ⟨#[], #[], []⟩ with heap := (World.holding PP os ⟨#[], #[], []⟩).heap.modify 0 fun
      | .cells _ t frozen => .cells (tzs.map (Value.int .u8)).toArray t frozen
      | o => o }
def argsN : Array Value := #[.slice none 0 0, .agg (Sq.C Sq.z).toArray, .int .i64 0, .int .u64 0]
theorem laid_met (os : Os) : laidMet PP Rows.ruleTruthUptoRow.laid ((laidWorld os).forCall (fun _ _ => 0) ⟨#[], argsN, []⟩).memory :=
  laidMet_of_run' 8 (by kernel_rfl) (by kernel_rfl)
def ddN (H : Type) : List (DataW H) := [.nil, .agg [.agg (List.replicate 16 (.lit (.int .u64 0))), .lit (.int .i64 0)], .lit (.int .i64 0), .lit (.int .u64 0)]
theorem reads (os : Os) {H : Type} (enc : TypeId × Value → H) : ∃ places, DataW.whole enc PP ((laidWorld os).forCall (fun _ _ => 0) ⟨#[], argsN, []⟩).memory D_law09_RuleTruth.params.toList Rows.ruleTruthSpec.vars false argsN.toList 8 = some (ddN H, [], places) :=
  ⟨[], by kernel_rfl⟩
theorem lifted (os : Os) (started : os.Started) (H : Type) (enc : TypeId × Value → H) (F : Stop.Interp) :
    ReturnsInHanded {} Tryd.checked os F_law09_RuleTruth .any ((Rows.OpenSpec.upto Rows.ruleTruthSpec).preRow enc PP D_law09_RuleTruth Rows.ruleTruthUptoRow.domain false Rows.ruleTruthUptoRow.laid) (((Rows.OpenSpec.upto Rows.ruleTruthSpec).at F).post enc PP D_law09_RuleTruth false true false false) := by
  obtain ⟨places, hx⟩ := reads os enc
  refine returnsInHanded_of_row (C := Tryd.checked) (s := Rows.OpenSpec.upto Rows.ruleTruthSpec) ownKnob_none started (by kernel_rfl) fn_law09_RuleTruth
    (witness_row_at (enc := enc) (C := Tryd.checked) false (laidWorld os) argsN rfl (by kernel_rfl) (by kernel_rfl) (by kernel_rfl)
      (OpenSpec.preRow_of_cond 8 hx (by kernel_rfl) (fun k hk => by cases hk; kernel_rfl) (by kernel_rfl) (laid_met os))) ?_
  intro W base args ds gs before hval hW _ hcond _ hL _ _
  exact contract H enc W base args ds gs before hval hW hL (hcond _ rfl)
theorem said : Rows.RuleTruthUptoSaid :=
  OpenClaim.holds_of_cond F_law09_RuleTruth D_law09_RuleTruth rfl rfl rfl rfl rfl rfl rfl ⟨rfl, rfl, rfl, rfl, rfl⟩ rfl rfl rfl rfl rfl (by kernel_rfl) fn_law09_RuleTruth (by kernel_rfl)
    (of_decide_eq_true (by kernel_rfl)) (by unfold Func.isWrapper; first | (rw [if_pos (by decide +kernel)]; kernel_rfl) | (rw [if_neg (by decide +kernel)]; exact ⟨rfl, rfl⟩))
    (fun os started H enc _ F => by rw [OpenClaim.pre_eq_preRow]; exact lifted os started H enc F)
theorem plain (f : FuncId) (fn : Func) (hf : Tryd.pinned.checked.prog.funcNamed "dictum/dictumlaw09.RuleTruth" = some f) (hfn : Tryd.pinned.checked.prog.funcs[f]? = some fn) :
    false = Tryd.pinned.checked.prog.looks [] ∧ ∀ (j : Nat) t, fn.params[j]? = some t → Tryd.pinned.checked.prog.wantsStandIn t = false := by
  obtain rfl : f = F_law09_RuleTruth := Option.some.inj ((show PP.funcNamed "dictum/dictumlaw09.RuleTruth" = some F_law09_RuleTruth by kernel_rfl).symm.trans hf) |>.symm
  obtain rfl : fn = D_law09_RuleTruth := (Option.some.inj (fn_law09_RuleTruth.symm.trans hfn)).symm
  refine ⟨by kernel_rfl, fun j t ht => ?_⟩
  rw [show D_law09_RuleTruth.params = #[T_L_api_Node, T_Sq, T_int, T_uint64] by kernel_rfl] at ht
  have hm : t ∈ [T_L_api_Node, T_Sq, T_int, T_uint64] := by simpa using Array.mem_of_getElem? ht
  simp only [List.mem_cons, List.not_mem_nil, or_false] at hm
  rcases hm with rfl | rfl | rfl | rfl
  · exact (show PP.wantsStandIn T_L_api_Node = false by kernel_rfl)
  · exact (show PP.wantsStandIn T_Sq = false by kernel_rfl)
  · exact (show PP.wantsStandIn T_int = false by kernel_rfl)
  · exact (show PP.wantsStandIn T_uint64 = false by kernel_rfl)
theorem card : Rows.RuleTruthUptoCardSaid :=
  Claim7.holds_tied_plain_at .later [] _ _ _ _ said (fun _ h => by cases h) (by kernel_rfl) (fun _ h => by cases h) ruleTruthUpto_row_tie rfl ⟨rfl, rfl⟩ (by kernel_rfl) rfl plain (by kernel_rfl)
end LawRuleTruth
end Go.Proofs.YtjjkhjieegmphaaDoor
end
