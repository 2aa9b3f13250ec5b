/- Chapter 09, the plain law: premises. -/
import Derived.Test.YtjjkhjieegmphaaDoorRuleZ
import Derived.Test.YtjjkhjieegmphaaDoorRulePP
namespace Go.Proofs.YtjjkhjieegmphaaDoor
open Gw
set_option linter.unusedVariables false
set_option linter.unusedSimpArgs false
theorem okB_add {b : Bits} (n : Int) : (b.add n).okB = true := Bits.ok_okB (Bits.add_ok _ _)
theorem okB_del {b : Bits} (n : Int) : (b.del n).okB = true := Bits.ok_okB (Bits.del_ok _ _)
theorem union_one {b : Bits} {x : Int} (hx : 0 ≤ x ∧ x < 1024) : b.union (Bits.ofs [x]).1 = b.add x := by
  refine Bits.eq_of_has (Bits.union_ok _ _) (Bits.add_ok _ _) fun m hm => ?_
  rw [Bits.union_has, Bits.add_has _ _ _ hx]
  unfold Bits.ofs
  rw [if_pos (by simpa using hx), show Bits.ofl [x] = Bits.z.add x from rfl, Bits.add_has _ _ _ hx, Bits.z_has, Bool.or_false, Bool.or_comm]
theorem union_two {b : Bits} {x y : Int} (hx : 0 ≤ x ∧ x < 1024) (hy : 0 ≤ y ∧ y < 1024) : b.union (Bits.ofs [x, y]).1 = (b.add x).add y := by
  refine Bits.eq_of_has (Bits.union_ok _ _) (Bits.add_ok _ _) fun m hm => ?_
  rw [Bits.union_has, Bits.add_has _ _ _ hy, Bits.add_has _ _ _ hx]
  unfold Bits.ofs
  rw [if_pos (by intro n hn; rcases List.mem_cons.1 hn with rfl | hn; exact hx; rw [List.mem_singleton.1 hn]; exact hy), show Bits.ofl [x, y] = (Bits.z.add x).add y from rfl, Bits.add_has _ _ _ hy, Bits.add_has _ _ _ hx, Bits.z_has, Bool.or_false]
  cases b.has m <;> simp
theorem add_add {b : Bits} {x : Int} (hx : 0 ≤ x ∧ x < 1024) : (b.add x).add x = b.add x := by
  refine Bits.eq_of_has (Bits.add_ok _ _) (Bits.add_ok _ _) fun m hm => ?_
  rw [Bits.add_has _ _ _ hx, Bits.add_has _ _ _ hx]
  cases b.has m <;> simp
theorem withP1 {s : Sq} {x : Int} (hb : s.left.okB = true) (hx : 0 ≤ x ∧ x < 1024) : rule_with.f s [x] = some { s with left := s.left.add x } := by
  unfold rule_with.f bits_Of.f bits_Union.f
  simp only [Option.bind_some]
  rw [chk, if_pos (by rw [hb, Bits.ok_okB (Bits.ofs_ok _)]; rfl), union_one hx]; rfl
theorem withP2 {s : Sq} {x y : Int} (hb : s.left.okB = true) (hx : 0 ≤ x ∧ x < 1024) (hy : 0 ≤ y ∧ y < 1024) : rule_with.f s [x, y] = some { s with left := (s.left.add x).add y } := by
  unfold rule_with.f bits_Of.f bits_Union.f
  simp only [Option.bind_some]
  rw [chk, if_pos (by rw [hb, Bits.ok_okB (Bits.ofs_ok _)]; rfl), union_two hx hy]; rfl
theorem withD2 {s : Sq} {x y : Int} (hb : s.left.okB = true) (hx : 0 ≤ x ∧ x < 1024) (hy : 0 ≤ y ∧ y < 1024) : ref09_with.f s x y = some { s with left := (s.left.add x).add y } := by
  have h1 : ref05_With.f s.left x = some (s.left.add x) := by
    unfold ref05_With.f
    rw [chk, if_pos]
    rw [hb, decide_eq_true hx.1, decide_eq_true hx.2]; rfl
  have h2 : ref05_With.f (s.left.add x) y = some ((s.left.add x).add y) := by
    unfold ref05_With.f
    rw [chk, if_pos]
    rw [okB_add, decide_eq_true hy.1, decide_eq_true hy.2]; rfl
  unfold ref09_with.f
  rw [h1, Option.bind_some, h2, Option.bind_some]
theorem withD1 {s : Sq} {x : Int} (hb : s.left.okB = true) (hx : 0 ≤ x ∧ x < 1024) : ref09_with.f s x x = some { s with left := s.left.add x } := by
  rw [withD2 hb hx hx, add_add hx]
theorem withP1m {B : Bits} {g x : Int} (hb : B.okB = true) (hx : 0 ≤ x ∧ x < 1024) : rule_with.f ⟨B, g⟩ [x] = some ⟨B.add x, g⟩ := withP1 (s := ⟨B, g⟩) hb hx
theorem withP2m {B : Bits} {g x y : Int} (hb : B.okB = true) (hx : 0 ≤ x ∧ x < 1024) (hy : 0 ≤ y ∧ y < 1024) : rule_with.f ⟨B, g⟩ [x, y] = some ⟨(B.add x).add y, g⟩ := withP2 (s := ⟨B, g⟩) hb hx hy
theorem withD1m {B : Bits} {g x : Int} (hb : B.okB = true) (hx : 0 ≤ x ∧ x < 1024) : ref09_with.f ⟨B, g⟩ x x = some ⟨B.add x, g⟩ := withD1 (s := ⟨B, g⟩) hb hx
theorem withD2m {B : Bits} {g x y : Int} (hb : B.okB = true) (hx : 0 ≤ x ∧ x < 1024) (hy : 0 ≤ y ∧ y < 1024) : ref09_with.f ⟨B, g⟩ x y = some ⟨(B.add x).add y, g⟩ := withD2 (s := ⟨B, g⟩) hb hx hy
theorem both1 {B : Bits} {g x : Int} (hb : B.okB = true) (hx : 0 ≤ x ∧ x < 1024) : ∃ q, rule_with.f ⟨B, g⟩ [x] = some q ∧ ref09_with.f ⟨B, g⟩ x x = some q := ⟨_, withP1m hb hx, withD1m hb hx⟩
theorem both2 {B : Bits} {g x y : Int} (hb : B.okB = true) (hx : 0 ≤ x ∧ x < 1024) (hy : 0 ≤ y ∧ y < 1024) : ∃ q, rule_with.f ⟨B, g⟩ [x, y] = some q ∧ ref09_with.f ⟨B, g⟩ x y = some q := ⟨_, withP2m hb hx hy, withD2m hb hx hy⟩
theorem put_props {N : List Nd} {n : Nd} (hN : N.length ≤ 1024) (hd : N.Nodup) : ((putS N n).2.2 ≠ 0 → (putS N n).1 = N) ∧ ((putS N n).2.2 = 0 → 0 ≤ (putS N n).2.1 ∧ (putS N n).2.1 < 1024) ∧ (putS N n).1.take N.length = N ∧ (putS N n).1.Nodup ∧ (putS N n).1.length ≤ 1024 ∧ N.length ≤ (putS N n).1.length := by
  by_cases hf : fitsS N n = 0
  · cases hk : N.idxOf? n with
    | some k =>
      rw [put_old hf hk]
      have := (List.idxOf?_eq_some_iff.1 hk).1
      exact ⟨fun h => absurd rfl h, fun _ => ⟨by simp, by simp; omega⟩, by simp, hd, hN, Nat.le_refl _⟩
    | none =>
      by_cases hl : 1024 ≤ N.length
      · rw [put_full hf hk hl]
        exact ⟨fun _ => rfl, fun h => absurd h (by simp), by simp, hd, hN, Nat.le_refl _⟩
      · rw [put_new hf hk hl]
        refine ⟨fun h => absurd rfl h, fun _ => ⟨by simp, by simp; omega⟩, by simp, ?_, by simp; omega, by simp⟩
        rw [List.nodup_append]
        refine ⟨hd, by simp, fun a ha b hb e => ?_⟩
        rw [List.mem_singleton.1 hb] at e
        subst e
        have := List.idxOf?_eq_none_iff.1 hk
        exact this ha
  · rw [put_bad hf]
    exact ⟨fun _ => rfl, fun h => absurd h hf, by simp, hd, hN, Nat.le_refl _⟩
theorem impP (N : List Nd) (a b : Int) : formula_Table_Imp.f (some N) a b = some (some (putS N (impN a b)).1, (putS N (impN a b)).2.1, (putS N (impN a b)).2.2) := rfl
theorem impD {N : List Nd} (hN : N.length ≤ 1024) (a b : Int) : ref03_T_Imp.f (some N) a b = some (some (putS N (impN a b)).1, (putS N (impN a b)).2.1, (putS N (impN a b)).2.2) := by
  unfold ref03_T_Imp.f ref03_T_Two.f
  rw [docPut hN (by show (ByteArray.empty).size < _; decide)]
  rfl
theorem cutP {N M : List Nd} (h1 : N.take M.length = M) (h2 : N.Nodup) (h3 : M.length ≤ N.length) : formula_Table_Cut.f (some N) (M.length : Int) = some (some M, 0) := by
  unfold formula_Table_Cut.f
  have h4 : ¬ (M.length : Int) < 0 := by omega
  have h5 : ¬ (N.length : Int) < (M.length : Int) := by omega
  simp [h4, h5, chk, h2, h1]
theorem cutD {N M : List Nd} (h1 : N.take M.length = M) (h3 : M.length ≤ N.length) : ref03_T_Cut.f (some N) (M.length : Int) = some (some M, 0) := by
  unfold ref03_T_Cut.f
  have h4 : ¬ (M.length : Int) < 0 := by omega
  have h5 : ¬ (N.length : Int) < (M.length : Int) := by omega
  have h6 : 0 ≤ (M.length : Int) ∧ (M.length : Int) ≤ (N.length : Int) := by omega
  simp [h4, h5, chk, h6, h1]
/-- what both sides make of a rule's premises -/
def Agree (M : List Nd) (s : Sq) (r i : Int) : Prop := ∃ (M' : List Nd) (L : List Sq) (e : Int), rule_Premises.f (some M) s r i = some (some M', L, e) ∧ ref09_Premises.f (some M) s r i = some (some M', L, e)
theorem seqs_self (l : List Sq) : ref09_Seqs.f l l = some true := by
  unfold ref09_Seqs.f
  have h1 := forN_find (b := fun i s => ref09_Seqs.b0 l l i) (p := fun _ => false) (r := fun _ => false) l.length 0 () (by
    intro k _ hk
    unfold ref09_Seqs.b0
    rw [inb_nat]
    simp [chk]
    omega)
  have e0 : (((l.length : Nat) : Int) - 0).toNat = l.length := by omega
  rw [e0, show (0 : Int) = ((0 : Nat) : Int) from rfl, h1, show (List.range' 0 l.length).find? (fun _ => false) = none from List.find?_eq_none.2 (by simp), if_neg (by simp)]
  rfl
theorem in1024 {M : List Nd} {i : Int} (hM : M.length ≤ 1024) (h : inb i M.length = true) : 0 ≤ i ∧ i < 1024 := by have := inb_ex h; omega
theorem on_cases {M : List Nd} {b : Bits} {i r : Int} (h : onV M b i = r) (h0 : r ≠ 0) : (r = 1 ∧ (nd M i).kind = 2) ∨ (r = 3 ∧ (nd M i).kind = 3) ∨ (r = 10 ∧ (nd M i).kind = 4) ∨ ((nd M i).kind = 5 ∧ ((r = 4 ∧ (nd M (nd M i).l).kind = 1) ∨ (r = 5 ∧ (nd M (nd M i).l).kind = 2) ∨ (r = 6 ∧ (nd M (nd M i).l).kind = 3) ∨ (r = 7 ∧ (nd M (nd M i).l).kind = 4) ∨ (r = 13 ∧ (nd M (nd M i).l).kind = 5))) := by
  by_cases k2 : (nd M i).kind = 2
  · rw [onV, if_pos k2] at h; exact .inl ⟨h.symm, k2⟩
  by_cases k3 : (nd M i).kind = 3
  · rw [onV, if_neg k2, if_pos k3] at h; exact .inr (.inl ⟨h.symm, k3⟩)
  by_cases k4 : (nd M i).kind = 4
  · rw [onV, if_neg k2, if_neg k3, if_pos k4] at h; exact .inr (.inr (.inl ⟨h.symm, k4⟩))
  by_cases k5 : (nd M i).kind = 5
  · rw [onV, if_neg k2, if_neg k3, if_neg k4, if_pos k5] at h
    refine .inr (.inr (.inr ⟨k5, ?_⟩))
    by_cases c1 : (nd M (nd M i).l).kind = 1
    · rw [if_pos c1] at h
      split at h
      · exact .inl ⟨h.symm, c1⟩
      · exact absurd h.symm h0
    rw [if_neg c1] at h
    by_cases c2 : (nd M (nd M i).l).kind = 2
    · rw [if_pos c2] at h; exact .inr (.inl ⟨h.symm, c2⟩)
    rw [if_neg c2] at h
    by_cases c3 : (nd M (nd M i).l).kind = 3
    · rw [if_pos c3] at h; exact .inr (.inr (.inl ⟨h.symm, c3⟩))
    rw [if_neg c3] at h
    by_cases c4 : (nd M (nd M i).l).kind = 4
    · rw [if_pos c4] at h; exact .inr (.inr (.inr (.inl ⟨h.symm, c4⟩)))
    rw [if_neg c4] at h
    by_cases c5 : (nd M (nd M i).l).kind = 5
    · rw [if_pos c5] at h; exact .inr (.inr (.inr (.inr ⟨h.symm, c5⟩)))
    rw [if_neg c5] at h
    exact absurd h.symm h0
  · rw [onV, if_neg k2, if_neg k3, if_neg k4, if_neg k5] at h; exact absurd h.symm h0
theorem fits_cases {M : List Nd} {s : Sq} {r i : Int} (h : fitsV M s r i = true) : inb i M.length = true ∧ (r = 2 ∨ (r = 8 ∧ (nd M i).kind = 5) ∨ (r = 9 ∧ (nd M i).kind = 3) ∨ ((r = 11 ∨ r = 12) ∧ (nd M i).kind = 4) ∨ (r = 1 ∧ (nd M i).kind = 2) ∨ (r = 3 ∧ (nd M i).kind = 3) ∨ (r = 10 ∧ (nd M i).kind = 4) ∨ ((nd M i).kind = 5 ∧ ((r = 4 ∧ (nd M (nd M i).l).kind = 1) ∨ (r = 5 ∧ (nd M (nd M i).l).kind = 2) ∨ (r = 6 ∧ (nd M (nd M i).l).kind = 3) ∨ (r = 7 ∧ (nd M (nd M i).l).kind = 4) ∨ (r = 13 ∧ (nd M (nd M i).l).kind = 5)))) := by
  unfold fitsV at h
  cases hi : inb i M.length with
  | false => simp [hi] at h
  | true =>
    refine ⟨rfl, ?_⟩
    simp only [hi, Bool.true_eq_false, if_false] at h
    split at h
    · exact .inl ‹_›
    split at h
    · simp only [Bool.and_eq_true, decide_eq_true_eq] at h; exact .inr (.inl ⟨‹_›, h.2⟩)
    split at h
    · simp only [Bool.and_eq_true, decide_eq_true_eq] at h; exact .inr (.inr (.inl ⟨‹_›, h.2⟩))
    split at h
    · simp only [Bool.and_eq_true, decide_eq_true_eq] at h; exact .inr (.inr (.inr (.inl ⟨‹_›, h.2⟩)))
    · simp only [Bool.and_eq_true, decide_eq_true_eq, ne_eq] at h
      exact .inr (.inr (.inr (.inr (on_cases h.2 h.1.1))))
theorem prem_2 {M : List Nd} {s : Sq} {i : Int} (hw : Wf M) (hl : lookV M s = true) (hb : s.left.okB = true) (hf : fitsV M s 2 i = true) (hi : inb i M.length = true) : Agree M s 2 i := by
  have h := lookV_rt hb hl
  have hd := hw.nodup
  unfold Agree
  have hP : ∀ M' L, rule_premises.f (some M) s 2 i = some (some M', L, 0) → rule_Premises.f (some M) s 2 i = some (some M', L, 0) := by
    intro M' L e
    simp [rule_Premises.f, look_some hb, hl, fits_some hb, hf, formula_Table_Len.f, e]
  have hE : ∀ N L e, e ≠ 0 → rule_premises.f (some M) s 2 i = some (some N, L, e) → N.take M.length = M → N.Nodup → M.length ≤ N.length → rule_Premises.f (some M) s 2 i = some (some M, [], e) := by
    intro N L e he e1 h1 h2 h3
    simp [rule_Premises.f, look_some hb, hl, fits_some hb, hf, formula_Table_Len.f, e1, he, cutP h1 h2 h3]
  have hbd : ({ s with left := s.left.del i } : Sq).left.okB = true := okB_del i
  have k345 : (nd M i).kind = 3 ∨ (nd M i).kind = 4 ∨ (nd M i).kind = 5 → (0 ≤ (nd M i).l ∧ (nd M i).l < 1024) ∧ (0 ≤ (nd M i).r ∧ (nd M i).r < 1024) := fun k => ⟨in1024 hw.len (hw.left hi k), in1024 hw.len (hw.right hi k)⟩
  exact ⟨M, [], 0, hP _ _ (by simp -implicitDefEqProofs [rule_premises.f, node_some, bits_Drop.f, chk, hb]), by simp -implicitDefEqProofs [ref09_Premises.f, docFits hw hb, hf, chk, hi, nd_at hi, ref05_Drop.f, hb]⟩
theorem prem_8 {M : List Nd} {s : Sq} {i : Int} (hw : Wf M) (hl : lookV M s = true) (hb : s.left.okB = true) (hf : fitsV M s 8 i = true) (hi : inb i M.length = true) (k : (nd M i).kind = 5) : Agree M s 8 i := by
  have h := lookV_rt hb hl
  have hd := hw.nodup
  unfold Agree
  have hP : ∀ M' L, rule_premises.f (some M) s 8 i = some (some M', L, 0) → rule_Premises.f (some M) s 8 i = some (some M', L, 0) := by
    intro M' L e
    simp [rule_Premises.f, look_some hb, hl, fits_some hb, hf, formula_Table_Len.f, e]
  have hE : ∀ N L e, e ≠ 0 → rule_premises.f (some M) s 8 i = some (some N, L, e) → N.take M.length = M → N.Nodup → M.length ≤ N.length → rule_Premises.f (some M) s 8 i = some (some M, [], e) := by
    intro N L e he e1 h1 h2 h3
    simp [rule_Premises.f, look_some hb, hl, fits_some hb, hf, formula_Table_Len.f, e1, he, cutP h1 h2 h3]
  have hbd : ({ s with left := s.left.del i } : Sq).left.okB = true := okB_del i
  have k345 : (nd M i).kind = 3 ∨ (nd M i).kind = 4 ∨ (nd M i).kind = 5 → (0 ≤ (nd M i).l ∧ (nd M i).l < 1024) ∧ (0 ≤ (nd M i).r ∧ (nd M i).r < 1024) := fun k => ⟨in1024 hw.len (hw.left hi k), in1024 hw.len (hw.right hi k)⟩
  obtain ⟨hx, hy⟩ := k345 (.inr (.inr k))
  exact ⟨M, _, 0, hP _ _ (by simp -implicitDefEqProofs [rule_premises.f, node_some, bits_Drop.f, chk, hb, withP1 hb hx, rule_to.f]; rfl), by simp -implicitDefEqProofs [ref09_Premises.f, docFits hw hb, hf, chk, hi, nd_at hi, ref05_Drop.f, hb, withD1 hb hx, ref09_to.f]⟩
theorem prem_9 {M : List Nd} {s : Sq} {i : Int} (hw : Wf M) (hl : lookV M s = true) (hb : s.left.okB = true) (hf : fitsV M s 9 i = true) (hi : inb i M.length = true) (k : (nd M i).kind = 3) : Agree M s 9 i := by
  have h := lookV_rt hb hl
  have hd := hw.nodup
  unfold Agree
  have hP : ∀ M' L, rule_premises.f (some M) s 9 i = some (some M', L, 0) → rule_Premises.f (some M) s 9 i = some (some M', L, 0) := by
    intro M' L e
    simp [rule_Premises.f, look_some hb, hl, fits_some hb, hf, formula_Table_Len.f, e]
  have hE : ∀ N L e, e ≠ 0 → rule_premises.f (some M) s 9 i = some (some N, L, e) → N.take M.length = M → N.Nodup → M.length ≤ N.length → rule_Premises.f (some M) s 9 i = some (some M, [], e) := by
    intro N L e he e1 h1 h2 h3
    simp [rule_Premises.f, look_some hb, hl, fits_some hb, hf, formula_Table_Len.f, e1, he, cutP h1 h2 h3]
  have hbd : ({ s with left := s.left.del i } : Sq).left.okB = true := okB_del i
  have k345 : (nd M i).kind = 3 ∨ (nd M i).kind = 4 ∨ (nd M i).kind = 5 → (0 ≤ (nd M i).l ∧ (nd M i).l < 1024) ∧ (0 ≤ (nd M i).r ∧ (nd M i).r < 1024) := fun k => ⟨in1024 hw.len (hw.left hi k), in1024 hw.len (hw.right hi k)⟩
  exact ⟨M, _, 0, hP _ _ (by simp -implicitDefEqProofs [rule_premises.f, node_some, bits_Drop.f, chk, hb, rule_to.f]; rfl), by simp -implicitDefEqProofs [ref09_Premises.f, docFits hw hb, hf, chk, hi, nd_at hi, ref05_Drop.f, hb, ref09_to.f]⟩
theorem prem_11 {M : List Nd} {s : Sq} {i : Int} (hw : Wf M) (hl : lookV M s = true) (hb : s.left.okB = true) (hf : fitsV M s 11 i = true) (hi : inb i M.length = true) (k : (nd M i).kind = 4) : Agree M s 11 i := by
  have h := lookV_rt hb hl
  have hd := hw.nodup
  unfold Agree
  have hP : ∀ M' L, rule_premises.f (some M) s 11 i = some (some M', L, 0) → rule_Premises.f (some M) s 11 i = some (some M', L, 0) := by
    intro M' L e
    simp [rule_Premises.f, look_some hb, hl, fits_some hb, hf, formula_Table_Len.f, e]
  have hE : ∀ N L e, e ≠ 0 → rule_premises.f (some M) s 11 i = some (some N, L, e) → N.take M.length = M → N.Nodup → M.length ≤ N.length → rule_Premises.f (some M) s 11 i = some (some M, [], e) := by
    intro N L e he e1 h1 h2 h3
    simp [rule_Premises.f, look_some hb, hl, fits_some hb, hf, formula_Table_Len.f, e1, he, cutP h1 h2 h3]
  have hbd : ({ s with left := s.left.del i } : Sq).left.okB = true := okB_del i
  have k345 : (nd M i).kind = 3 ∨ (nd M i).kind = 4 ∨ (nd M i).kind = 5 → (0 ≤ (nd M i).l ∧ (nd M i).l < 1024) ∧ (0 ≤ (nd M i).r ∧ (nd M i).r < 1024) := fun k => ⟨in1024 hw.len (hw.left hi k), in1024 hw.len (hw.right hi k)⟩
  exact ⟨M, _, 0, hP _ _ (by simp -implicitDefEqProofs [rule_premises.f, node_some, bits_Drop.f, chk, hb, rule_to.f]; rfl), by simp -implicitDefEqProofs [ref09_Premises.f, docFits hw hb, hf, chk, hi, nd_at hi, ref05_Drop.f, hb, ref09_to.f]⟩
theorem prem_12 {M : List Nd} {s : Sq} {i : Int} (hw : Wf M) (hl : lookV M s = true) (hb : s.left.okB = true) (hf : fitsV M s 12 i = true) (hi : inb i M.length = true) (k : (nd M i).kind = 4) : Agree M s 12 i := by
  have h := lookV_rt hb hl
  have hd := hw.nodup
  unfold Agree
  have hP : ∀ M' L, rule_premises.f (some M) s 12 i = some (some M', L, 0) → rule_Premises.f (some M) s 12 i = some (some M', L, 0) := by
    intro M' L e
    simp [rule_Premises.f, look_some hb, hl, fits_some hb, hf, formula_Table_Len.f, e]
  have hE : ∀ N L e, e ≠ 0 → rule_premises.f (some M) s 12 i = some (some N, L, e) → N.take M.length = M → N.Nodup → M.length ≤ N.length → rule_Premises.f (some M) s 12 i = some (some M, [], e) := by
    intro N L e he e1 h1 h2 h3
    simp [rule_Premises.f, look_some hb, hl, fits_some hb, hf, formula_Table_Len.f, e1, he, cutP h1 h2 h3]
  have hbd : ({ s with left := s.left.del i } : Sq).left.okB = true := okB_del i
  have k345 : (nd M i).kind = 3 ∨ (nd M i).kind = 4 ∨ (nd M i).kind = 5 → (0 ≤ (nd M i).l ∧ (nd M i).l < 1024) ∧ (0 ≤ (nd M i).r ∧ (nd M i).r < 1024) := fun k => ⟨in1024 hw.len (hw.left hi k), in1024 hw.len (hw.right hi k)⟩
  exact ⟨M, _, 0, hP _ _ (by simp -implicitDefEqProofs [rule_premises.f, node_some, bits_Drop.f, chk, hb, rule_to.f]; rfl), by simp -implicitDefEqProofs [ref09_Premises.f, docFits hw hb, hf, chk, hi, nd_at hi, ref05_Drop.f, hb, ref09_to.f]⟩
theorem prem_1 {M : List Nd} {s : Sq} {i : Int} (hw : Wf M) (hl : lookV M s = true) (hb : s.left.okB = true) (hf : fitsV M s 1 i = true) (hi : inb i M.length = true) (k : (nd M i).kind = 2) : Agree M s 1 i := by
  have h := lookV_rt hb hl
  have hd := hw.nodup
  unfold Agree
  have hP : ∀ M' L, rule_premises.f (some M) s 1 i = some (some M', L, 0) → rule_Premises.f (some M) s 1 i = some (some M', L, 0) := by
    intro M' L e
    simp [rule_Premises.f, look_some hb, hl, fits_some hb, hf, formula_Table_Len.f, e]
  have hE : ∀ N L e, e ≠ 0 → rule_premises.f (some M) s 1 i = some (some N, L, e) → N.take M.length = M → N.Nodup → M.length ≤ N.length → rule_Premises.f (some M) s 1 i = some (some M, [], e) := by
    intro N L e he e1 h1 h2 h3
    simp [rule_Premises.f, look_some hb, hl, fits_some hb, hf, formula_Table_Len.f, e1, he, cutP h1 h2 h3]
  have hbd : ({ s with left := s.left.del i } : Sq).left.okB = true := okB_del i
  have k345 : (nd M i).kind = 3 ∨ (nd M i).kind = 4 ∨ (nd M i).kind = 5 → (0 ≤ (nd M i).l ∧ (nd M i).l < 1024) ∧ (0 ≤ (nd M i).r ∧ (nd M i).r < 1024) := fun k => ⟨in1024 hw.len (hw.left hi k), in1024 hw.len (hw.right hi k)⟩
  exact ⟨M, [], 0, hP _ _ (by simp -implicitDefEqProofs [rule_premises.f, node_some, bits_Drop.f, chk, hb]), by simp -implicitDefEqProofs [ref09_Premises.f, docFits hw hb, hf, chk, hi, nd_at hi, ref05_Drop.f, hb]⟩
theorem prem_3 {M : List Nd} {s : Sq} {i : Int} (hw : Wf M) (hl : lookV M s = true) (hb : s.left.okB = true) (hf : fitsV M s 3 i = true) (hi : inb i M.length = true) (k : (nd M i).kind = 3) : Agree M s 3 i := by
  have h := lookV_rt hb hl
  have hd := hw.nodup
  unfold Agree
  have hP : ∀ M' L, rule_premises.f (some M) s 3 i = some (some M', L, 0) → rule_Premises.f (some M) s 3 i = some (some M', L, 0) := by
    intro M' L e
    simp [rule_Premises.f, look_some hb, hl, fits_some hb, hf, formula_Table_Len.f, e]
  have hE : ∀ N L e, e ≠ 0 → rule_premises.f (some M) s 3 i = some (some N, L, e) → N.take M.length = M → N.Nodup → M.length ≤ N.length → rule_Premises.f (some M) s 3 i = some (some M, [], e) := by
    intro N L e he e1 h1 h2 h3
    simp [rule_Premises.f, look_some hb, hl, fits_some hb, hf, formula_Table_Len.f, e1, he, cutP h1 h2 h3]
  have hbd : ({ s with left := s.left.del i } : Sq).left.okB = true := okB_del i
  have k345 : (nd M i).kind = 3 ∨ (nd M i).kind = 4 ∨ (nd M i).kind = 5 → (0 ≤ (nd M i).l ∧ (nd M i).l < 1024) ∧ (0 ≤ (nd M i).r ∧ (nd M i).r < 1024) := fun k => ⟨in1024 hw.len (hw.left hi k), in1024 hw.len (hw.right hi k)⟩
  obtain ⟨hx, hy⟩ := k345 (.inl k)
  obtain ⟨q, p1, p2⟩ := both2 (g := s.goal) (okB_del (b := s.left) i) hx hy
  exact ⟨M, _, 0, hP _ _ (by simp -implicitDefEqProofs [rule_premises.f, node_some, bits_Drop.f, chk, hb, p1]; rfl), by simp -implicitDefEqProofs [ref09_Premises.f, docFits hw hb, hf, chk, hi, nd_at hi, ref05_Drop.f, hb, p2]⟩
theorem prem_10 {M : List Nd} {s : Sq} {i : Int} (hw : Wf M) (hl : lookV M s = true) (hb : s.left.okB = true) (hf : fitsV M s 10 i = true) (hi : inb i M.length = true) (k : (nd M i).kind = 4) : Agree M s 10 i := by
  have h := lookV_rt hb hl
  have hd := hw.nodup
  unfold Agree
  have hP : ∀ M' L, rule_premises.f (some M) s 10 i = some (some M', L, 0) → rule_Premises.f (some M) s 10 i = some (some M', L, 0) := by
    intro M' L e
    simp [rule_Premises.f, look_some hb, hl, fits_some hb, hf, formula_Table_Len.f, e]
  have hE : ∀ N L e, e ≠ 0 → rule_premises.f (some M) s 10 i = some (some N, L, e) → N.take M.length = M → N.Nodup → M.length ≤ N.length → rule_Premises.f (some M) s 10 i = some (some M, [], e) := by
    intro N L e he e1 h1 h2 h3
    simp [rule_Premises.f, look_some hb, hl, fits_some hb, hf, formula_Table_Len.f, e1, he, cutP h1 h2 h3]
  have hbd : ({ s with left := s.left.del i } : Sq).left.okB = true := okB_del i
  have k345 : (nd M i).kind = 3 ∨ (nd M i).kind = 4 ∨ (nd M i).kind = 5 → (0 ≤ (nd M i).l ∧ (nd M i).l < 1024) ∧ (0 ≤ (nd M i).r ∧ (nd M i).r < 1024) := fun k => ⟨in1024 hw.len (hw.left hi k), in1024 hw.len (hw.right hi k)⟩
  obtain ⟨hx, hy⟩ := k345 (.inr (.inl k))
  obtain ⟨q, p1, p2⟩ := both1 (g := s.goal) (okB_del (b := s.left) i) hx
  obtain ⟨q', p3, p4⟩ := both1 (g := s.goal) (okB_del (b := s.left) i) hy
  exact ⟨M, _, 0, hP _ _ (by simp -implicitDefEqProofs [rule_premises.f, node_some, bits_Drop.f, chk, hb, p1, p3]; rfl), by simp -implicitDefEqProofs [ref09_Premises.f, docFits hw hb, hf, chk, hi, nd_at hi, ref05_Drop.f, hb, p2, p4]⟩
theorem prem_4 {M : List Nd} {s : Sq} {i : Int} (hw : Wf M) (hl : lookV M s = true) (hb : s.left.okB = true) (hf : fitsV M s 4 i = true) (hi : inb i M.length = true) (k : (nd M i).kind = 5) (c : (nd M (nd M i).l).kind = 1) : Agree M s 4 i := by
  have h := lookV_rt hb hl
  have hd := hw.nodup
  unfold Agree
  have hP : ∀ M' L, rule_premises.f (some M) s 4 i = some (some M', L, 0) → rule_Premises.f (some M) s 4 i = some (some M', L, 0) := by
    intro M' L e
    simp [rule_Premises.f, look_some hb, hl, fits_some hb, hf, formula_Table_Len.f, e]
  have hE : ∀ N L e, e ≠ 0 → rule_premises.f (some M) s 4 i = some (some N, L, e) → N.take M.length = M → N.Nodup → M.length ≤ N.length → rule_Premises.f (some M) s 4 i = some (some M, [], e) := by
    intro N L e he e1 h1 h2 h3
    simp [rule_Premises.f, look_some hb, hl, fits_some hb, hf, formula_Table_Len.f, e1, he, cutP h1 h2 h3]
  have hbd : ({ s with left := s.left.del i } : Sq).left.okB = true := okB_del i
  have k345 : (nd M i).kind = 3 ∨ (nd M i).kind = 4 ∨ (nd M i).kind = 5 → (0 ≤ (nd M i).l ∧ (nd M i).l < 1024) ∧ (0 ≤ (nd M i).r ∧ (nd M i).r < 1024) := fun k => ⟨in1024 hw.len (hw.left hi k), in1024 hw.len (hw.right hi k)⟩
  obtain ⟨hx, hy⟩ := k345 (.inr (.inr k))
  have hli := hw.left hi (.inr (.inr k))
  obtain ⟨q, p1, p2⟩ := both1 (g := s.goal) (okB_del (b := s.left) i) hy
  exact ⟨M, _, 0, hP _ _ (by simp -implicitDefEqProofs [rule_premises.f, node_some, bits_Drop.f, chk, hb, p1]; rfl), by simp -implicitDefEqProofs [ref09_Premises.f, docFits hw hb, hf, chk, hi, nd_at hi, ref05_Drop.f, hb, p2]⟩
theorem prem_5 {M : List Nd} {s : Sq} {i : Int} (hw : Wf M) (hl : lookV M s = true) (hb : s.left.okB = true) (hf : fitsV M s 5 i = true) (hi : inb i M.length = true) (k : (nd M i).kind = 5) (c : (nd M (nd M i).l).kind = 2) : Agree M s 5 i := by
  have h := lookV_rt hb hl
  have hd := hw.nodup
  unfold Agree
  have hP : ∀ M' L, rule_premises.f (some M) s 5 i = some (some M', L, 0) → rule_Premises.f (some M) s 5 i = some (some M', L, 0) := by
    intro M' L e
    simp [rule_Premises.f, look_some hb, hl, fits_some hb, hf, formula_Table_Len.f, e]
  have hE : ∀ N L e, e ≠ 0 → rule_premises.f (some M) s 5 i = some (some N, L, e) → N.take M.length = M → N.Nodup → M.length ≤ N.length → rule_Premises.f (some M) s 5 i = some (some M, [], e) := by
    intro N L e he e1 h1 h2 h3
    simp [rule_Premises.f, look_some hb, hl, fits_some hb, hf, formula_Table_Len.f, e1, he, cutP h1 h2 h3]
  have hbd : ({ s with left := s.left.del i } : Sq).left.okB = true := okB_del i
  have k345 : (nd M i).kind = 3 ∨ (nd M i).kind = 4 ∨ (nd M i).kind = 5 → (0 ≤ (nd M i).l ∧ (nd M i).l < 1024) ∧ (0 ≤ (nd M i).r ∧ (nd M i).r < 1024) := fun k => ⟨in1024 hw.len (hw.left hi k), in1024 hw.len (hw.right hi k)⟩
  obtain ⟨hx, hy⟩ := k345 (.inr (.inr k))
  have hli := hw.left hi (.inr (.inr k))
  exact ⟨M, _, 0, hP _ _ (by simp -implicitDefEqProofs [rule_premises.f, node_some, bits_Drop.f, chk, hb]; rfl), by simp -implicitDefEqProofs [ref09_Premises.f, docFits hw hb, hf, chk, hi, nd_at hi, ref05_Drop.f, hb]⟩
theorem prem_6 {M : List Nd} {s : Sq} {i : Int} (hw : Wf M) (hl : lookV M s = true) (hb : s.left.okB = true) (hf : fitsV M s 6 i = true) (hi : inb i M.length = true) (k : (nd M i).kind = 5) (c : (nd M (nd M i).l).kind = 3) : Agree M s 6 i := by
  have h := lookV_rt hb hl
  have hd := hw.nodup
  unfold Agree
  have hP : ∀ M' L, rule_premises.f (some M) s 6 i = some (some M', L, 0) → rule_Premises.f (some M) s 6 i = some (some M', L, 0) := by
    intro M' L e
    simp [rule_Premises.f, look_some hb, hl, fits_some hb, hf, formula_Table_Len.f, e]
  have hE : ∀ N L e, e ≠ 0 → rule_premises.f (some M) s 6 i = some (some N, L, e) → N.take M.length = M → N.Nodup → M.length ≤ N.length → rule_Premises.f (some M) s 6 i = some (some M, [], e) := by
    intro N L e he e1 h1 h2 h3
    simp [rule_Premises.f, look_some hb, hl, fits_some hb, hf, formula_Table_Len.f, e1, he, cutP h1 h2 h3]
  have hbd : ({ s with left := s.left.del i } : Sq).left.okB = true := okB_del i
  have k345 : (nd M i).kind = 3 ∨ (nd M i).kind = 4 ∨ (nd M i).kind = 5 → (0 ≤ (nd M i).l ∧ (nd M i).l < 1024) ∧ (0 ≤ (nd M i).r ∧ (nd M i).r < 1024) := fun k => ⟨in1024 hw.len (hw.left hi k), in1024 hw.len (hw.right hi k)⟩
  obtain ⟨hx, hy⟩ := k345 (.inr (.inr k))
  have hli := hw.left hi (.inr (.inr k))
  have hkk := hw.kids _ hli (.inl c)
  have hc0 : ¬ (nd M (nd M i).l).l < 0 := by omega
  have hc1 : ¬ (nd M (nd M i).l).r < 0 := by omega
  have hr0 : ¬ (nd M i).r < 0 := by omega
  obtain ⟨a1, b1, t1, d1, l1, g1⟩ := put_props (n := impN (nd M (nd M i).l).r (nd M i).r) hw.len hd
  generalize hp1 : putS M (impN (nd M (nd M i).l).r (nd M i).r) = P1 at a1 b1 t1 d1 l1 g1
  by_cases e1 : P1.2.2 = 0
  · obtain ⟨a2, b2, t2, d2, l2, g2⟩ := put_props (n := impN (nd M (nd M i).l).l P1.2.1) l1 d1
    generalize hp2 : putS P1.1 (impN (nd M (nd M i).l).l P1.2.1) = P2 at a2 b2 t2 d2 l2 g2
    have tt : P2.1.take M.length = M := by
      have := congrArg (List.take M.length) t2
      rw [List.take_take, Nat.min_eq_left g1, t1] at this
      exact this
    by_cases e2 : P2.2.2 = 0
    · obtain ⟨q, p1, p2⟩ := both1 (g := s.goal) (okB_del (b := s.left) i) (b2 e2)
      exact ⟨P2.1, [q], 0, hP _ _ (by simp -implicitDefEqProofs [rule_premises.f, node_some, bits_Drop.f, chk, hb, rule_pair.f, rule_imps__rule_pair_1__rule_premises_1.f, rule_pair_1.f, rule_premises_1.f, impP, hp1, hp2, e1, e2, at_, inb, p1]), by simp -implicitDefEqProofs [ref09_Premises.f, docFits hw hb, hf, chk, hi, hli, nd_at hi, nd_at hli, ref05_Drop.f, hb, ref09_imps.f, impD hw.len, impD l1, hp1, hp2, e1, e2, hc0, hc1, hr0, p2]⟩
    · exact ⟨M, [], P2.2.2, hE P2.1 [] _ e2 (by simp -implicitDefEqProofs [rule_premises.f, node_some, bits_Drop.f, chk, hb, rule_pair.f, rule_imps__rule_pair_1__rule_premises_1.f, rule_pair_1.f, rule_premises_1.f, impP, hp1, hp2, e1, e2, at_, inb]) tt d2 (by omega), by simp -implicitDefEqProofs [ref09_Premises.f, docFits hw hb, hf, chk, hi, hli, nd_at hi, nd_at hli, ref05_Drop.f, hb, ref09_imps.f, impD hw.len, impD l1, hp1, hp2, e1, e2, hc0, hc1, hr0, cutD tt (by omega)]⟩
  · exact ⟨M, [], P1.2.2, hE P1.1 [] _ e1 (by simp -implicitDefEqProofs [rule_premises.f, node_some, bits_Drop.f, chk, hb, rule_pair.f, rule_imps__rule_pair_1__rule_premises_1.f, rule_pair_1.f, rule_premises_1.f, impP, hp1, e1, at_, inb]) t1 d1 g1, by simp -implicitDefEqProofs [ref09_Premises.f, docFits hw hb, hf, chk, hi, hli, nd_at hi, nd_at hli, ref05_Drop.f, hb, ref09_imps.f, impD hw.len, hp1, e1, a1 e1]⟩
theorem prem_7 {M : List Nd} {s : Sq} {i : Int} (hw : Wf M) (hl : lookV M s = true) (hb : s.left.okB = true) (hf : fitsV M s 7 i = true) (hi : inb i M.length = true) (k : (nd M i).kind = 5) (c : (nd M (nd M i).l).kind = 4) : Agree M s 7 i := by
  have h := lookV_rt hb hl
  have hd := hw.nodup
  unfold Agree
  have hP : ∀ M' L, rule_premises.f (some M) s 7 i = some (some M', L, 0) → rule_Premises.f (some M) s 7 i = some (some M', L, 0) := by
    intro M' L e
    simp [rule_Premises.f, look_some hb, hl, fits_some hb, hf, formula_Table_Len.f, e]
  have hE : ∀ N L e, e ≠ 0 → rule_premises.f (some M) s 7 i = some (some N, L, e) → N.take M.length = M → N.Nodup → M.length ≤ N.length → rule_Premises.f (some M) s 7 i = some (some M, [], e) := by
    intro N L e he e1 h1 h2 h3
    simp [rule_Premises.f, look_some hb, hl, fits_some hb, hf, formula_Table_Len.f, e1, he, cutP h1 h2 h3]
  have hbd : ({ s with left := s.left.del i } : Sq).left.okB = true := okB_del i
  have k345 : (nd M i).kind = 3 ∨ (nd M i).kind = 4 ∨ (nd M i).kind = 5 → (0 ≤ (nd M i).l ∧ (nd M i).l < 1024) ∧ (0 ≤ (nd M i).r ∧ (nd M i).r < 1024) := fun k => ⟨in1024 hw.len (hw.left hi k), in1024 hw.len (hw.right hi k)⟩
  obtain ⟨hx, hy⟩ := k345 (.inr (.inr k))
  have hli := hw.left hi (.inr (.inr k))
  have hkk := hw.kids _ hli (.inr (.inl c))
  have hc0 : ¬ (nd M (nd M i).l).l < 0 := by omega
  have hc1 : ¬ (nd M (nd M i).l).r < 0 := by omega
  have hr0 : ¬ (nd M i).r < 0 := by omega
  obtain ⟨a1, b1, t1, d1, l1, g1⟩ := put_props (n := impN (nd M (nd M i).l).l (nd M i).r) hw.len hd
  generalize hp1 : putS M (impN (nd M (nd M i).l).l (nd M i).r) = P1 at a1 b1 t1 d1 l1 g1
  by_cases e1 : P1.2.2 = 0
  · obtain ⟨a2, b2, t2, d2, l2, g2⟩ := put_props (n := impN (nd M (nd M i).l).r (nd M i).r) l1 d1
    generalize hp2 : putS P1.1 (impN (nd M (nd M i).l).r (nd M i).r) = P2 at a2 b2 t2 d2 l2 g2
    have tt : P2.1.take M.length = M := by
      have := congrArg (List.take M.length) t2
      rw [List.take_take, Nat.min_eq_left g1, t1] at this
      exact this
    by_cases e2 : P2.2.2 = 0
    · obtain ⟨q, p1, p2⟩ := both2 (g := s.goal) (okB_del (b := s.left) i) (b1 e1) (b2 e2)
      exact ⟨P2.1, [q], 0, hP _ _ (by simp -implicitDefEqProofs [rule_premises.f, node_some, bits_Drop.f, chk, hb, rule_pair.f, rule_imps__rule_pair_1__rule_pair_1.f, rule_pair_1.f, rule_premises_1.f, impP, hp1, hp2, e1, e2, at_, inb, p1]), by simp -implicitDefEqProofs [ref09_Premises.f, docFits hw hb, hf, chk, hi, hli, nd_at hi, nd_at hli, ref05_Drop.f, hb, ref09_imps.f, impD hw.len, impD l1, hp1, hp2, e1, e2, hc0, hc1, hr0, p2]⟩
    · exact ⟨M, [], P2.2.2, hE P2.1 [] _ e2 (by simp -implicitDefEqProofs [rule_premises.f, node_some, bits_Drop.f, chk, hb, rule_pair.f, rule_imps__rule_pair_1__rule_pair_1.f, rule_pair_1.f, rule_premises_1.f, impP, hp1, hp2, e1, e2, at_, inb]) tt d2 (by omega), by simp -implicitDefEqProofs [ref09_Premises.f, docFits hw hb, hf, chk, hi, hli, nd_at hi, nd_at hli, ref05_Drop.f, hb, ref09_imps.f, impD hw.len, impD l1, hp1, hp2, e1, e2, hc0, hc1, hr0, cutD tt (by omega)]⟩
  · exact ⟨M, [], P1.2.2, hE P1.1 [] _ e1 (by simp -implicitDefEqProofs [rule_premises.f, node_some, bits_Drop.f, chk, hb, rule_pair.f, rule_imps__rule_pair_1__rule_pair_1.f, rule_pair_1.f, rule_premises_1.f, impP, hp1, e1, at_, inb]) t1 d1 g1, by simp -implicitDefEqProofs [ref09_Premises.f, docFits hw hb, hf, chk, hi, hli, nd_at hi, nd_at hli, ref05_Drop.f, hb, ref09_imps.f, impD hw.len, hp1, e1, a1 e1]⟩
theorem prem_13 {M : List Nd} {s : Sq} {i : Int} (hw : Wf M) (hl : lookV M s = true) (hb : s.left.okB = true) (hf : fitsV M s 13 i = true) (hi : inb i M.length = true) (k : (nd M i).kind = 5) (c : (nd M (nd M i).l).kind = 5) : Agree M s 13 i := by
  have h := lookV_rt hb hl
  have hd := hw.nodup
  unfold Agree
  have hP : ∀ M' L, rule_premises.f (some M) s 13 i = some (some M', L, 0) → rule_Premises.f (some M) s 13 i = some (some M', L, 0) := by
    intro M' L e
    simp [rule_Premises.f, look_some hb, hl, fits_some hb, hf, formula_Table_Len.f, e]
  have hE : ∀ N L e, e ≠ 0 → rule_premises.f (some M) s 13 i = some (some N, L, e) → N.take M.length = M → N.Nodup → M.length ≤ N.length → rule_Premises.f (some M) s 13 i = some (some M, [], e) := by
    intro N L e he e1 h1 h2 h3
    simp [rule_Premises.f, look_some hb, hl, fits_some hb, hf, formula_Table_Len.f, e1, he, cutP h1 h2 h3]
  have hbd : ({ s with left := s.left.del i } : Sq).left.okB = true := okB_del i
  have k345 : (nd M i).kind = 3 ∨ (nd M i).kind = 4 ∨ (nd M i).kind = 5 → (0 ≤ (nd M i).l ∧ (nd M i).l < 1024) ∧ (0 ≤ (nd M i).r ∧ (nd M i).r < 1024) := fun k => ⟨in1024 hw.len (hw.left hi k), in1024 hw.len (hw.right hi k)⟩
  obtain ⟨hx, hy⟩ := k345 (.inr (.inr k))
  have hli := hw.left hi (.inr (.inr k))
  obtain ⟨a1, b1, t1, d1, l1, g1⟩ := put_props (n := impN (nd M (nd M i).l).r (nd M i).r) hw.len hd
  generalize hp1 : putS M (impN (nd M (nd M i).l).r (nd M i).r) = P1 at a1 b1 t1 d1 l1 g1
  by_cases e1 : P1.2.2 = 0
  · obtain ⟨q, p1, p2⟩ := both1 (g := s.goal) (okB_del (b := s.left) i) (b1 e1)
    obtain ⟨q', p3, p4⟩ := both1 (g := s.goal) (okB_del (b := s.left) i) hy
    exact ⟨P1.1, _, 0, hP _ _ (by simp -implicitDefEqProofs [rule_premises.f, node_some, bits_Drop.f, chk, hb, rule_pair.f, rule_imps__rule_pair_1.f, rule_pair_1.f, impP, hp1, e1, at_, inb, p1, p3, rule_to.f]; rfl), by simp -implicitDefEqProofs [ref09_Premises.f, docFits hw hb, hf, chk, hi, hli, nd_at hi, nd_at hli, ref05_Drop.f, hb, impD hw.len, hp1, e1, p2, p4, ref09_to.f]⟩
  · exact ⟨M, [], P1.2.2, hE P1.1 [] _ e1 (by simp -implicitDefEqProofs [rule_premises.f, node_some, bits_Drop.f, chk, hb, rule_pair.f, rule_imps__rule_pair_1.f, rule_pair_1.f, impP, hp1, e1, at_, inb]) t1 d1 g1, by simp -implicitDefEqProofs [ref09_Premises.f, docFits hw hb, hf, chk, hi, hli, nd_at hi, nd_at hli, ref05_Drop.f, hb, impD hw.len, hp1, e1, a1 e1]⟩
theorem prem_eq {M : List Nd} {s : Sq} {r i : Int} (hw : Wf M) (hl : lookV M s = true) (hb : s.left.okB = true) : Agree M s r i := by
  cases hf : fitsV M s r i with
  | false => exact ⟨M, [], 90, by simp [rule_Premises.f, look_some hb, hl, fits_some hb, hf], by simp [ref09_Premises.f, docFits hw hb, hf]⟩
  | true =>
    obtain ⟨hi, hc⟩ := fits_cases hf
    rcases hc with rfl | ⟨rfl, k⟩ | ⟨rfl, k⟩ | ⟨hr, k⟩ | ⟨rfl, k⟩ | ⟨rfl, k⟩ | ⟨rfl, k⟩ | ⟨k, hc⟩
    · exact prem_2 hw hl hb hf hi
    · exact prem_8 hw hl hb hf hi k
    · exact prem_9 hw hl hb hf hi k
    · rcases hr with rfl | rfl
      · exact prem_11 hw hl hb hf hi k
      · exact prem_12 hw hl hb hf hi k
    · exact prem_1 hw hl hb hf hi k
    · exact prem_3 hw hl hb hf hi k
    · exact prem_10 hw hl hb hf hi k
    · rcases hc with ⟨rfl, c⟩ | ⟨rfl, c⟩ | ⟨rfl, c⟩ | ⟨rfl, c⟩ | ⟨rfl, c⟩
      · exact prem_4 hw hl hb hf hi k c
      · exact prem_5 hw hl hb hf hi k c
      · exact prem_6 hw hl hb hf hi k c
      · exact prem_7 hw hl hb hf hi k c
      · exact prem_13 hw hl hb hf hi k c
theorem RulePremises_true {rows : List Nd} {s : Sq} {r k : Int} (hn : ∀ n ∈ rows, n.name.size < 9223372036854775808) (hl : rows.length * 40 ≤ 140737488355328) (hb : s.left.okB = true) : law09_RulePremises.f rows s r k = some true := by
  unfold law09_RulePremises.f
  rcases both_some hn hl with h | ⟨h, hw⟩
  · rw [h]; simp [heads09]
  · rw [h]
    simp only [Option.bind_some, Bool.not_true, Bool.false_eq_true, if_false, docRight hb]
    cases hk : lookV rows s with
    | false =>
      have : rule_Premises.f (some rows) s r k = some (some rows, [], 31) := by simp [rule_Premises.f, look_some hb, hk]
      simp [this, like_self, heads09]
    | true =>
      obtain ⟨M', L, e, h1, h2⟩ := prem_eq (r := r) (i := k) hw hk hb
      simp [h1, h2, seqs_self, like_self, heads09]
end Go.Proofs.YtjjkhjieegmphaaDoor
