/- SearchLists, where what it reads is of the bulk that the row names: the row's statement and its card. The table of trailing zeros reads as the program lays it. Printed by card.py, a program of mine. -/
import Derived.Test.YtjjkhjieegmphaaDoorMSLists5
import Derived.Test.YtjjkhjieegmphaaDoorCards
import Derived.Test.YtjjkhjieegmphaaDoorTie
import Derived.WalkKit
import Derived.ProofKit
import Derived.OpenShut
import Derived.Deep.DeepHandedRow
import Derived.Lib.LaidTab
import Derived.Deep.Slices
set_option linter.unusedVariables false
set_option linter.unusedSimpArgs false
section
namespace Go.Proofs.YtjjkhjieegmphaaDoor
open Gw
def ref09_to.f (a0 : Sq) (a1 : Int) : Option Sq :=
  some ({ a0 with goal := a1 })
def ref09_with.f (a0 : Sq) (a1 : Int) (a2 : Int) : Option Sq :=
  (ref05_With.f a0.left a1).bind fun r5 => (ref05_With.f r5 a2).bind fun r8 => some ({ a0 with left := r8 })
def ref03_T_Two.f (a0 : Tb) (a1 : Int) (a2 : Int) (a3 : Int) : Option (Tb × Int × Int) :=
  (ref03_T_Put.f a0 ({ Nd.z with kind := a1, l := a2, r := a3 })).bind fun r1 => some (r1.1, r1.2.1, r1.2.2)
def ref03_T_Imp.f (a0 : Tb) (a1 : Int) (a2 : Int) : Option (Tb × Int × Int) :=
  (ref03_T_Two.f a0 5 a1 a2).bind fun r1 => some (r1.1, r1.2.1, r1.2.2)
def ref03_T_Cut.f (a0 : Tb) (a1 : Int) : Option (Tb × Int) :=
  chk a0.isSome (if (decide (a1 < 0)) || (decide (((a0.getD []).length : Int) < a1)) then some ((some (a0.getD [])), 2) else chk (decide (0 ≤ a1 ∧ a1 ≤ ((a0.getD []).length : Int))) (some ((some ((a0.getD []).take (a1).toNat)), 0)))
def ref09_imps.f (a0 : Tb) (a1 : Int) (a2 : Int) (a3 : Int) (a4 : Int) : Option (Tb × Int × Int × Int) :=
  chk a0.isSome ((ref03_T_Imp.f (some (a0.getD [])) a1 a2).bind fun r5 => if decide (r5.2.2 ≠ 0) then some (r5.1, 0, 0, r5.2.2) else (if decide (a3 < 0) then some ((r5.2.1, r5.1)) else some ((a3, r5.1))).bind fun (o9 : Int × Tb) => (if decide (a4 < 0) then some ((r5.2.1, o9.2)) else some ((a4, o9.2))).bind fun (o13 : Int × Tb) => (ref03_T_Imp.f o13.2 o9.1 o13.1).bind fun r17 => if decide (r17.2.2 ≠ 0) then (ref03_T_Cut.f r17.1 ((a0.getD []).length : Int)).bind fun r21 => some (r21.1, 0, 0, r17.2.2) else some (r17.1, r5.2.1, r17.2.1, 0))
def ref09_Premises.f (a0 : Tb) (a1 : Sq) (a2 : Int) (a3 : Int) : Option (Tb × List Sq × Int) :=
  (ref09_Fits.f a0 a1 a2 a3).bind fun r3 => if !r3 then some (a0, ([] : List Sq), 90) else chk a0.isSome (chk (inb a3 (a0.getD []).length) ((ref05_Drop.f a1.left a3).bind fun r18 => (if decide (a2 = 1) then some ((decide (a2 = 1), (some (a0.getD [])))) else some ((decide (a2 = 2), (some (a0.getD []))))).bind fun (o22 : Bool × Tb) => if o22.1 then some (o22.2, ([] : List Sq), 0) else if decide (a2 = 3) then (ref09_with.f ({ a1 with left := r18 }) ((at_ Nd.z (a0.getD []) a3).l) ((at_ Nd.z (a0.getD []) a3).r)).bind fun r28 => some (o22.2, [r28], 0) else if decide (a2 = 4) then (ref09_with.f ({ a1 with left := r18 }) ((at_ Nd.z (a0.getD []) a3).r) ((at_ Nd.z (a0.getD []) a3).r)).bind fun r35 => some (o22.2, [r35], 0) else if decide (a2 = 5) then some (o22.2, [{ a1 with left := r18 }], 0) else if decide (a2 = 6) then chk o22.2.isSome (chk (inb ((at_ Nd.z (a0.getD []) a3).l) (o22.2.getD []).length) ((ref09_imps.f (some (o22.2.getD [])) ((at_ Nd.z (o22.2.getD []) ((at_ Nd.z (a0.getD []) a3).l)).r) ((at_ Nd.z (a0.getD []) a3).r) ((at_ Nd.z (o22.2.getD []) ((at_ Nd.z (a0.getD []) a3).l)).l) (-1)).bind fun r55 => if decide (r55.2.2.2 ≠ 0) then some (r55.1, ([] : List Sq), r55.2.2.2) else (ref09_with.f ({ a1 with left := r18 }) r55.2.2.1 r55.2.2.1).bind fun r59 => some (r55.1, [r59], 0))) else if decide (a2 = 7) then chk o22.2.isSome (chk (inb ((at_ Nd.z (a0.getD []) a3).l) (o22.2.getD []).length) ((ref09_imps.f (some (o22.2.getD [])) ((at_ Nd.z (o22.2.getD []) ((at_ Nd.z (a0.getD []) a3).l)).l) ((at_ Nd.z (a0.getD []) a3).r) ((at_ Nd.z (o22.2.getD []) ((at_ Nd.z (a0.getD []) a3).l)).r) ((at_ Nd.z (a0.getD []) a3).r)).bind fun r75 => if decide (r75.2.2.2 ≠ 0) then some (r75.1, ([] : List Sq), r75.2.2.2) else (ref09_with.f ({ a1 with left := r18 }) r75.2.1 r75.2.2.1).bind fun r79 => some (r75.1, [r79], 0))) else if decide (a2 = 8) then (ref09_with.f a1 ((at_ Nd.z (a0.getD []) a3).l) ((at_ Nd.z (a0.getD []) a3).l)).bind fun r86 => (ref09_to.f r86 ((at_ Nd.z (a0.getD []) a3).r)).bind fun r88 => some (o22.2, [r88], 0) else if decide (a2 = 9) then (ref09_to.f a1 ((at_ Nd.z (a0.getD []) a3).l)).bind fun r95 => (ref09_to.f a1 ((at_ Nd.z (a0.getD []) a3).r)).bind fun r97 => some (o22.2, [r95, r97], 0) else if decide (a2 = 10) then (ref09_with.f ({ a1 with left := r18 }) ((at_ Nd.z (a0.getD []) a3).l) ((at_ Nd.z (a0.getD []) a3).l)).bind fun r104 => (ref09_with.f ({ a1 with left := r18 }) ((at_ Nd.z (a0.getD []) a3).r) ((at_ Nd.z (a0.getD []) a3).r)).bind fun r106 => some (o22.2, [r104, r106], 0) else if decide (a2 = 11) then (ref09_to.f a1 ((at_ Nd.z (a0.getD []) a3).l)).bind fun r113 => some (o22.2, [r113], 0) else if decide (a2 = 12) then (ref09_to.f a1 ((at_ Nd.z (a0.getD []) a3).r)).bind fun r120 => some (o22.2, [r120], 0) else chk o22.2.isSome (chk (inb ((at_ Nd.z (a0.getD []) a3).l) (o22.2.getD []).length) ((ref03_T_Imp.f (some (o22.2.getD [])) ((at_ Nd.z (o22.2.getD []) ((at_ Nd.z (a0.getD []) a3).l)).r) ((at_ Nd.z (a0.getD []) a3).r)).bind fun r135 => if decide (r135.2.2 ≠ 0) then some (r135.1, ([] : List Sq), r135.2.2) else (ref09_with.f ({ a1 with left := r18 }) r135.2.1 r135.2.1).bind fun r139 => (ref09_to.f r139 ((at_ Nd.z (a0.getD []) a3).l)).bind fun r140 => (ref09_with.f ({ a1 with left := r18 }) ((at_ Nd.z (a0.getD []) a3).r) ((at_ Nd.z (a0.getD []) a3).r)).bind fun r142 => some (r135.1, [r140, r142], 0)))))
end Go.Proofs.YtjjkhjieegmphaaDoor
end
section
namespace Go.Proofs.YtjjkhjieegmphaaDoor
open Gw
end Go.Proofs.YtjjkhjieegmphaaDoor
end
section
namespace Go.Proofs.YtjjkhjieegmphaaDoor
open Gw
theorem okB_add {b : Bits} (n : Int) : (b.add n).okB = true := Bits.ok_okB (Bits.add_ok _ _)
theorem okB_del {b : Bits} (n : Int) : (b.del n).okB = true := Bits.ok_okB (Bits.del_ok _ _)
theorem union_one {b : Bits} {x : Int} (hx : 0 ≤ x ∧ x < 1024) : b.union (Bits.ofs [x]).1 = b.add x := by
  refine Bits.eq_of_has (Bits.union_ok _ _) (Bits.add_ok _ _) fun m hm => ?_
  rw [Bits.union_has, Bits.add_has _ _ _ hx]
  unfold Bits.ofs
  rw [if_pos (by simpa using hx), show Bits.ofl [x] = Bits.z.add x from rfl, Bits.add_has _ _ _ hx, Bits.z_has, Bool.or_false, Bool.or_comm]
theorem union_two {b : Bits} {x y : Int} (hx : 0 ≤ x ∧ x < 1024) (hy : 0 ≤ y ∧ y < 1024) : b.union (Bits.ofs [x, y]).1 = (b.add x).add y := by
  refine Bits.eq_of_has (Bits.union_ok _ _) (Bits.add_ok _ _) fun m hm => ?_
  rw [Bits.union_has, Bits.add_has _ _ _ hy, Bits.add_has _ _ _ hx]
  unfold Bits.ofs
  rw [if_pos (by intro n hn; rcases List.mem_cons.1 hn with rfl | hn; exact hx; rw [List.mem_singleton.1 hn]; exact hy), show Bits.ofl [x, y] = (Bits.z.add x).add y from rfl, Bits.add_has _ _ _ hy, Bits.add_has _ _ _ hx, Bits.z_has, Bool.or_false]
  cases b.has m <;> simp
theorem add_add {b : Bits} {x : Int} (hx : 0 ≤ x ∧ x < 1024) : (b.add x).add x = b.add x := by
  refine Bits.eq_of_has (Bits.add_ok _ _) (Bits.add_ok _ _) fun m hm => ?_
  rw [Bits.add_has _ _ _ hx, Bits.add_has _ _ _ hx]
  cases b.has m <;> simp
theorem withP1 {s : Sq} {x : Int} (hb : s.left.okB = true) (hx : 0 ≤ x ∧ x < 1024) : rule_with.f s [x] = some { s with left := s.left.add x } := by
  unfold rule_with.f bits_Of.f bits_Union.f
  simp only [Option.bind_some]
  rw [chk, if_pos (by rw [hb, Bits.ok_okB (Bits.ofs_ok _)]; rfl), union_one hx]; rfl
theorem withP2 {s : Sq} {x y : Int} (hb : s.left.okB = true) (hx : 0 ≤ x ∧ x < 1024) (hy : 0 ≤ y ∧ y < 1024) : rule_with.f s [x, y] = some { s with left := (s.left.add x).add y } := by
  unfold rule_with.f bits_Of.f bits_Union.f
  simp only [Option.bind_some]
  rw [chk, if_pos (by rw [hb, Bits.ok_okB (Bits.ofs_ok _)]; rfl), union_two hx hy]; rfl
theorem withD2 {s : Sq} {x y : Int} (hb : s.left.okB = true) (hx : 0 ≤ x ∧ x < 1024) (hy : 0 ≤ y ∧ y < 1024) : ref09_with.f s x y = some { s with left := (s.left.add x).add y } := by
  have h1 : ref05_With.f s.left x = some (s.left.add x) := by
    unfold ref05_With.f
    rw [chk, if_pos]
    rw [hb, decide_eq_true hx.1, decide_eq_true hx.2]; rfl
  have h2 : ref05_With.f (s.left.add x) y = some ((s.left.add x).add y) := by
    unfold ref05_With.f
    rw [chk, if_pos]
    rw [okB_add, decide_eq_true hy.1, decide_eq_true hy.2]; rfl
  unfold ref09_with.f
  rw [h1, Option.bind_some, h2, Option.bind_some]
theorem withD1 {s : Sq} {x : Int} (hb : s.left.okB = true) (hx : 0 ≤ x ∧ x < 1024) : ref09_with.f s x x = some { s with left := s.left.add x } := by
  rw [withD2 hb hx hx, add_add hx]
theorem withP1m {B : Bits} {g x : Int} (hb : B.okB = true) (hx : 0 ≤ x ∧ x < 1024) : rule_with.f ⟨B, g⟩ [x] = some ⟨B.add x, g⟩ := withP1 (s := ⟨B, g⟩) hb hx
theorem withP2m {B : Bits} {g x y : Int} (hb : B.okB = true) (hx : 0 ≤ x ∧ x < 1024) (hy : 0 ≤ y ∧ y < 1024) : rule_with.f ⟨B, g⟩ [x, y] = some ⟨(B.add x).add y, g⟩ := withP2 (s := ⟨B, g⟩) hb hx hy
theorem withD1m {B : Bits} {g x : Int} (hb : B.okB = true) (hx : 0 ≤ x ∧ x < 1024) : ref09_with.f ⟨B, g⟩ x x = some ⟨B.add x, g⟩ := withD1 (s := ⟨B, g⟩) hb hx
theorem withD2m {B : Bits} {g x y : Int} (hb : B.okB = true) (hx : 0 ≤ x ∧ x < 1024) (hy : 0 ≤ y ∧ y < 1024) : ref09_with.f ⟨B, g⟩ x y = some ⟨(B.add x).add y, g⟩ := withD2 (s := ⟨B, g⟩) hb hx hy
theorem both1 {B : Bits} {g x : Int} (hb : B.okB = true) (hx : 0 ≤ x ∧ x < 1024) : ∃ q, rule_with.f ⟨B, g⟩ [x] = some q ∧ ref09_with.f ⟨B, g⟩ x x = some q := ⟨_, withP1m hb hx, withD1m hb hx⟩
theorem both2 {B : Bits} {g x y : Int} (hb : B.okB = true) (hx : 0 ≤ x ∧ x < 1024) (hy : 0 ≤ y ∧ y < 1024) : ∃ q, rule_with.f ⟨B, g⟩ [x, y] = some q ∧ ref09_with.f ⟨B, g⟩ x y = some q := ⟨_, withP2m hb hx hy, withD2m hb hx hy⟩
theorem put_props {N : List Nd} {n : Nd} (hN : N.length ≤ 1024) (hd : N.Nodup) : ((putS N n).2.2 ≠ 0 → (putS N n).1 = N) ∧ ((putS N n).2.2 = 0 → 0 ≤ (putS N n).2.1 ∧ (putS N n).2.1 < 1024) ∧ (putS N n).1.take N.length = N ∧ (putS N n).1.Nodup ∧ (putS N n).1.length ≤ 1024 ∧ N.length ≤ (putS N n).1.length := by
  by_cases hf : fitsS N n = 0
  · cases hk : N.idxOf? n with
    | some k =>
      rw [put_old hf hk]
      have := (List.idxOf?_eq_some_iff.1 hk).1
      exact ⟨fun h => absurd rfl h, fun _ => ⟨by simp, by simp; omega⟩, by simp, hd, hN, Nat.le_refl _⟩
    | none =>
      by_cases hl : 1024 ≤ N.length
      · rw [put_full hf hk hl]
        exact ⟨fun _ => rfl, fun h => absurd h (by simp), by simp, hd, hN, Nat.le_refl _⟩
      · rw [put_new hf hk hl]
        refine ⟨fun h => absurd rfl h, fun _ => ⟨by simp, by simp; omega⟩, by simp, ?_, by simp; omega, by simp⟩
        rw [List.nodup_append]
        refine ⟨hd, by simp, fun a ha b hb e => ?_⟩
        rw [List.mem_singleton.1 hb] at e
        subst e
        have := List.idxOf?_eq_none_iff.1 hk
        exact this ha
  · rw [put_bad hf]
    exact ⟨fun _ => rfl, fun h => absurd h hf, by simp, hd, hN, Nat.le_refl _⟩
theorem impP (N : List Nd) (a b : Int) : formula_Table_Imp.f (some N) a b = some (some (putS N (impN a b)).1, (putS N (impN a b)).2.1, (putS N (impN a b)).2.2) := rfl
theorem impD {N : List Nd} (hN : N.length ≤ 1024) (a b : Int) : ref03_T_Imp.f (some N) a b = some (some (putS N (impN a b)).1, (putS N (impN a b)).2.1, (putS N (impN a b)).2.2) := by
  unfold ref03_T_Imp.f ref03_T_Two.f
  rw [docPut hN (by show (ByteArray.empty).size < _; decide)]
  rfl
theorem cutP {N M : List Nd} (h1 : N.take M.length = M) (h2 : N.Nodup) (h3 : M.length ≤ N.length) : formula_Table_Cut.f (some N) (M.length : Int) = some (some M, 0) := by
  unfold formula_Table_Cut.f
  have h4 : ¬ (M.length : Int) < 0 := by omega
  have h5 : ¬ (N.length : Int) < (M.length : Int) := by omega
  simp [h4, h5, chk, h2, h1]
theorem cutD {N M : List Nd} (h1 : N.take M.length = M) (h3 : M.length ≤ N.length) : ref03_T_Cut.f (some N) (M.length : Int) = some (some M, 0) := by
  unfold ref03_T_Cut.f
  have h4 : ¬ (M.length : Int) < 0 := by omega
  have h5 : ¬ (N.length : Int) < (M.length : Int) := by omega
  have h6 : 0 ≤ (M.length : Int) ∧ (M.length : Int) ≤ (N.length : Int) := by omega
  simp [h4, h5, chk, h6, h1]
def Agree (M : List Nd) (s : Sq) (r i : Int) : Prop := ∃ (M' : List Nd) (L : List Sq) (e : Int), rule_Premises.f (some M) s r i = some (some M', L, e) ∧ ref09_Premises.f (some M) s r i = some (some M', L, e)
theorem in1024 {M : List Nd} {i : Int} (hM : M.length ≤ 1024) (h : inb i M.length = true) : 0 ≤ i ∧ i < 1024 := by have := inb_ex h; omega
theorem on_cases {M : List Nd} {b : Bits} {i r : Int} (h : onV M b i = r) (h0 : r ≠ 0) : (r = 1 ∧ (nd M i).kind = 2) ∨ (r = 3 ∧ (nd M i).kind = 3) ∨ (r = 10 ∧ (nd M i).kind = 4) ∨ ((nd M i).kind = 5 ∧ ((r = 4 ∧ (nd M (nd M i).l).kind = 1) ∨ (r = 5 ∧ (nd M (nd M i).l).kind = 2) ∨ (r = 6 ∧ (nd M (nd M i).l).kind = 3) ∨ (r = 7 ∧ (nd M (nd M i).l).kind = 4) ∨ (r = 13 ∧ (nd M (nd M i).l).kind = 5))) := by
  by_cases k2 : (nd M i).kind = 2
  · rw [onV, if_pos k2] at h; exact .inl ⟨h.symm, k2⟩
  by_cases k3 : (nd M i).kind = 3
  · rw [onV, if_neg k2, if_pos k3] at h; exact .inr (.inl ⟨h.symm, k3⟩)
  by_cases k4 : (nd M i).kind = 4
  · rw [onV, if_neg k2, if_neg k3, if_pos k4] at h; exact .inr (.inr (.inl ⟨h.symm, k4⟩))
  by_cases k5 : (nd M i).kind = 5
  · rw [onV, if_neg k2, if_neg k3, if_neg k4, if_pos k5] at h
    refine .inr (.inr (.inr ⟨k5, ?_⟩))
    by_cases c1 : (nd M (nd M i).l).kind = 1
    · rw [if_pos c1] at h
      split at h
      · exact .inl ⟨h.symm, c1⟩
      · exact absurd h.symm h0
    rw [if_neg c1] at h
    by_cases c2 : (nd M (nd M i).l).kind = 2
    · rw [if_pos c2] at h; exact .inr (.inl ⟨h.symm, c2⟩)
    rw [if_neg c2] at h
    by_cases c3 : (nd M (nd M i).l).kind = 3
    · rw [if_pos c3] at h; exact .inr (.inr (.inl ⟨h.symm, c3⟩))
    rw [if_neg c3] at h
    by_cases c4 : (nd M (nd M i).l).kind = 4
    · rw [if_pos c4] at h; exact .inr (.inr (.inr (.inl ⟨h.symm, c4⟩)))
    rw [if_neg c4] at h
    by_cases c5 : (nd M (nd M i).l).kind = 5
    · rw [if_pos c5] at h; exact .inr (.inr (.inr (.inr ⟨h.symm, c5⟩)))
    rw [if_neg c5] at h
    exact absurd h.symm h0
  · rw [onV, if_neg k2, if_neg k3, if_neg k4, if_neg k5] at h; exact absurd h.symm h0
theorem fits_cases {M : List Nd} {s : Sq} {r i : Int} (h : fitsV M s r i = true) : inb i M.length = true ∧ (r = 2 ∨ (r = 8 ∧ (nd M i).kind = 5) ∨ (r = 9 ∧ (nd M i).kind = 3) ∨ ((r = 11 ∨ r = 12) ∧ (nd M i).kind = 4) ∨ (r = 1 ∧ (nd M i).kind = 2) ∨ (r = 3 ∧ (nd M i).kind = 3) ∨ (r = 10 ∧ (nd M i).kind = 4) ∨ ((nd M i).kind = 5 ∧ ((r = 4 ∧ (nd M (nd M i).l).kind = 1) ∨ (r = 5 ∧ (nd M (nd M i).l).kind = 2) ∨ (r = 6 ∧ (nd M (nd M i).l).kind = 3) ∨ (r = 7 ∧ (nd M (nd M i).l).kind = 4) ∨ (r = 13 ∧ (nd M (nd M i).l).kind = 5)))) := by
  unfold fitsV at h
  cases hi : inb i M.length with
  | false => simp [hi] at h
  | true =>
    refine ⟨rfl, ?_⟩
    simp only [hi, Bool.true_eq_false, if_false] at h
    split at h
    · exact .inl ‹_›
    split at h
    · simp only [Bool.and_eq_true, decide_eq_true_eq] at h; exact .inr (.inl ⟨‹_›, h.2⟩)
    split at h
    · simp only [Bool.and_eq_true, decide_eq_true_eq] at h; exact .inr (.inr (.inl ⟨‹_›, h.2⟩))
    split at h
    · simp only [Bool.and_eq_true, decide_eq_true_eq] at h; exact .inr (.inr (.inr (.inl ⟨‹_›, h.2⟩)))
    · simp only [Bool.and_eq_true, decide_eq_true_eq, ne_eq] at h
      exact .inr (.inr (.inr (.inr (on_cases h.2 h.1.1))))
theorem prem_2 {M : List Nd} {s : Sq} {i : Int} (hw : Wf M) (hl : lookV M s = true) (hb : s.left.okB = true) (hf : fitsV M s 2 i = true) (hi : inb i M.length = true) : Agree M s 2 i := by
  have h := lookV_rt hb hl
  have hd := hw.nodup
  unfold Agree
  have hP : ∀ M' L, rule_premises.f (some M) s 2 i = some (some M', L, 0) → rule_Premises.f (some M) s 2 i = some (some M', L, 0) := by
    intro M' L e
    simp [rule_Premises.f, look_some hb, hl, fits_some hb, hf, formula_Table_Len.f, e]
  have hE : ∀ N L e, e ≠ 0 → rule_premises.f (some M) s 2 i = some (some N, L, e) → N.take M.length = M → N.Nodup → M.length ≤ N.length → rule_Premises.f (some M) s 2 i = some (some M, [], e) := by
    intro N L e he e1 h1 h2 h3
    simp [rule_Premises.f, look_some hb, hl, fits_some hb, hf, formula_Table_Len.f, e1, he, cutP h1 h2 h3]
  have hbd : ({ s with left := s.left.del i } : Sq).left.okB = true := okB_del i
  have k345 : (nd M i).kind = 3 ∨ (nd M i).kind = 4 ∨ (nd M i).kind = 5 → (0 ≤ (nd M i).l ∧ (nd M i).l < 1024) ∧ (0 ≤ (nd M i).r ∧ (nd M i).r < 1024) := fun k => ⟨in1024 hw.len (hw.left hi k), in1024 hw.len (hw.right hi k)⟩
  exact ⟨M, [], 0, hP _ _ (by simp -implicitDefEqProofs [rule_premises.f, node_some, bits_Drop.f, chk, hb]), by simp -implicitDefEqProofs [ref09_Premises.f, docFits hw hb, hf, chk, hi, nd_at hi, ref05_Drop.f, hb]⟩
theorem prem_8 {M : List Nd} {s : Sq} {i : Int} (hw : Wf M) (hl : lookV M s = true) (hb : s.left.okB = true) (hf : fitsV M s 8 i = true) (hi : inb i M.length = true) (k : (nd M i).kind = 5) : Agree M s 8 i := by
  have h := lookV_rt hb hl
  have hd := hw.nodup
  unfold Agree
  have hP : ∀ M' L, rule_premises.f (some M) s 8 i = some (some M', L, 0) → rule_Premises.f (some M) s 8 i = some (some M', L, 0) := by
    intro M' L e
    simp [rule_Premises.f, look_some hb, hl, fits_some hb, hf, formula_Table_Len.f, e]
  have hE : ∀ N L e, e ≠ 0 → rule_premises.f (some M) s 8 i = some (some N, L, e) → N.take M.length = M → N.Nodup → M.length ≤ N.length → rule_Premises.f (some M) s 8 i = some (some M, [], e) := by
    intro N L e he e1 h1 h2 h3
    simp [rule_Premises.f, look_some hb, hl, fits_some hb, hf, formula_Table_Len.f, e1, he, cutP h1 h2 h3]
  have hbd : ({ s with left := s.left.del i } : Sq).left.okB = true := okB_del i
  have k345 : (nd M i).kind = 3 ∨ (nd M i).kind = 4 ∨ (nd M i).kind = 5 → (0 ≤ (nd M i).l ∧ (nd M i).l < 1024) ∧ (0 ≤ (nd M i).r ∧ (nd M i).r < 1024) := fun k => ⟨in1024 hw.len (hw.left hi k), in1024 hw.len (hw.right hi k)⟩
  obtain ⟨hx, hy⟩ := k345 (.inr (.inr k))
  exact ⟨M, _, 0, hP _ _ (by simp -implicitDefEqProofs [rule_premises.f, node_some, bits_Drop.f, chk, hb, withP1 hb hx, rule_to.f]; rfl), by simp -implicitDefEqProofs [ref09_Premises.f, docFits hw hb, hf, chk, hi, nd_at hi, ref05_Drop.f, hb, withD1 hb hx, ref09_to.f]⟩
theorem prem_9 {M : List Nd} {s : Sq} {i : Int} (hw : Wf M) (hl : lookV M s = true) (hb : s.left.okB = true) (hf : fitsV M s 9 i = true) (hi : inb i M.length = true) (k : (nd M i).kind = 3) : Agree M s 9 i := by
  have h := lookV_rt hb hl
  have hd := hw.nodup
  unfold Agree
  have hP : ∀ M' L, rule_premises.f (some M) s 9 i = some (some M', L, 0) → rule_Premises.f (some M) s 9 i = some (some M', L, 0) := by
    intro M' L e
    simp [rule_Premises.f, look_some hb, hl, fits_some hb, hf, formula_Table_Len.f, e]
  have hE : ∀ N L e, e ≠ 0 → rule_premises.f (some M) s 9 i = some (some N, L, e) → N.take M.length = M → N.Nodup → M.length ≤ N.length → rule_Premises.f (some M) s 9 i = some (some M, [], e) := by
    intro N L e he e1 h1 h2 h3
    simp [rule_Premises.f, look_some hb, hl, fits_some hb, hf, formula_Table_Len.f, e1, he, cutP h1 h2 h3]
  have hbd : ({ s with left := s.left.del i } : Sq).left.okB = true := okB_del i
  have k345 : (nd M i).kind = 3 ∨ (nd M i).kind = 4 ∨ (nd M i).kind = 5 → (0 ≤ (nd M i).l ∧ (nd M i).l < 1024) ∧ (0 ≤ (nd M i).r ∧ (nd M i).r < 1024) := fun k => ⟨in1024 hw.len (hw.left hi k), in1024 hw.len (hw.right hi k)⟩
  exact ⟨M, _, 0, hP _ _ (by simp -implicitDefEqProofs [rule_premises.f, node_some, bits_Drop.f, chk, hb, rule_to.f]; rfl), by simp -implicitDefEqProofs [ref09_Premises.f, docFits hw hb, hf, chk, hi, nd_at hi, ref05_Drop.f, hb, ref09_to.f]⟩
theorem prem_11 {M : List Nd} {s : Sq} {i : Int} (hw : Wf M) (hl : lookV M s = true) (hb : s.left.okB = true) (hf : fitsV M s 11 i = true) (hi : inb i M.length = true) (k : (nd M i).kind = 4) : Agree M s 11 i := by
  have h := lookV_rt hb hl
  have hd := hw.nodup
  unfold Agree
  have hP : ∀ M' L, rule_premises.f (some M) s 11 i = some (some M', L, 0) → rule_Premises.f (some M) s 11 i = some (some M', L, 0) := by
    intro M' L e
    simp [rule_Premises.f, look_some hb, hl, fits_some hb, hf, formula_Table_Len.f, e]
  have hE : ∀ N L e, e ≠ 0 → rule_premises.f (some M) s 11 i = some (some N, L, e) → N.take M.length = M → N.Nodup → M.length ≤ N.length → rule_Premises.f (some M) s 11 i = some (some M, [], e) := by
    intro N L e he e1 h1 h2 h3
    simp [rule_Premises.f, look_some hb, hl, fits_some hb, hf, formula_Table_Len.f, e1, he, cutP h1 h2 h3]
  have hbd : ({ s with left := s.left.del i } : Sq).left.okB = true := okB_del i
  have k345 : (nd M i).kind = 3 ∨ (nd M i).kind = 4 ∨ (nd M i).kind = 5 → (0 ≤ (nd M i).l ∧ (nd M i).l < 1024) ∧ (0 ≤ (nd M i).r ∧ (nd M i).r < 1024) := fun k => ⟨in1024 hw.len (hw.left hi k), in1024 hw.len (hw.right hi k)⟩
  exact ⟨M, _, 0, hP _ _ (by simp -implicitDefEqProofs [rule_premises.f, node_some, bits_Drop.f, chk, hb, rule_to.f]; rfl), by simp -implicitDefEqProofs [ref09_Premises.f, docFits hw hb, hf, chk, hi, nd_at hi, ref05_Drop.f, hb, ref09_to.f]⟩
theorem prem_12 {M : List Nd} {s : Sq} {i : Int} (hw : Wf M) (hl : lookV M s = true) (hb : s.left.okB = true) (hf : fitsV M s 12 i = true) (hi : inb i M.length = true) (k : (nd M i).kind = 4) : Agree M s 12 i := by
  have h := lookV_rt hb hl
  have hd := hw.nodup
  unfold Agree
  have hP : ∀ M' L, rule_premises.f (some M) s 12 i = some (some M', L, 0) → rule_Premises.f (some M) s 12 i = some (some M', L, 0) := by
    intro M' L e
    simp [rule_Premises.f, look_some hb, hl, fits_some hb, hf, formula_Table_Len.f, e]
  have hE : ∀ N L e, e ≠ 0 → rule_premises.f (some M) s 12 i = some (some N, L, e) → N.take M.length = M → N.Nodup → M.length ≤ N.length → rule_Premises.f (some M) s 12 i = some (some M, [], e) := by
    intro N L e he e1 h1 h2 h3
    simp [rule_Premises.f, look_some hb, hl, fits_some hb, hf, formula_Table_Len.f, e1, he, cutP h1 h2 h3]
  have hbd : ({ s with left := s.left.del i } : Sq).left.okB = true := okB_del i
  have k345 : (nd M i).kind = 3 ∨ (nd M i).kind = 4 ∨ (nd M i).kind = 5 → (0 ≤ (nd M i).l ∧ (nd M i).l < 1024) ∧ (0 ≤ (nd M i).r ∧ (nd M i).r < 1024) := fun k => ⟨in1024 hw.len (hw.left hi k), in1024 hw.len (hw.right hi k)⟩
  exact ⟨M, _, 0, hP _ _ (by simp -implicitDefEqProofs [rule_premises.f, node_some, bits_Drop.f, chk, hb, rule_to.f]; rfl), by simp -implicitDefEqProofs [ref09_Premises.f, docFits hw hb, hf, chk, hi, nd_at hi, ref05_Drop.f, hb, ref09_to.f]⟩
theorem prem_1 {M : List Nd} {s : Sq} {i : Int} (hw : Wf M) (hl : lookV M s = true) (hb : s.left.okB = true) (hf : fitsV M s 1 i = true) (hi : inb i M.length = true) (k : (nd M i).kind = 2) : Agree M s 1 i := by
  have h := lookV_rt hb hl
  have hd := hw.nodup
  unfold Agree
  have hP : ∀ M' L, rule_premises.f (some M) s 1 i = some (some M', L, 0) → rule_Premises.f (some M) s 1 i = some (some M', L, 0) := by
    intro M' L e
    simp [rule_Premises.f, look_some hb, hl, fits_some hb, hf, formula_Table_Len.f, e]
  have hE : ∀ N L e, e ≠ 0 → rule_premises.f (some M) s 1 i = some (some N, L, e) → N.take M.length = M → N.Nodup → M.length ≤ N.length → rule_Premises.f (some M) s 1 i = some (some M, [], e) := by
    intro N L e he e1 h1 h2 h3
    simp [rule_Premises.f, look_some hb, hl, fits_some hb, hf, formula_Table_Len.f, e1, he, cutP h1 h2 h3]
  have hbd : ({ s with left := s.left.del i } : Sq).left.okB = true := okB_del i
  have k345 : (nd M i).kind = 3 ∨ (nd M i).kind = 4 ∨ (nd M i).kind = 5 → (0 ≤ (nd M i).l ∧ (nd M i).l < 1024) ∧ (0 ≤ (nd M i).r ∧ (nd M i).r < 1024) := fun k => ⟨in1024 hw.len (hw.left hi k), in1024 hw.len (hw.right hi k)⟩
  exact ⟨M, [], 0, hP _ _ (by simp -implicitDefEqProofs [rule_premises.f, node_some, bits_Drop.f, chk, hb]), by simp -implicitDefEqProofs [ref09_Premises.f, docFits hw hb, hf, chk, hi, nd_at hi, ref05_Drop.f, hb]⟩
theorem prem_3 {M : List Nd} {s : Sq} {i : Int} (hw : Wf M) (hl : lookV M s = true) (hb : s.left.okB = true) (hf : fitsV M s 3 i = true) (hi : inb i M.length = true) (k : (nd M i).kind = 3) : Agree M s 3 i := by
  have h := lookV_rt hb hl
  have hd := hw.nodup
  unfold Agree
  have hP : ∀ M' L, rule_premises.f (some M) s 3 i = some (some M', L, 0) → rule_Premises.f (some M) s 3 i = some (some M', L, 0) := by
    intro M' L e
    simp [rule_Premises.f, look_some hb, hl, fits_some hb, hf, formula_Table_Len.f, e]
  have hE : ∀ N L e, e ≠ 0 → rule_premises.f (some M) s 3 i = some (some N, L, e) → N.take M.length = M → N.Nodup → M.length ≤ N.length → rule_Premises.f (some M) s 3 i = some (some M, [], e) := by
    intro N L e he e1 h1 h2 h3
    simp [rule_Premises.f, look_some hb, hl, fits_some hb, hf, formula_Table_Len.f, e1, he, cutP h1 h2 h3]
  have hbd : ({ s with left := s.left.del i } : Sq).left.okB = true := okB_del i
  have k345 : (nd M i).kind = 3 ∨ (nd M i).kind = 4 ∨ (nd M i).kind = 5 → (0 ≤ (nd M i).l ∧ (nd M i).l < 1024) ∧ (0 ≤ (nd M i).r ∧ (nd M i).r < 1024) := fun k => ⟨in1024 hw.len (hw.left hi k), in1024 hw.len (hw.right hi k)⟩
  obtain ⟨hx, hy⟩ := k345 (.inl k)
  obtain ⟨q, p1, p2⟩ := both2 (g := s.goal) (okB_del (b := s.left) i) hx hy
  exact ⟨M, _, 0, hP _ _ (by simp -implicitDefEqProofs [rule_premises.f, node_some, bits_Drop.f, chk, hb, p1]; rfl), by simp -implicitDefEqProofs [ref09_Premises.f, docFits hw hb, hf, chk, hi, nd_at hi, ref05_Drop.f, hb, p2]⟩
theorem prem_10 {M : List Nd} {s : Sq} {i : Int} (hw : Wf M) (hl : lookV M s = true) (hb : s.left.okB = true) (hf : fitsV M s 10 i = true) (hi : inb i M.length = true) (k : (nd M i).kind = 4) : Agree M s 10 i := by
  have h := lookV_rt hb hl
  have hd := hw.nodup
  unfold Agree
  have hP : ∀ M' L, rule_premises.f (some M) s 10 i = some (some M', L, 0) → rule_Premises.f (some M) s 10 i = some (some M', L, 0) := by
    intro M' L e
    simp [rule_Premises.f, look_some hb, hl, fits_some hb, hf, formula_Table_Len.f, e]
  have hE : ∀ N L e, e ≠ 0 → rule_premises.f (some M) s 10 i = some (some N, L, e) → N.take M.length = M → N.Nodup → M.length ≤ N.length → rule_Premises.f (some M) s 10 i = some (some M, [], e) := by
    intro N L e he e1 h1 h2 h3
    simp [rule_Premises.f, look_some hb, hl, fits_some hb, hf, formula_Table_Len.f, e1, he, cutP h1 h2 h3]
  have hbd : ({ s with left := s.left.del i } : Sq).left.okB = true := okB_del i
  have k345 : (nd M i).kind = 3 ∨ (nd M i).kind = 4 ∨ (nd M i).kind = 5 → (0 ≤ (nd M i).l ∧ (nd M i).l < 1024) ∧ (0 ≤ (nd M i).r ∧ (nd M i).r < 1024) := fun k => ⟨in1024 hw.len (hw.left hi k), in1024 hw.len (hw.right hi k)⟩
  obtain ⟨hx, hy⟩ := k345 (.inr (.inl k))
  obtain ⟨q, p1, p2⟩ := both1 (g := s.goal) (okB_del (b := s.left) i) hx
  obtain ⟨q', p3, p4⟩ := both1 (g := s.goal) (okB_del (b := s.left) i) hy
  exact ⟨M, _, 0, hP _ _ (by simp -implicitDefEqProofs [rule_premises.f, node_some, bits_Drop.f, chk, hb, p1, p3]; rfl), by simp -implicitDefEqProofs [ref09_Premises.f, docFits hw hb, hf, chk, hi, nd_at hi, ref05_Drop.f, hb, p2, p4]⟩
theorem prem_4 {M : List Nd} {s : Sq} {i : Int} (hw : Wf M) (hl : lookV M s = true) (hb : s.left.okB = true) (hf : fitsV M s 4 i = true) (hi : inb i M.length = true) (k : (nd M i).kind = 5) (c : (nd M (nd M i).l).kind = 1) : Agree M s 4 i := by
  have h := lookV_rt hb hl
  have hd := hw.nodup
  unfold Agree
  have hP : ∀ M' L, rule_premises.f (some M) s 4 i = some (some M', L, 0) → rule_Premises.f (some M) s 4 i = some (some M', L, 0) := by
    intro M' L e
    simp [rule_Premises.f, look_some hb, hl, fits_some hb, hf, formula_Table_Len.f, e]
  have hE : ∀ N L e, e ≠ 0 → rule_premises.f (some M) s 4 i = some (some N, L, e) → N.take M.length = M → N.Nodup → M.length ≤ N.length → rule_Premises.f (some M) s 4 i = some (some M, [], e) := by
    intro N L e he e1 h1 h2 h3
    simp [rule_Premises.f, look_some hb, hl, fits_some hb, hf, formula_Table_Len.f, e1, he, cutP h1 h2 h3]
  have hbd : ({ s with left := s.left.del i } : Sq).left.okB = true := okB_del i
  have k345 : (nd M i).kind = 3 ∨ (nd M i).kind = 4 ∨ (nd M i).kind = 5 → (0 ≤ (nd M i).l ∧ (nd M i).l < 1024) ∧ (0 ≤ (nd M i).r ∧ (nd M i).r < 1024) := fun k => ⟨in1024 hw.len (hw.left hi k), in1024 hw.len (hw.right hi k)⟩
  obtain ⟨hx, hy⟩ := k345 (.inr (.inr k))
  have hli := hw.left hi (.inr (.inr k))
  obtain ⟨q, p1, p2⟩ := both1 (g := s.goal) (okB_del (b := s.left) i) hy
  exact ⟨M, _, 0, hP _ _ (by simp -implicitDefEqProofs [rule_premises.f, node_some, bits_Drop.f, chk, hb, p1]; rfl), by simp -implicitDefEqProofs [ref09_Premises.f, docFits hw hb, hf, chk, hi, nd_at hi, ref05_Drop.f, hb, p2]⟩
theorem prem_5 {M : List Nd} {s : Sq} {i : Int} (hw : Wf M) (hl : lookV M s = true) (hb : s.left.okB = true) (hf : fitsV M s 5 i = true) (hi : inb i M.length = true) (k : (nd M i).kind = 5) (c : (nd M (nd M i).l).kind = 2) : Agree M s 5 i := by
  have h := lookV_rt hb hl
  have hd := hw.nodup
  unfold Agree
  have hP : ∀ M' L, rule_premises.f (some M) s 5 i = some (some M', L, 0) → rule_Premises.f (some M) s 5 i = some (some M', L, 0) := by
    intro M' L e
    simp [rule_Premises.f, look_some hb, hl, fits_some hb, hf, formula_Table_Len.f, e]
  have hE : ∀ N L e, e ≠ 0 → rule_premises.f (some M) s 5 i = some (some N, L, e) → N.take M.length = M → N.Nodup → M.length ≤ N.length → rule_Premises.f (some M) s 5 i = some (some M, [], e) := by
    intro N L e he e1 h1 h2 h3
    simp [rule_Premises.f, look_some hb, hl, fits_some hb, hf, formula_Table_Len.f, e1, he, cutP h1 h2 h3]
  have hbd : ({ s with left := s.left.del i } : Sq).left.okB = true := okB_del i
  have k345 : (nd M i).kind = 3 ∨ (nd M i).kind = 4 ∨ (nd M i).kind = 5 → (0 ≤ (nd M i).l ∧ (nd M i).l < 1024) ∧ (0 ≤ (nd M i).r ∧ (nd M i).r < 1024) := fun k => ⟨in1024 hw.len (hw.left hi k), in1024 hw.len (hw.right hi k)⟩
  obtain ⟨hx, hy⟩ := k345 (.inr (.inr k))
  have hli := hw.left hi (.inr (.inr k))
  exact ⟨M, _, 0, hP _ _ (by simp -implicitDefEqProofs [rule_premises.f, node_some, bits_Drop.f, chk, hb]; rfl), by simp -implicitDefEqProofs [ref09_Premises.f, docFits hw hb, hf, chk, hi, nd_at hi, ref05_Drop.f, hb]⟩
theorem prem_6 {M : List Nd} {s : Sq} {i : Int} (hw : Wf M) (hl : lookV M s = true) (hb : s.left.okB = true) (hf : fitsV M s 6 i = true) (hi : inb i M.length = true) (k : (nd M i).kind = 5) (c : (nd M (nd M i).l).kind = 3) : Agree M s 6 i := by
  have h := lookV_rt hb hl
  have hd := hw.nodup
  unfold Agree
  have hP : ∀ M' L, rule_premises.f (some M) s 6 i = some (some M', L, 0) → rule_Premises.f (some M) s 6 i = some (some M', L, 0) := by
    intro M' L e
    simp [rule_Premises.f, look_some hb, hl, fits_some hb, hf, formula_Table_Len.f, e]
  have hE : ∀ N L e, e ≠ 0 → rule_premises.f (some M) s 6 i = some (some N, L, e) → N.take M.length = M → N.Nodup → M.length ≤ N.length → rule_Premises.f (some M) s 6 i = some (some M, [], e) := by
    intro N L e he e1 h1 h2 h3
    simp [rule_Premises.f, look_some hb, hl, fits_some hb, hf, formula_Table_Len.f, e1, he, cutP h1 h2 h3]
  have hbd : ({ s with left := s.left.del i } : Sq).left.okB = true := okB_del i
  have k345 : (nd M i).kind = 3 ∨ (nd M i).kind = 4 ∨ (nd M i).kind = 5 → (0 ≤ (nd M i).l ∧ (nd M i).l < 1024) ∧ (0 ≤ (nd M i).r ∧ (nd M i).r < 1024) := fun k => ⟨in1024 hw.len (hw.left hi k), in1024 hw.len (hw.right hi k)⟩
  obtain ⟨hx, hy⟩ := k345 (.inr (.inr k))
  have hli := hw.left hi (.inr (.inr k))
  have hkk := hw.kids _ hli (.inl c)
  have hc0 : ¬ (nd M (nd M i).l).l < 0 := by omega
  have hc1 : ¬ (nd M (nd M i).l).r < 0 := by omega
  have hr0 : ¬ (nd M i).r < 0 := by omega
  obtain ⟨a1, b1, t1, d1, l1, g1⟩ := put_props (n := impN (nd M (nd M i).l).r (nd M i).r) hw.len hd
  generalize hp1 : putS M (impN (nd M (nd M i).l).r (nd M i).r) = P1 at a1 b1 t1 d1 l1 g1
  by_cases e1 : P1.2.2 = 0
  · obtain ⟨a2, b2, t2, d2, l2, g2⟩ := put_props (n := impN (nd M (nd M i).l).l P1.2.1) l1 d1
    generalize hp2 : putS P1.1 (impN (nd M (nd M i).l).l P1.2.1) = P2 at a2 b2 t2 d2 l2 g2
    have tt : P2.1.take M.length = M := by
      have := congrArg (List.take M.length) t2
      rw [List.take_take, Nat.min_eq_left g1, t1] at this
      exact this
    by_cases e2 : P2.2.2 = 0
    · obtain ⟨q, p1, p2⟩ := both1 (g := s.goal) (okB_del (b := s.left) i) (b2 e2)
      exact ⟨P2.1, [q], 0, hP _ _ (by simp -implicitDefEqProofs [rule_premises.f, node_some, bits_Drop.f, chk, hb, rule_pair.f, rule_imps__rule_pair_1__rule_premises_1.f, rule_pair_1.f, rule_premises_1.f, impP, hp1, hp2, e1, e2, at_, inb, p1]), by simp -implicitDefEqProofs [ref09_Premises.f, docFits hw hb, hf, chk, hi, hli, nd_at hi, nd_at hli, ref05_Drop.f, hb, ref09_imps.f, impD hw.len, impD l1, hp1, hp2, e1, e2, hc0, hc1, hr0, p2]⟩
    · exact ⟨M, [], P2.2.2, hE P2.1 [] _ e2 (by simp -implicitDefEqProofs [rule_premises.f, node_some, bits_Drop.f, chk, hb, rule_pair.f, rule_imps__rule_pair_1__rule_premises_1.f, rule_pair_1.f, rule_premises_1.f, impP, hp1, hp2, e1, e2, at_, inb]) tt d2 (by omega), by simp -implicitDefEqProofs [ref09_Premises.f, docFits hw hb, hf, chk, hi, hli, nd_at hi, nd_at hli, ref05_Drop.f, hb, ref09_imps.f, impD hw.len, impD l1, hp1, hp2, e1, e2, hc0, hc1, hr0, cutD tt (by omega)]⟩
  · exact ⟨M, [], P1.2.2, hE P1.1 [] _ e1 (by simp -implicitDefEqProofs [rule_premises.f, node_some, bits_Drop.f, chk, hb, rule_pair.f, rule_imps__rule_pair_1__rule_premises_1.f, rule_pair_1.f, rule_premises_1.f, impP, hp1, e1, at_, inb]) t1 d1 g1, by simp -implicitDefEqProofs [ref09_Premises.f, docFits hw hb, hf, chk, hi, hli, nd_at hi, nd_at hli, ref05_Drop.f, hb, ref09_imps.f, impD hw.len, hp1, e1, a1 e1]⟩
theorem prem_7 {M : List Nd} {s : Sq} {i : Int} (hw : Wf M) (hl : lookV M s = true) (hb : s.left.okB = true) (hf : fitsV M s 7 i = true) (hi : inb i M.length = true) (k : (nd M i).kind = 5) (c : (nd M (nd M i).l).kind = 4) : Agree M s 7 i := by
  have h := lookV_rt hb hl
  have hd := hw.nodup
  unfold Agree
  have hP : ∀ M' L, rule_premises.f (some M) s 7 i = some (some M', L, 0) → rule_Premises.f (some M) s 7 i = some (some M', L, 0) := by
    intro M' L e
    simp [rule_Premises.f, look_some hb, hl, fits_some hb, hf, formula_Table_Len.f, e]
  have hE : ∀ N L e, e ≠ 0 → rule_premises.f (some M) s 7 i = some (some N, L, e) → N.take M.length = M → N.Nodup → M.length ≤ N.length → rule_Premises.f (some M) s 7 i = some (some M, [], e) := by
    intro N L e he e1 h1 h2 h3
    simp [rule_Premises.f, look_some hb, hl, fits_some hb, hf, formula_Table_Len.f, e1, he, cutP h1 h2 h3]
  have hbd : ({ s with left := s.left.del i } : Sq).left.okB = true := okB_del i
  have k345 : (nd M i).kind = 3 ∨ (nd M i).kind = 4 ∨ (nd M i).kind = 5 → (0 ≤ (nd M i).l ∧ (nd M i).l < 1024) ∧ (0 ≤ (nd M i).r ∧ (nd M i).r < 1024) := fun k => ⟨in1024 hw.len (hw.left hi k), in1024 hw.len (hw.right hi k)⟩
  obtain ⟨hx, hy⟩ := k345 (.inr (.inr k))
  have hli := hw.left hi (.inr (.inr k))
  have hkk := hw.kids _ hli (.inr (.inl c))
  have hc0 : ¬ (nd M (nd M i).l).l < 0 := by omega
  have hc1 : ¬ (nd M (nd M i).l).r < 0 := by omega
  have hr0 : ¬ (nd M i).r < 0 := by omega
  obtain ⟨a1, b1, t1, d1, l1, g1⟩ := put_props (n := impN (nd M (nd M i).l).l (nd M i).r) hw.len hd
  generalize hp1 : putS M (impN (nd M (nd M i).l).l (nd M i).r) = P1 at a1 b1 t1 d1 l1 g1
  by_cases e1 : P1.2.2 = 0
  · obtain ⟨a2, b2, t2, d2, l2, g2⟩ := put_props (n := impN (nd M (nd M i).l).r (nd M i).r) l1 d1
    generalize hp2 : putS P1.1 (impN (nd M (nd M i).l).r (nd M i).r) = P2 at a2 b2 t2 d2 l2 g2
    have tt : P2.1.take M.length = M := by
      have := congrArg (List.take M.length) t2
      rw [List.take_take, Nat.min_eq_left g1, t1] at this
      exact this
    by_cases e2 : P2.2.2 = 0
    · obtain ⟨q, p1, p2⟩ := both2 (g := s.goal) (okB_del (b := s.left) i) (b1 e1) (b2 e2)
      exact ⟨P2.1, [q], 0, hP _ _ (by simp -implicitDefEqProofs [rule_premises.f, node_some, bits_Drop.f, chk, hb, rule_pair.f, rule_imps__rule_pair_1__rule_pair_1.f, rule_pair_1.f, rule_premises_1.f, impP, hp1, hp2, e1, e2, at_, inb, p1]), by simp -implicitDefEqProofs [ref09_Premises.f, docFits hw hb, hf, chk, hi, hli, nd_at hi, nd_at hli, ref05_Drop.f, hb, ref09_imps.f, impD hw.len, impD l1, hp1, hp2, e1, e2, hc0, hc1, hr0, p2]⟩
    · exact ⟨M, [], P2.2.2, hE P2.1 [] _ e2 (by simp -implicitDefEqProofs [rule_premises.f, node_some, bits_Drop.f, chk, hb, rule_pair.f, rule_imps__rule_pair_1__rule_pair_1.f, rule_pair_1.f, rule_premises_1.f, impP, hp1, hp2, e1, e2, at_, inb]) tt d2 (by omega), by simp -implicitDefEqProofs [ref09_Premises.f, docFits hw hb, hf, chk, hi, hli, nd_at hi, nd_at hli, ref05_Drop.f, hb, ref09_imps.f, impD hw.len, impD l1, hp1, hp2, e1, e2, hc0, hc1, hr0, cutD tt (by omega)]⟩
  · exact ⟨M, [], P1.2.2, hE P1.1 [] _ e1 (by simp -implicitDefEqProofs [rule_premises.f, node_some, bits_Drop.f, chk, hb, rule_pair.f, rule_imps__rule_pair_1__rule_pair_1.f, rule_pair_1.f, rule_premises_1.f, impP, hp1, e1, at_, inb]) t1 d1 g1, by simp -implicitDefEqProofs [ref09_Premises.f, docFits hw hb, hf, chk, hi, hli, nd_at hi, nd_at hli, ref05_Drop.f, hb, ref09_imps.f, impD hw.len, hp1, e1, a1 e1]⟩
theorem prem_13 {M : List Nd} {s : Sq} {i : Int} (hw : Wf M) (hl : lookV M s = true) (hb : s.left.okB = true) (hf : fitsV M s 13 i = true) (hi : inb i M.length = true) (k : (nd M i).kind = 5) (c : (nd M (nd M i).l).kind = 5) : Agree M s 13 i := by
  have h := lookV_rt hb hl
  have hd := hw.nodup
  unfold Agree
  have hP : ∀ M' L, rule_premises.f (some M) s 13 i = some (some M', L, 0) → rule_Premises.f (some M) s 13 i = some (some M', L, 0) := by
    intro M' L e
    simp [rule_Premises.f, look_some hb, hl, fits_some hb, hf, formula_Table_Len.f, e]
  have hE : ∀ N L e, e ≠ 0 → rule_premises.f (some M) s 13 i = some (some N, L, e) → N.take M.length = M → N.Nodup → M.length ≤ N.length → rule_Premises.f (some M) s 13 i = some (some M, [], e) := by
    intro N L e he e1 h1 h2 h3
    simp [rule_Premises.f, look_some hb, hl, fits_some hb, hf, formula_Table_Len.f, e1, he, cutP h1 h2 h3]
  have hbd : ({ s with left := s.left.del i } : Sq).left.okB = true := okB_del i
  have k345 : (nd M i).kind = 3 ∨ (nd M i).kind = 4 ∨ (nd M i).kind = 5 → (0 ≤ (nd M i).l ∧ (nd M i).l < 1024) ∧ (0 ≤ (nd M i).r ∧ (nd M i).r < 1024) := fun k => ⟨in1024 hw.len (hw.left hi k), in1024 hw.len (hw.right hi k)⟩
  obtain ⟨hx, hy⟩ := k345 (.inr (.inr k))
  have hli := hw.left hi (.inr (.inr k))
  obtain ⟨a1, b1, t1, d1, l1, g1⟩ := put_props (n := impN (nd M (nd M i).l).r (nd M i).r) hw.len hd
  generalize hp1 : putS M (impN (nd M (nd M i).l).r (nd M i).r) = P1 at a1 b1 t1 d1 l1 g1
  by_cases e1 : P1.2.2 = 0
  · obtain ⟨q, p1, p2⟩ := both1 (g := s.goal) (okB_del (b := s.left) i) (b1 e1)
    obtain ⟨q', p3, p4⟩ := both1 (g := s.goal) (okB_del (b := s.left) i) hy
    exact ⟨P1.1, _, 0, hP _ _ (by simp -implicitDefEqProofs [rule_premises.f, node_some, bits_Drop.f, chk, hb, rule_pair.f, rule_imps__rule_pair_1.f, rule_pair_1.f, impP, hp1, e1, at_, inb, p1, p3, rule_to.f]; rfl), by simp -implicitDefEqProofs [ref09_Premises.f, docFits hw hb, hf, chk, hi, hli, nd_at hi, nd_at hli, ref05_Drop.f, hb, impD hw.len, hp1, e1, p2, p4, ref09_to.f]⟩
  · exact ⟨M, [], P1.2.2, hE P1.1 [] _ e1 (by simp -implicitDefEqProofs [rule_premises.f, node_some, bits_Drop.f, chk, hb, rule_pair.f, rule_imps__rule_pair_1.f, rule_pair_1.f, impP, hp1, e1, at_, inb]) t1 d1 g1, by simp -implicitDefEqProofs [ref09_Premises.f, docFits hw hb, hf, chk, hi, hli, nd_at hi, nd_at hli, ref05_Drop.f, hb, impD hw.len, hp1, e1, a1 e1]⟩
theorem prem_eq {M : List Nd} {s : Sq} {r i : Int} (hw : Wf M) (hl : lookV M s = true) (hb : s.left.okB = true) : Agree M s r i := by
  cases hf : fitsV M s r i with
  | false => exact ⟨M, [], 90, by simp [rule_Premises.f, look_some hb, hl, fits_some hb, hf], by simp [ref09_Premises.f, docFits hw hb, hf]⟩
  | true =>
    obtain ⟨hi, hc⟩ := fits_cases hf
    rcases hc with rfl | ⟨rfl, k⟩ | ⟨rfl, k⟩ | ⟨hr, k⟩ | ⟨rfl, k⟩ | ⟨rfl, k⟩ | ⟨rfl, k⟩ | ⟨k, hc⟩
    · exact prem_2 hw hl hb hf hi
    · exact prem_8 hw hl hb hf hi k
    · exact prem_9 hw hl hb hf hi k
    · rcases hr with rfl | rfl
      · exact prem_11 hw hl hb hf hi k
      · exact prem_12 hw hl hb hf hi k
    · exact prem_1 hw hl hb hf hi k
    · exact prem_3 hw hl hb hf hi k
    · exact prem_10 hw hl hb hf hi k
    · rcases hc with ⟨rfl, c⟩ | ⟨rfl, c⟩ | ⟨rfl, c⟩ | ⟨rfl, c⟩ | ⟨rfl, c⟩
      · exact prem_4 hw hl hb hf hi k c
      · exact prem_5 hw hl hb hf hi k c
      · exact prem_6 hw hl hb hf hi k c
      · exact prem_7 hw hl hb hf hi k c
      · exact prem_13 hw hl hb hf hi k c
end Go.Proofs.YtjjkhjieegmphaaDoor
end
section
namespace Go.Proofs.YtjjkhjieegmphaaDoor
open Gw
end Go.Proofs.YtjjkhjieegmphaaDoor
end
section
namespace Go.Proofs.YtjjkhjieegmphaaDoor
open Gw
abbrev vl (V : List Bool) (i : Int) : Bool := at_ false V i
def Sem (N : List Nd) (V : List Bool) (n : Int) : Prop := ∀ i : Int, 0 ≤ i → i < n → ((nd N i).kind = 2 → vl V i = false) ∧ ((nd N i).kind = 3 → vl V i = (vl V (nd N i).l && vl V (nd N i).r)) ∧ ((nd N i).kind = 4 → vl V i = (vl V (nd N i).l || vl V (nd N i).r)) ∧ ((nd N i).kind = 5 → vl V i = (!vl V (nd N i).l || vl V (nd N i).r))
theorem all_add {b : Bits} {x : Int} (hx : 0 ≤ x ∧ x < 1024) {p : Int → Prop} : (∀ j : Int, (b.add x).has j = true → p j) ↔ p x ∧ ∀ j : Int, b.has j = true → p j := by
  constructor
  · intro h
    exact ⟨h x (by rw [Bits.add_has _ _ _ hx]; simp), fun j hj => h j (by rw [Bits.add_has _ _ _ hx, hj]; simp)⟩
  · rintro ⟨h1, h2⟩ j hj
    rw [Bits.add_has _ _ _ hx] at hj
    simp only [Bool.or_eq_true, decide_eq_true_eq] at hj
    rcases hj with rfl | hj
    · exact h1
    · exact h2 j hj
theorem all_del {b : Bits} {x : Int} (hx : b.has x = true) {p : Int → Prop} : (∀ j : Int, b.has j = true → p j) ↔ p x ∧ ∀ j : Int, (b.del x).has j = true → p j := by
  constructor
  · intro h
    refine ⟨h x hx, fun j hj => h j ?_⟩
    rw [Bits.del_has] at hj
    simp only [Bool.and_eq_true] at hj
    exact hj.2
  · rintro ⟨h1, h2⟩ j hj
    by_cases e : j = x
    · rw [e]; exact h1
    · exact h2 j (by rw [Bits.del_has, hj]; simp [e])
theorem nd_app {N K : List Nd} {i : Int} (hi : inb i N.length = true) : nd (N ++ K) i = nd N i := by
  have h1 := inb_ex hi
  have h2 : i.toNat < N.length := by omega
  unfold nd nodeS hasRow
  rw [if_pos (by simp; omega), if_pos (by simp; omega)]
  simp only
  rw [List.getD_eq_getElem?_getD, List.getElem?_append_left h2, ← List.getD_eq_getElem?_getD]
theorem put_nd {N : List Nd} {n : Nd} (hw : Wf N) (he : (putS N n).2.2 = 0) : nd (putS N n).1 (putS N n).2.1 = n ∧ Wf (putS N n).1 ∧ inb (putS N n).2.1 (putS N n).1.length = true ∧ (∀ i : Int, inb i N.length = true → nd (putS N n).1 i = nd N i) ∧ N.length ≤ (putS N n).1.length := by
  by_cases hf : fitsS N n = 0
  · cases hk : N.idxOf? n with
    | some k =>
      rw [put_old hf hk]
      obtain ⟨h1, h2, _⟩ := List.idxOf?_eq_some_iff.1 hk
      have hin : inb (k : Int) N.length = true := by rw [inb_nat]; simpa using h1
      refine ⟨?_, hw, hin, fun _ _ => rfl, Nat.le_refl _⟩
      rw [← nd_at hin, rows_take h1]
      simpa using h2
    | none =>
      by_cases hl : 1024 ≤ N.length
      · rw [put_full hf hk hl] at he; simp at he
      · rw [put_new hf hk hl]
        refine ⟨?_, wf_push hw hf (by omega) (List.idxOf?_eq_none_iff.1 hk), by rw [inb_nat]; simp, fun i hi => nd_app hi, by simp⟩
        unfold nd nodeS hasRow
        rw [if_pos (by simp; omega)]
        simp
  · rw [put_bad hf] at he; exact absurd he hf
end Go.Proofs.YtjjkhjieegmphaaDoor
end
section
namespace Go.Proofs.YtjjkhjieegmphaaDoor
open Gw
inductive PremR (M : List Nd) (s : Sq) (i : Int) : Int → List Nd → List Sq → Prop
  | bot (h : s.left.has i = true) (k : (nd M i).kind = 2) : PremR M s i 1 M []
  | ax (h : s.left.has i = true) (g : i = s.goal) : PremR M s i 2 M []
  | andL (h : s.left.has i = true) (k : (nd M i).kind = 3) : PremR M s i 3 M [⟨((s.left.del i).add (nd M i).l).add (nd M i).r, s.goal⟩]
  | atom (h : s.left.has i = true) (k : (nd M i).kind = 5) (c : (nd M (nd M i).l).kind = 1) (a : s.left.has (nd M i).l = true) : PremR M s i 4 M [⟨(s.left.del i).add (nd M i).r, s.goal⟩]
  | botL (h : s.left.has i = true) (k : (nd M i).kind = 5) (c : (nd M (nd M i).l).kind = 2) : PremR M s i 5 M [⟨s.left.del i, s.goal⟩]
  | conj (h : s.left.has i = true) (k : (nd M i).kind = 5) (c : (nd M (nd M i).l).kind = 3) (e1 : (putS M (impN (nd M (nd M i).l).r (nd M i).r)).2.2 = 0)
      (e2 : (putS (putS M (impN (nd M (nd M i).l).r (nd M i).r)).1 (impN (nd M (nd M i).l).l (putS M (impN (nd M (nd M i).l).r (nd M i).r)).2.1)).2.2 = 0) :
      PremR M s i 6 (putS (putS M (impN (nd M (nd M i).l).r (nd M i).r)).1 (impN (nd M (nd M i).l).l (putS M (impN (nd M (nd M i).l).r (nd M i).r)).2.1)).1
        [⟨(s.left.del i).add (putS (putS M (impN (nd M (nd M i).l).r (nd M i).r)).1 (impN (nd M (nd M i).l).l (putS M (impN (nd M (nd M i).l).r (nd M i).r)).2.1)).2.1, s.goal⟩]
  | disj (h : s.left.has i = true) (k : (nd M i).kind = 5) (c : (nd M (nd M i).l).kind = 4) (e1 : (putS M (impN (nd M (nd M i).l).l (nd M i).r)).2.2 = 0)
      (e2 : (putS (putS M (impN (nd M (nd M i).l).l (nd M i).r)).1 (impN (nd M (nd M i).l).r (nd M i).r)).2.2 = 0) :
      PremR M s i 7 (putS (putS M (impN (nd M (nd M i).l).l (nd M i).r)).1 (impN (nd M (nd M i).l).r (nd M i).r)).1
        [⟨((s.left.del i).add (putS M (impN (nd M (nd M i).l).l (nd M i).r)).2.1).add (putS (putS M (impN (nd M (nd M i).l).l (nd M i).r)).1 (impN (nd M (nd M i).l).r (nd M i).r)).2.1, s.goal⟩]
  | impR (g : i = s.goal) (k : (nd M i).kind = 5) : PremR M s i 8 M [⟨s.left.add (nd M i).l, (nd M i).r⟩]
  | andR (g : i = s.goal) (k : (nd M i).kind = 3) : PremR M s i 9 M [⟨s.left, (nd M i).l⟩, ⟨s.left, (nd M i).r⟩]
  | orL (h : s.left.has i = true) (k : (nd M i).kind = 4) : PremR M s i 10 M [⟨(s.left.del i).add (nd M i).l, s.goal⟩, ⟨(s.left.del i).add (nd M i).r, s.goal⟩]
  | orR1 (g : i = s.goal) (k : (nd M i).kind = 4) : PremR M s i 11 M [⟨s.left, (nd M i).l⟩]
  | orR2 (g : i = s.goal) (k : (nd M i).kind = 4) : PremR M s i 12 M [⟨s.left, (nd M i).r⟩]
  | impL (h : s.left.has i = true) (k : (nd M i).kind = 5) (c : (nd M (nd M i).l).kind = 5) (e1 : (putS M (impN (nd M (nd M i).l).r (nd M i).r)).2.2 = 0) :
      PremR M s i 13 (putS M (impN (nd M (nd M i).l).r (nd M i).r)).1 [⟨(s.left.del i).add (putS M (impN (nd M (nd M i).l).r (nd M i).r)).2.1, (nd M i).l⟩, ⟨(s.left.del i).add (nd M i).r, s.goal⟩]
end Go.Proofs.YtjjkhjieegmphaaDoor
end
section
namespace Go.Proofs.YtjjkhjieegmphaaDoor
open Gw
theorem fits_has {M : List Nd} {s : Sq} {r i : Int} (h : fitsV M s r i = true) : ((r = 8 ∨ r = 9 ∨ r = 11 ∨ r = 12) → i = s.goal) ∧ (r ≠ 8 → r ≠ 9 → r ≠ 11 → r ≠ 12 → s.left.has i = true) ∧ (r = 2 → i = s.goal) ∧ (r = 4 → s.left.has (nd M i).l = true) := by
  unfold fitsV at h
  cases hi : inb i M.length with
  | false => simp [hi] at h
  | true =>
    simp only [hi, Bool.true_eq_false, if_false] at h
    by_cases r2 : r = 2
    · rw [if_pos r2] at h
      simp only [Bool.and_eq_true, decide_eq_true_eq] at h
      exact ⟨fun q => by omega, fun _ _ _ _ => h.2, fun _ => h.1, fun q => by omega⟩
    rw [if_neg r2] at h
    by_cases r8 : r = 8
    · rw [if_pos r8] at h
      simp only [Bool.and_eq_true, decide_eq_true_eq] at h
      exact ⟨fun _ => h.1, fun q => absurd r8 q, fun q => by omega, fun q => by omega⟩
    rw [if_neg r8] at h
    by_cases r9 : r = 9
    · rw [if_pos r9] at h
      simp only [Bool.and_eq_true, decide_eq_true_eq] at h
      exact ⟨fun _ => h.1, fun _ q => absurd r9 q, fun q => by omega, fun q => by omega⟩
    rw [if_neg r9] at h
    by_cases r11 : r = 11 ∨ r = 12
    · rw [if_pos r11] at h
      simp only [Bool.and_eq_true, decide_eq_true_eq] at h
      exact ⟨fun _ => h.1, fun _ _ q q' => by omega, fun q => by omega, fun q => by omega⟩
    rw [if_neg r11] at h
    simp only [Bool.and_eq_true, decide_eq_true_eq, ne_eq] at h
    refine ⟨fun q => by omega, fun _ _ _ _ => h.1.2, fun q => by omega, fun q => ?_⟩
    subst q
    have h4 := h.2
    unfold onV at h4
    by_cases k5 : (nd M i).kind = 5
    · by_cases c1 : (nd M (nd M i).l).kind = 1
      · rw [if_neg (by omega), if_neg (by omega), if_neg (by omega), if_pos k5, if_pos c1] at h4
        split at h4
        · assumption
        · omega
      · exfalso
        rcases on_cases (M := M) (b := s.left) (i := i) (r := 4) h.2 (by decide) with q | q | q | ⟨_, q⟩ <;> omega
    · exfalso
      rcases on_cases (M := M) (b := s.left) (i := i) (r := 4) h.2 (by decide) with q | q | q | ⟨q, _⟩ <;> omega
theorem prem_rel {M : List Nd} {s : Sq} {r i : Int} {T : Tb} {L : List Sq} (hw : Wf M) (hb : s.left.okB = true) (hf : fitsV M s r i = true) (h : rule_premises.f (some M) s r i = some (T, L, 0)) : ∃ N, T = some N ∧ PremR M s i r N L := by
  obtain ⟨hi, hc⟩ := fits_cases hf
  obtain ⟨g1, g2, g3, g4⟩ := fits_has hf
  have k345 : (nd M i).kind = 3 ∨ (nd M i).kind = 4 ∨ (nd M i).kind = 5 → (0 ≤ (nd M i).l ∧ (nd M i).l < 1024) ∧ (0 ≤ (nd M i).r ∧ (nd M i).r < 1024) := fun k => ⟨in1024 hw.len (hw.left hi k), in1024 hw.len (hw.right hi k)⟩
  rcases hc with rfl | ⟨rfl, k⟩ | ⟨rfl, k⟩ | ⟨hr, k⟩ | ⟨rfl, k⟩ | ⟨rfl, k⟩ | ⟨rfl, k⟩ | ⟨k, hc⟩
  · simp -implicitDefEqProofs [rule_premises.f, node_some, bits_Drop.f, chk, hb] at h
    obtain ⟨rfl, rfl⟩ := h
    exact ⟨M, rfl, PremR.ax (g2 (by decide) (by decide) (by decide) (by decide)) (g3 rfl)⟩
  · obtain ⟨hx, hy⟩ := k345 (.inr (.inr k))
    simp -implicitDefEqProofs [rule_premises.f, node_some, bits_Drop.f, chk, hb, withP1 hb hx, rule_to.f] at h
    obtain ⟨rfl, rfl⟩ := h
    exact ⟨M, rfl, PremR.impR (g1 (by decide)) k⟩
  · simp -implicitDefEqProofs [rule_premises.f, node_some, bits_Drop.f, chk, hb, rule_to.f] at h
    obtain ⟨rfl, rfl⟩ := h
    exact ⟨M, rfl, PremR.andR (g1 (by decide)) k⟩
  · rcases hr with rfl | rfl
    · simp -implicitDefEqProofs [rule_premises.f, node_some, bits_Drop.f, chk, hb, rule_to.f] at h
      obtain ⟨rfl, rfl⟩ := h
      exact ⟨M, rfl, PremR.orR1 (g1 (by decide)) k⟩
    · simp -implicitDefEqProofs [rule_premises.f, node_some, bits_Drop.f, chk, hb, rule_to.f] at h
      obtain ⟨rfl, rfl⟩ := h
      exact ⟨M, rfl, PremR.orR2 (g1 (by decide)) k⟩
  · simp -implicitDefEqProofs [rule_premises.f, node_some, bits_Drop.f, chk, hb] at h
    obtain ⟨rfl, rfl⟩ := h
    exact ⟨M, rfl, PremR.bot (g2 (by decide) (by decide) (by decide) (by decide)) k⟩
  · obtain ⟨hx, hy⟩ := k345 (.inl k)
    simp -implicitDefEqProofs [rule_premises.f, node_some, bits_Drop.f, chk, hb, withP2m (okB_del i) hx hy] at h
    obtain ⟨rfl, rfl⟩ := h
    exact ⟨M, rfl, PremR.andL (g2 (by decide) (by decide) (by decide) (by decide)) k⟩
  · obtain ⟨hx, hy⟩ := k345 (.inr (.inl k))
    simp -implicitDefEqProofs [rule_premises.f, node_some, bits_Drop.f, chk, hb, withP1m (okB_del i) hx, withP1m (okB_del i) hy] at h
    obtain ⟨rfl, rfl⟩ := h
    exact ⟨M, rfl, PremR.orL (g2 (by decide) (by decide) (by decide) (by decide)) k⟩
  · obtain ⟨hx, hy⟩ := k345 (.inr (.inr k))
    rcases hc with ⟨rfl, c⟩ | ⟨rfl, c⟩ | ⟨rfl, c⟩ | ⟨rfl, c⟩ | ⟨rfl, c⟩
    · simp -implicitDefEqProofs [rule_premises.f, node_some, bits_Drop.f, chk, hb, withP1m (okB_del i) hy] at h
      obtain ⟨rfl, rfl⟩ := h
      exact ⟨M, rfl, PremR.atom (g2 (by decide) (by decide) (by decide) (by decide)) k c (g4 rfl)⟩
    · simp -implicitDefEqProofs [rule_premises.f, node_some, bits_Drop.f, chk, hb] at h
      obtain ⟨rfl, rfl⟩ := h
      exact ⟨M, rfl, PremR.botL (g2 (by decide) (by decide) (by decide) (by decide)) k c⟩
    · have q1 := put_props (n := impN (nd M (nd M i).l).r (nd M i).r) hw.len hw.nodup
      have con := @PremR.conj M s i (g2 (by decide) (by decide) (by decide) (by decide)) k c
      generalize hA : putS M (impN (nd M (nd M i).l).r (nd M i).r) = A1 at q1 con
      have q2 := (put_props (n := impN (nd M (nd M i).l).l A1.2.1) q1.2.2.2.2.1 q1.2.2.2.1).2.1
      generalize hB : putS A1.1 (impN (nd M (nd M i).l).l A1.2.1) = A2 at q2 con
      by_cases e1 : A1.2.2 = 0
      · by_cases e2 : A2.2.2 = 0
        · simp -implicitDefEqProofs [rule_premises.f, node_some, bits_Drop.f, chk, hb, rule_pair.f, rule_imps__rule_pair_1__rule_premises_1.f, rule_pair_1.f, rule_premises_1.f, impP, at_, inb, hA, hB, e1, e2, withP1m (okB_del i) (q2 e2)] at h
          obtain ⟨rfl, rfl⟩ := h
          exact ⟨_, rfl, con e1 e2⟩
        · simp -implicitDefEqProofs [rule_premises.f, node_some, bits_Drop.f, chk, hb, rule_pair.f, rule_imps__rule_pair_1__rule_premises_1.f, rule_pair_1.f, rule_premises_1.f, impP, at_, inb, hA, hB, e1, e2] at h
      · simp -implicitDefEqProofs [rule_premises.f, node_some, bits_Drop.f, chk, hb, rule_pair.f, rule_imps__rule_pair_1__rule_premises_1.f, rule_pair_1.f, rule_premises_1.f, impP, at_, inb, hA, e1] at h
    · have q1 := put_props (n := impN (nd M (nd M i).l).l (nd M i).r) hw.len hw.nodup
      have con := @PremR.disj M s i (g2 (by decide) (by decide) (by decide) (by decide)) k c
      generalize hA : putS M (impN (nd M (nd M i).l).l (nd M i).r) = A1 at q1 con
      have q2 := (put_props (n := impN (nd M (nd M i).l).r (nd M i).r) q1.2.2.2.2.1 q1.2.2.2.1).2.1
      generalize hB : putS A1.1 (impN (nd M (nd M i).l).r (nd M i).r) = A2 at q2 con
      by_cases e1 : A1.2.2 = 0
      · by_cases e2 : A2.2.2 = 0
        · simp -implicitDefEqProofs [rule_premises.f, node_some, bits_Drop.f, chk, hb, rule_pair.f, rule_imps__rule_pair_1__rule_pair_1.f, rule_pair_1.f, rule_premises_1.f, impP, at_, inb, hA, hB, e1, e2, withP2m (okB_del i) (q1.2.1 e1) (q2 e2)] at h
          obtain ⟨rfl, rfl⟩ := h
          exact ⟨_, rfl, con e1 e2⟩
        · simp -implicitDefEqProofs [rule_premises.f, node_some, bits_Drop.f, chk, hb, rule_pair.f, rule_imps__rule_pair_1__rule_pair_1.f, rule_pair_1.f, rule_premises_1.f, impP, at_, inb, hA, hB, e1, e2] at h
      · simp -implicitDefEqProofs [rule_premises.f, node_some, bits_Drop.f, chk, hb, rule_pair.f, rule_imps__rule_pair_1__rule_pair_1.f, rule_pair_1.f, rule_premises_1.f, impP, at_, inb, hA, e1] at h
    · have p1 := (put_props (n := impN (nd M (nd M i).l).r (nd M i).r) hw.len hw.nodup).2.1
      have con := @PremR.impL M s i (g2 (by decide) (by decide) (by decide) (by decide)) k c
      generalize hA : putS M (impN (nd M (nd M i).l).r (nd M i).r) = A1 at p1 con
      by_cases e1 : A1.2.2 = 0
      · simp -implicitDefEqProofs [rule_premises.f, node_some, bits_Drop.f, chk, hb, rule_pair.f, rule_imps__rule_pair_1.f, rule_pair_1.f, impP, hA, e1, withP1m (okB_del i) (p1 e1), withP1m (okB_del i) hy, rule_to.f] at h
        obtain ⟨rfl, rfl⟩ := h
        exact ⟨_, rfl, con e1⟩
      · simp -implicitDefEqProofs [rule_premises.f, node_some, bits_Drop.f, chk, hb, rule_pair.f, rule_imps__rule_pair_1.f, rule_pair_1.f, impP, hA, e1] at h
end Go.Proofs.YtjjkhjieegmphaaDoor
end
section
namespace Go.Proofs.YtjjkhjieegmphaaDoor
open Gw
end Go.Proofs.YtjjkhjieegmphaaDoor
end
section
namespace Go.Proofs.YtjjkhjieegmphaaDoor
open Gw
theorem Premises_rel {M : List Nd} {s : Sq} (r i : Int) (hw : Wf M) (hl : lookV M s = true) (hb : s.left.okB = true) :
    ∃ N L e, rule_Premises.f (some M) s r i = some (some N, L, e) ∧ (e = 0 → fitsV M s r i = true ∧ PremR M s i r N L) := by
  obtain ⟨N, L, e, h, _⟩ := prem_eq (r := r) (i := i) hw hl hb
  refine ⟨N, L, e, h, fun he => ?_⟩
  subst he
  unfold rule_Premises.f at h
  rw [look_some hb, hl, fits_some hb] at h
  simp only [if_true, ne_eq, not_true_eq_false, decide_false, Bool.false_eq_true, if_false, Option.bind_some] at h
  cases hf : fitsV M s r i with
  | false => simp [hf] at h
  | true =>
    refine ⟨rfl, ?_⟩
    simp only [hf, Bool.not_true, Bool.false_eq_true, if_false] at h
    obtain ⟨n, h1, h⟩ := bind_ex h
    obtain ⟨⟨T, L', e'⟩, h2, h⟩ := bind_ex h
    by_cases he : e' = 0
    · subst he
      simp only [not_true_eq_false, decide_false, Bool.false_eq_true, if_false, Option.some.injEq, Prod.mk.injEq] at h
      obtain ⟨rfl, rfl, _⟩ := h
      obtain ⟨N', e1, h3⟩ := prem_rel hw hb hf h2
      cases e1
      exact h3
    · simp only [he, not_false_eq_true, decide_true, if_true] at h
      obtain ⟨_, _, h⟩ := bind_ex h
      simp only [Option.some.injEq, Prod.mk.injEq] at h
      exact absurd h.2.2 he
theorem inb_mono {i : Int} {m n : Nat} (h : inb i m = true) (hmn : m ≤ n) : inb i n = true := by
  have := inb_ex h
  simp only [inb, Bool.and_eq_true, decide_eq_true_eq]; omega
theorem lookV_iff {M : List Nd} {s : Sq} : lookV M s = true ↔ (∀ j : Int, s.left.has j = true → inb j M.length = true) ∧ inb s.goal M.length = true := by
  unfold lookV
  rw [Bool.and_eq_true, List.all_eq_true]
  refine and_congr ⟨fun h j hj => ?_, fun h j hj => ?_⟩ Iff.rfl
  · have hr : 0 ≤ j ∧ j < 1024 := by
      refine Decidable.byContradiction fun q => ?_
      rw [Bits.has_out _ _ (by omega)] at hj; cases hj
    have hjn : ((j.toNat : Nat) : Int) = j := by omega
    have := h j.toNat (Bits.mem_list.2 ⟨by omega, by rw [hjn]; exact hj⟩)
    rw [← hjn, inb_nat]; exact this
  · have := h j (Bits.mem_list.1 hj).2
    rw [inb_nat] at this; exact this
theorem prem_wf {M N : List Nd} {s : Sq} {i r : Int} {L : List Sq} (hw : Wf M) (hb : s.left.okB = true) (hl : lookV M s = true) (hi : inb i M.length = true) (h : PremR M s i r N L) :
    Wf N ∧ M.length ≤ N.length ∧ (∀ j : Int, inb j M.length = true → nd N j = nd M j) ∧ ∀ p ∈ L, p.left.okB = true ∧ lookV N p = true := by
  obtain ⟨hl1, hl2⟩ := lookV_iff.1 hl
  have k345 : (nd M i).kind = 3 ∨ (nd M i).kind = 4 ∨ (nd M i).kind = 5 → inb (nd M i).l M.length = true ∧ inb (nd M i).r M.length = true := fun k => ⟨hw.left hi k, hw.right hi k⟩
  have hdel : ∀ j : Int, (s.left.del i).has j = true → inb j M.length = true := fun j hj => by
    rw [Bits.del_has] at hj; simp only [Bool.and_eq_true] at hj; exact hl1 j hj.2
  cases h with
  | bot h k => exact ⟨hw, Nat.le_refl _, fun _ _ => rfl, fun p hp => by cases hp⟩
  | ax h g => exact ⟨hw, Nat.le_refl _, fun _ _ => rfl, fun p hp => by cases hp⟩
  | andL h k =>
    obtain ⟨hx, hy⟩ := k345 (.inl k)
    refine ⟨hw, Nat.le_refl _, fun _ _ => rfl, fun p hp => ?_⟩
    rw [List.mem_singleton] at hp; subst hp
    exact ⟨okB_add _, lookV_iff.2 ⟨(all_add (in1024 hw.len hy)).2 ⟨hy, (all_add (in1024 hw.len hx)).2 ⟨hx, hdel⟩⟩, hl2⟩⟩
  | atom h k c a =>
    obtain ⟨hx, hy⟩ := k345 (.inr (.inr k))
    refine ⟨hw, Nat.le_refl _, fun _ _ => rfl, fun p hp => ?_⟩
    rw [List.mem_singleton] at hp; subst hp
    exact ⟨okB_add _, lookV_iff.2 ⟨(all_add (in1024 hw.len hy)).2 ⟨hy, hdel⟩, hl2⟩⟩
  | botL h k c =>
    refine ⟨hw, Nat.le_refl _, fun _ _ => rfl, fun p hp => ?_⟩
    rw [List.mem_singleton] at hp; subst hp
    exact ⟨okB_del _, lookV_iff.2 ⟨hdel, hl2⟩⟩
  | impR g k =>
    obtain ⟨hx, hy⟩ := k345 (.inr (.inr k))
    refine ⟨hw, Nat.le_refl _, fun _ _ => rfl, fun p hp => ?_⟩
    rw [List.mem_singleton] at hp; subst hp
    exact ⟨okB_add _, lookV_iff.2 ⟨(all_add (in1024 hw.len hx)).2 ⟨hx, hl1⟩, hy⟩⟩
  | andR g k =>
    obtain ⟨hx, hy⟩ := k345 (.inl k)
    refine ⟨hw, Nat.le_refl _, fun _ _ => rfl, fun p hp => ?_⟩
    simp only [List.mem_cons, List.not_mem_nil, or_false] at hp
    rcases hp with rfl | rfl
    · exact ⟨hb, lookV_iff.2 ⟨hl1, hx⟩⟩
    · exact ⟨hb, lookV_iff.2 ⟨hl1, hy⟩⟩
  | orL h k =>
    obtain ⟨hx, hy⟩ := k345 (.inr (.inl k))
    refine ⟨hw, Nat.le_refl _, fun _ _ => rfl, fun p hp => ?_⟩
    simp only [List.mem_cons, List.not_mem_nil, or_false] at hp
    rcases hp with rfl | rfl
    · exact ⟨okB_add _, lookV_iff.2 ⟨(all_add (in1024 hw.len hx)).2 ⟨hx, hdel⟩, hl2⟩⟩
    · exact ⟨okB_add _, lookV_iff.2 ⟨(all_add (in1024 hw.len hy)).2 ⟨hy, hdel⟩, hl2⟩⟩
  | orR1 g k =>
    obtain ⟨hx, hy⟩ := k345 (.inr (.inl k))
    refine ⟨hw, Nat.le_refl _, fun _ _ => rfl, fun p hp => ?_⟩
    rw [List.mem_singleton] at hp; subst hp
    exact ⟨hb, lookV_iff.2 ⟨hl1, hx⟩⟩
  | orR2 g k =>
    obtain ⟨hx, hy⟩ := k345 (.inr (.inl k))
    refine ⟨hw, Nat.le_refl _, fun _ _ => rfl, fun p hp => ?_⟩
    rw [List.mem_singleton] at hp; subst hp
    exact ⟨hb, lookV_iff.2 ⟨hl1, hy⟩⟩
  | conj h k c e1 e2 =>
    obtain ⟨n1, w1, i1, q1, l1⟩ := put_nd hw e1
    obtain ⟨n2, w2, i2, q2, l2⟩ := put_nd w1 e2
    generalize hA1 : putS M (impN (nd M (nd M i).l).r (nd M i).r) = A1 at n1 w1 i1 q1 l1 n2 w2 i2 q2 l2 e1 e2 ⊢
    generalize hA2 : putS A1.1 (impN (nd M (nd M i).l).l A1.2.1) = A2 at n2 w2 i2 q2 l2 e2 ⊢
    refine ⟨w2, by omega, fun j hj => by rw [q2 j (inb_mono hj l1), q1 j hj], fun p hp => ?_⟩
    rw [List.mem_singleton] at hp; subst hp
    exact ⟨okB_add _, lookV_iff.2 ⟨(all_add (in1024 w2.len i2)).2 ⟨i2, fun j hj => inb_mono (hdel j hj) (by omega)⟩, inb_mono hl2 (by omega)⟩⟩
  | disj h k c e1 e2 =>
    obtain ⟨n1, w1, i1, q1, l1⟩ := put_nd hw e1
    obtain ⟨n2, w2, i2, q2, l2⟩ := put_nd w1 e2
    generalize hA1 : putS M (impN (nd M (nd M i).l).l (nd M i).r) = A1 at n1 w1 i1 q1 l1 n2 w2 i2 q2 l2 e1 e2 ⊢
    generalize hA2 : putS A1.1 (impN (nd M (nd M i).l).r (nd M i).r) = A2 at n2 w2 i2 q2 l2 e2 ⊢
    refine ⟨w2, by omega, fun j hj => by rw [q2 j (inb_mono hj l1), q1 j hj], fun p hp => ?_⟩
    rw [List.mem_singleton] at hp; subst hp
    exact ⟨okB_add _, lookV_iff.2 ⟨(all_add (in1024 w2.len i2)).2 ⟨i2, (all_add (in1024 w1.len i1)).2 ⟨inb_mono i1 l2, fun j hj => inb_mono (hdel j hj) (by omega)⟩⟩, inb_mono hl2 (by omega)⟩⟩
  | impL h k c e1 =>
    obtain ⟨n1, w1, i1, q1, l1⟩ := put_nd hw e1
    generalize hA1 : putS M (impN (nd M (nd M i).l).r (nd M i).r) = A1 at n1 w1 i1 q1 l1 e1 ⊢
    obtain ⟨hx, hy⟩ := k345 (.inr (.inr k))
    refine ⟨w1, l1, q1, fun p hp => ?_⟩
    simp only [List.mem_cons, List.not_mem_nil, or_false] at hp
    rcases hp with rfl | rfl
    · exact ⟨okB_add _, lookV_iff.2 ⟨(all_add (in1024 w1.len i1)).2 ⟨i1, fun j hj => inb_mono (hdel j hj) l1⟩, inb_mono hx l1⟩⟩
    · exact ⟨okB_add _, lookV_iff.2 ⟨(all_add (in1024 hw.len hy)).2 ⟨inb_mono hy l1, fun j hj => inb_mono (hdel j hj) l1⟩, inb_mono hl2 l1⟩⟩
theorem fits_inb {M : List Nd} {s : Sq} {r i : Int} (h : fitsV M s r i = true) : inb i M.length = true := (fits_cases h).1
theorem choices_len {M : List Nd} {s : Sq} (hM : M.length ≤ 1024) : (choicesV M s).1.length = (choicesV M s).2.length ∧ (choicesV M s).1.length ≤ 4096 := by
  unfold choicesV
  have h1 : ((List.range M.length).filter fun (j : Nat) => s.left.has j && decide (onV M s.left j = 13)).length ≤ M.length := by simpa using List.length_filter_le (fun (j : Nat) => s.left.has j && decide (onV M s.left j = 13)) (List.range M.length)
  split
  · split <;> simp <;> omega
  · simp
end Go.Proofs.YtjjkhjieegmphaaDoor
end
section
namespace Go.Proofs.YtjjkhjieegmphaaDoor
open Gw
inductive Fm where
  | atom (a : Int)
  | bot
  | and (x y : Fm)
  | or (x y : Fm)
  | imp (x y : Fm)
structure Kr where
  W : Type
  le : W → W → Prop
  refl : ∀ w, le w w
  trans : ∀ {a b c : W}, le a b → le b c → le a c
  val : W → Int → Prop
  mono : ∀ {a b : W} {p : Int}, le a b → val a p → val b p
def Kr.fc (K : Kr) : Fm → K.W → Prop
  | .atom a, w => K.val w a
  | .bot, _ => False
  | .and x y, w => K.fc x w ∧ K.fc y w
  | .or x y, w => K.fc x w ∨ K.fc y w
  | .imp x y, w => ∀ v, K.le w v → K.fc x v → K.fc y v
theorem Kr.up (K : Kr) : ∀ (x : Fm) {w v : K.W}, K.le w v → K.fc x w → K.fc x v
  | .atom _, _, _, h, hx => K.mono h hx
  | .bot, _, _, _, hx => hx
  | .and x y, _, _, h, hx => ⟨K.up x h hx.1, K.up y h hx.2⟩
  | .or x y, _, _, h, hx => hx.imp (K.up x h) (K.up y h)
  | .imp x y, _, _, h, hx => fun u hu => hx u (K.trans h hu)
def fmF (M : List Nd) : Nat → Int → Fm
  | 0, _ => .bot
  | n + 1, i => if (nd M i).kind = 1 then .atom i else if (nd M i).kind = 3 then .and (fmF M n (nd M i).l) (fmF M n (nd M i).r) else if (nd M i).kind = 4 then .or (fmF M n (nd M i).l) (fmF M n (nd M i).r)
    else if (nd M i).kind = 5 then .imp (fmF M n (nd M i).l) (fmF M n (nd M i).r) else .bot
def fm (M : List Nd) (i : Int) : Fm := fmF M (i.toNat + 1) i
theorem fmF_two {M N : List Nd} (hw : Wf M) (hN : ∀ j : Int, inb j M.length = true → nd N j = nd M j) : ∀ (n m : Nat) (i : Int), inb i M.length = true → i.toNat < n → i.toNat < m → fmF N n i = fmF M m i := by
  intro n
  induction n with
  | zero => intro m i _ h; omega
  | succ n ih =>
    intro m i hi h1 h2
    obtain ⟨m, rfl⟩ : ∃ q, m = q + 1 := ⟨m - 1, by omega⟩
    rw [fmF, fmF, hN i hi]
    have hk := hw.kind i hi
    have h0 := inb_ex hi
    by_cases k : (nd M i).kind = 3 ∨ (nd M i).kind = 4 ∨ (nd M i).kind = 5
    · have hks := hw.kids i hi k
      rw [ih m _ (hw.left hi k) (by omega) (by omega), ih m _ (hw.right hi k) (by omega) (by omega)]
    · have k12 : (nd M i).kind = 1 ∨ (nd M i).kind = 2 := by omega
      rcases k12 with k | k <;> simp [k]
theorem fm_ext {M N : List Nd} (hw : Wf M) (hN : ∀ j : Int, inb j M.length = true → nd N j = nd M j) {i : Int} (hi : inb i M.length = true) : fm N i = fm M i := fmF_two hw hN _ _ i hi (by omega) (by omega)
theorem fm_at {M : List Nd} (hw : Wf M) {i : Int} (hi : inb i M.length = true) {n : Nat} (h : i.toNat < n) : fmF M n i = fm M i := fmF_two hw (fun _ _ => rfl) _ _ i hi h (by omega)
theorem fm1 {M : List Nd} {i : Int} (k : (nd M i).kind = 1) : fm M i = .atom i := by simp [fm, fmF, k]
theorem fm2 {M : List Nd} {i : Int} (k : (nd M i).kind = 2) : fm M i = .bot := by simp [fm, fmF, k]
theorem fm3 {M : List Nd} (hw : Wf M) {i : Int} (hi : inb i M.length = true) (k : (nd M i).kind = 3) : fm M i = .and (fm M (nd M i).l) (fm M (nd M i).r) := by
  have h0 := inb_ex hi
  have hks := hw.kids i hi (.inl k)
  rw [fm, fmF, if_neg (by omega), if_pos k, fm_at hw (hw.left hi (.inl k)) (by omega), fm_at hw (hw.right hi (.inl k)) (by omega)]
theorem fm4 {M : List Nd} (hw : Wf M) {i : Int} (hi : inb i M.length = true) (k : (nd M i).kind = 4) : fm M i = .or (fm M (nd M i).l) (fm M (nd M i).r) := by
  have h0 := inb_ex hi
  have hks := hw.kids i hi (.inr (.inl k))
  rw [fm, fmF, if_neg (by omega), if_neg (by omega), if_pos k, fm_at hw (hw.left hi (.inr (.inl k))) (by omega), fm_at hw (hw.right hi (.inr (.inl k))) (by omega)]
theorem fm5 {M : List Nd} (hw : Wf M) {i : Int} (hi : inb i M.length = true) (k : (nd M i).kind = 5) : fm M i = .imp (fm M (nd M i).l) (fm M (nd M i).r) := by
  have h0 := inb_ex hi
  have hks := hw.kids i hi (.inr (.inr k))
  rw [fm, fmF, if_neg (by omega), if_neg (by omega), if_neg (by omega), if_pos k, fm_at hw (hw.left hi (.inr (.inr k))) (by omega), fm_at hw (hw.right hi (.inr (.inr k))) (by omega)]
theorem fmI {N : List Nd} (hw : Wf N) {y a b : Int} (hi : inb y N.length = true) (hn : nd N y = impN a b) : fm N y = .imp (fm N a) (fm N b) := by
  rw [fm5 hw hi (by rw [hn]; rfl), hn]; rfl
def Hd (K : Kr) (w : K.W) (M : List Nd) (b : Bits) : Prop := ∀ j : Int, b.has j = true → K.fc (fm M j) w
theorem Hd.up {K : Kr} {w v : K.W} {M : List Nd} {b : Bits} (h : Hd K w M b) (hv : K.le w v) : Hd K v M b := fun j hj => K.up _ hv (h j hj)
def Valid (M : List Nd) (s : Sq) : Prop := ∀ (K : Kr) (w : K.W), Hd K w M s.left → K.fc (fm M s.goal) w
def Refd (M : List Nd) (s : Sq) : Prop := ∃ (K : Kr) (w : K.W), Hd K w M s.left ∧ ¬ K.fc (fm M s.goal) w
structure TExt (M N : List Nd) : Prop where
  len : M.length ≤ N.length
  eq : ∀ j : Int, inb j M.length = true → nd N j = nd M j
theorem TExt.refl (M : List Nd) : TExt M M := ⟨Nat.le_refl _, fun _ _ => rfl⟩
theorem TExt.trans {A B C : List Nd} (h : TExt A B) (k : TExt B C) : TExt A C := ⟨Nat.le_trans h.len k.len, fun j hj => by rw [k.eq j (inb_mono hj h.len), h.eq j hj]⟩
theorem TExt.fm {M N : List Nd} (h : TExt M N) (hw : Wf M) {i : Int} (hi : inb i M.length = true) : fm N i = fm M i := fm_ext hw h.eq hi
theorem TExt.look {M N : List Nd} (h : TExt M N) {s : Sq} (hl : lookV M s = true) : lookV N s = true := by
  obtain ⟨k1, k2⟩ := lookV_iff.1 hl
  exact lookV_iff.2 ⟨fun j hj => inb_mono (k1 j hj) h.len, inb_mono k2 h.len⟩
theorem TExt.hd {M N : List Nd} (h : TExt M N) (hw : Wf M) {b : Bits} (hb : ∀ j : Int, b.has j = true → inb j M.length = true) (K : Kr) (w : K.W) : Hd K w N b ↔ Hd K w M b := by
  refine ⟨fun q j hj => ?_, fun q j hj => ?_⟩
  · have := q j hj; rwa [h.fm hw (hb j hj)] at this
  · rw [h.fm hw (hb j hj)]; exact q j hj
theorem TExt.valid {M N : List Nd} (h : TExt M N) (hw : Wf M) {s : Sq} (hl : lookV M s = true) : Valid N s ↔ Valid M s := by
  obtain ⟨k1, k2⟩ := lookV_iff.1 hl
  unfold Valid
  refine forall_congr' fun K => forall_congr' fun w => ?_
  rw [h.hd hw k1, h.fm hw k2]
theorem TExt.refd {M N : List Nd} (h : TExt M N) (hw : Wf M) {s : Sq} (hl : lookV M s = true) : Refd N s ↔ Refd M s := by
  obtain ⟨k1, k2⟩ := lookV_iff.1 hl
  unfold Refd
  refine exists_congr fun K => exists_congr fun w => ?_
  rw [h.hd hw k1, h.fm hw k2]
theorem hd_add {K : Kr} {w : K.W} {M : List Nd} {b : Bits} {x : Int} (hx : 0 ≤ x ∧ x < 1024) : Hd K w M (b.add x) ↔ K.fc (fm M x) w ∧ Hd K w M b := all_add hx
theorem hd_del {K : Kr} {w : K.W} {M : List Nd} {b : Bits} {x : Int} (hx : b.has x = true) : Hd K w M b ↔ K.fc (fm M x) w ∧ Hd K w M (b.del x) := all_del hx
theorem prem_valid {M N : List Nd} {s : Sq} {i r : Int} {L : List Sq} (hw : Wf M) (hb : s.left.okB = true) (hl : lookV M s = true) (hi : inb i M.length = true) (h : PremR M s i r N L) (hv : ∀ p ∈ L, Valid N p) : Valid N s := by
  obtain ⟨wN, lN, qN, _⟩ := prem_wf hw hb hl hi h
  have hE : TExt M N := ⟨lN, qN⟩
  have k345 : (nd M i).kind = 3 ∨ (nd M i).kind = 4 ∨ (nd M i).kind = 5 → (0 ≤ (nd M i).l ∧ (nd M i).l < 1024) ∧ (0 ≤ (nd M i).r ∧ (nd M i).r < 1024) := fun k => ⟨in1024 hw.len (hw.left hi k), in1024 hw.len (hw.right hi k)⟩
  have f3 : (nd M i).kind = 3 → fm N i = .and (fm N (nd M i).l) (fm N (nd M i).r) := fun k => by rw [hE.fm hw hi, hE.fm hw (hw.left hi (.inl k)), hE.fm hw (hw.right hi (.inl k))]; exact fm3 hw hi k
  have f4 : (nd M i).kind = 4 → fm N i = .or (fm N (nd M i).l) (fm N (nd M i).r) := fun k => by rw [hE.fm hw hi, hE.fm hw (hw.left hi (.inr (.inl k))), hE.fm hw (hw.right hi (.inr (.inl k)))]; exact fm4 hw hi k
  have f5 : (nd M i).kind = 5 → fm N i = .imp (fm N (nd M i).l) (fm N (nd M i).r) := fun k => by rw [hE.fm hw hi, hE.fm hw (hw.left hi (.inr (.inr k))), hE.fm hw (hw.right hi (.inr (.inr k)))]; exact fm5 hw hi k
  intro K w H
  cases h with
  | bot h k => have := H i h; rw [fm2 k] at this; exact this.elim
  | ax h g => rw [← g]; exact H i h
  | andL h k =>
    obtain ⟨hx, hy⟩ := k345 (.inl k)
    have h1 := (hd_del h).1 H
    rw [f3 k] at h1
    exact hv _ (List.mem_singleton.2 rfl) K w ((hd_add hy).2 ⟨h1.1.2, (hd_add hx).2 ⟨h1.1.1, h1.2⟩⟩)
  | atom h k c a =>
    obtain ⟨hx, hy⟩ := k345 (.inr (.inr k))
    have h1 := (hd_del h).1 H
    rw [f5 k] at h1
    exact hv _ (List.mem_singleton.2 rfl) K w ((hd_add hy).2 ⟨h1.1 w (K.refl w) (H _ a), h1.2⟩)
  | botL h k c => exact hv _ (List.mem_singleton.2 rfl) K w ((hd_del h).1 H).2
  | impR g k =>
    obtain ⟨hx, hy⟩ := k345 (.inr (.inr k))
    rw [← g, f5 k]
    intro v hwv hv1
    exact hv _ (List.mem_singleton.2 rfl) K v ((hd_add hx).2 ⟨hv1, H.up hwv⟩)
  | andR g k =>
    rw [← g, f3 k]
    exact ⟨hv _ (List.mem_cons_self ..) K w H, hv _ (List.mem_cons_of_mem _ (List.mem_cons_self ..)) K w H⟩
  | orL h k =>
    obtain ⟨hx, hy⟩ := k345 (.inr (.inl k))
    have h1 := (hd_del h).1 H
    rw [f4 k] at h1
    rcases h1.1 with q | q
    · exact hv _ (List.mem_cons_self ..) K w ((hd_add hx).2 ⟨q, h1.2⟩)
    · exact hv _ (List.mem_cons_of_mem _ (List.mem_cons_self ..)) K w ((hd_add hy).2 ⟨q, h1.2⟩)
  | orR1 g k =>
    rw [← g, f4 k]
    exact .inl (hv _ (List.mem_singleton.2 rfl) K w H)
  | orR2 g k =>
    rw [← g, f4 k]
    exact .inr (hv _ (List.mem_singleton.2 rfl) K w H)
  | conj h k c e1 e2 =>
    obtain ⟨n1, w1, i1, q1, l1⟩ := put_nd hw e1
    obtain ⟨n2, w2, i2, q2, l2⟩ := put_nd w1 e2
    generalize hA1 : putS M (impN (nd M (nd M i).l).r (nd M i).r) = A1 at *
    generalize hA2 : putS A1.1 (impN (nd M (nd M i).l).l A1.2.1) = A2 at *
    have hli := hw.left hi (.inr (.inr k))
    have fc : fm A2.1 (nd M i).l = .and (fm A2.1 (nd M (nd M i).l).l) (fm A2.1 (nd M (nd M i).l).r) := by rw [hE.fm hw hli, hE.fm hw (hw.left hli (.inl c)), hE.fm hw (hw.right hli (.inl c))]; exact fm3 hw hli c
    have fx : fm A2.1 A1.2.1 = .imp (fm A2.1 (nd M (nd M i).l).r) (fm A2.1 (nd M i).r) := fmI wN (inb_mono i1 l2) (by rw [q2 _ i1]; exact n1)
    have fy : fm A2.1 A2.2.1 = .imp (fm A2.1 (nd M (nd M i).l).l) (fm A2.1 A1.2.1) := fmI wN i2 n2
    have h1 := (hd_del h).1 H
    rw [f5 k, fc] at h1
    refine hv _ (List.mem_singleton.2 rfl) K w ((hd_add (in1024 wN.len i2)).2 ⟨?_, h1.2⟩)
    rw [fy, fx]
    intro v hv1 hC u hu hD
    exact h1.1 u (K.trans hv1 hu) ⟨K.up _ hu hC, hD⟩
  | disj h k c e1 e2 =>
    obtain ⟨n1, w1, i1, q1, l1⟩ := put_nd hw e1
    obtain ⟨n2, w2, i2, q2, l2⟩ := put_nd w1 e2
    generalize hA1 : putS M (impN (nd M (nd M i).l).l (nd M i).r) = A1 at *
    generalize hA2 : putS A1.1 (impN (nd M (nd M i).l).r (nd M i).r) = A2 at *
    have hli := hw.left hi (.inr (.inr k))
    have fc : fm A2.1 (nd M i).l = .or (fm A2.1 (nd M (nd M i).l).l) (fm A2.1 (nd M (nd M i).l).r) := by rw [hE.fm hw hli, hE.fm hw (hw.left hli (.inr (.inl c))), hE.fm hw (hw.right hli (.inr (.inl c)))]; exact fm4 hw hli c
    have fx : fm A2.1 A1.2.1 = .imp (fm A2.1 (nd M (nd M i).l).l) (fm A2.1 (nd M i).r) := fmI wN (inb_mono i1 l2) (by rw [q2 _ i1]; exact n1)
    have fy : fm A2.1 A2.2.1 = .imp (fm A2.1 (nd M (nd M i).l).r) (fm A2.1 (nd M i).r) := fmI wN i2 n2
    have h1 := (hd_del h).1 H
    rw [f5 k, fc] at h1
    refine hv _ (List.mem_singleton.2 rfl) K w ((hd_add (in1024 wN.len i2)).2 ⟨?_, (hd_add (in1024 w1.len i1)).2 ⟨?_, h1.2⟩⟩)
    · rw [fy]; exact fun v hv1 hC => h1.1 v hv1 (.inr hC)
    · rw [fx]; exact fun v hv1 hC => h1.1 v hv1 (.inl hC)
  | impL h k c e1 =>
    obtain ⟨n1, w1, i1, q1, l1⟩ := put_nd hw e1
    generalize hA1 : putS M (impN (nd M (nd M i).l).r (nd M i).r) = A1 at *
    have hli := hw.left hi (.inr (.inr k))
    obtain ⟨_, hy⟩ := k345 (.inr (.inr k))
    have fc : fm A1.1 (nd M i).l = .imp (fm A1.1 (nd M (nd M i).l).l) (fm A1.1 (nd M (nd M i).l).r) := by rw [hE.fm hw hli, hE.fm hw (hw.left hli (.inr (.inr c))), hE.fm hw (hw.right hli (.inr (.inr c)))]; exact fm5 hw hli c
    have fx : fm A1.1 A1.2.1 = .imp (fm A1.1 (nd M (nd M i).l).r) (fm A1.1 (nd M i).r) := fmI wN i1 n1
    have h1 := (hd_del h).1 H
    rw [f5 k] at h1
    have hCD : K.fc (fm A1.1 (nd M i).l) w := by
      refine hv _ (List.mem_cons_self ..) K w ((hd_add (in1024 wN.len i1)).2 ⟨?_, h1.2⟩)
      rw [fx]
      refine fun v hv1 hD => h1.1 v hv1 ?_
      rw [fc]
      exact fun u hu _ => K.up _ hu hD
    exact hv _ (List.mem_cons_of_mem _ (List.mem_cons_self ..)) K w ((hd_add hy).2 ⟨h1.1 w (K.refl w) hCD, h1.2⟩)
theorem prem_refd {M N : List Nd} {s p : Sq} {i r : Int} {L : List Sq} (hw : Wf M) (hb : s.left.okB = true) (hl : lookV M s = true) (hi : inb i M.length = true) (h : PremR M s i r N L) (hp : p ∈ L) (hr : r ≠ 11 ∧ r ≠ 12) (h13 : r = 13 → L[1]? = some p) (hv : Refd N p) : Refd N s := by
  obtain ⟨wN, lN, qN, _⟩ := prem_wf hw hb hl hi h
  have hE : TExt M N := ⟨lN, qN⟩
  have k345 : (nd M i).kind = 3 ∨ (nd M i).kind = 4 ∨ (nd M i).kind = 5 → (0 ≤ (nd M i).l ∧ (nd M i).l < 1024) ∧ (0 ≤ (nd M i).r ∧ (nd M i).r < 1024) := fun k => ⟨in1024 hw.len (hw.left hi k), in1024 hw.len (hw.right hi k)⟩
  have f3 : (nd M i).kind = 3 → fm N i = .and (fm N (nd M i).l) (fm N (nd M i).r) := fun k => by rw [hE.fm hw hi, hE.fm hw (hw.left hi (.inl k)), hE.fm hw (hw.right hi (.inl k))]; exact fm3 hw hi k
  have f4 : (nd M i).kind = 4 → fm N i = .or (fm N (nd M i).l) (fm N (nd M i).r) := fun k => by rw [hE.fm hw hi, hE.fm hw (hw.left hi (.inr (.inl k))), hE.fm hw (hw.right hi (.inr (.inl k)))]; exact fm4 hw hi k
  have f5 : (nd M i).kind = 5 → fm N i = .imp (fm N (nd M i).l) (fm N (nd M i).r) := fun k => by rw [hE.fm hw hi, hE.fm hw (hw.left hi (.inr (.inr k))), hE.fm hw (hw.right hi (.inr (.inr k)))]; exact fm5 hw hi k
  obtain ⟨K, w, H, hg⟩ := hv
  refine ⟨K, w, ?_⟩
  cases h with
  | bot h k => cases hp
  | ax h g => cases hp
  | andL h k =>
    obtain ⟨hx, hy⟩ := k345 (.inl k)
    rw [List.mem_singleton] at hp; subst hp
    obtain ⟨h1, h2⟩ := (hd_add hy).1 H
    obtain ⟨h3, h4⟩ := (hd_add hx).1 h2
    exact ⟨(hd_del h).2 ⟨by rw [f3 k]; exact ⟨h3, h1⟩, h4⟩, hg⟩
  | atom h k c a =>
    obtain ⟨hx, hy⟩ := k345 (.inr (.inr k))
    rw [List.mem_singleton] at hp; subst hp
    obtain ⟨h1, h2⟩ := (hd_add hy).1 H
    exact ⟨(hd_del h).2 ⟨by rw [f5 k]; exact fun v hv _ => K.up _ hv h1, h2⟩, hg⟩
  | botL h k c =>
    rw [List.mem_singleton] at hp; subst hp
    refine ⟨(hd_del h).2 ⟨?_, H⟩, hg⟩
    rw [f5 k, fm2 c]
    exact fun v _ q => q.elim
  | impR g k =>
    obtain ⟨hx, hy⟩ := k345 (.inr (.inr k))
    rw [List.mem_singleton] at hp; subst hp
    obtain ⟨h1, h2⟩ := (hd_add hx).1 H
    refine ⟨h2, ?_⟩
    rw [← g, f5 k]
    exact fun q => hg (q w (K.refl w) h1)
  | andR g k =>
    simp only [List.mem_cons, List.not_mem_nil, or_false] at hp
    rw [← g, f3 k]
    rcases hp with rfl | rfl
    · exact ⟨H, fun q => hg q.1⟩
    · exact ⟨H, fun q => hg q.2⟩
  | orL h k =>
    obtain ⟨hx, hy⟩ := k345 (.inr (.inl k))
    simp only [List.mem_cons, List.not_mem_nil, or_false] at hp
    rcases hp with rfl | rfl
    · obtain ⟨h1, h2⟩ := (hd_add hx).1 H
      exact ⟨(hd_del h).2 ⟨by rw [f4 k]; exact .inl h1, h2⟩, hg⟩
    · obtain ⟨h1, h2⟩ := (hd_add hy).1 H
      exact ⟨(hd_del h).2 ⟨by rw [f4 k]; exact .inr h1, h2⟩, hg⟩
  | orR1 g k => exact absurd rfl hr.1
  | orR2 g k => exact absurd rfl hr.2
  | conj h k c e1 e2 =>
    obtain ⟨n1, w1, i1, q1, l1⟩ := put_nd hw e1
    obtain ⟨n2, w2, i2, q2, l2⟩ := put_nd w1 e2
    generalize hA1 : putS M (impN (nd M (nd M i).l).r (nd M i).r) = A1 at *
    generalize hA2 : putS A1.1 (impN (nd M (nd M i).l).l A1.2.1) = A2 at *
    have hli := hw.left hi (.inr (.inr k))
    have fc : fm A2.1 (nd M i).l = .and (fm A2.1 (nd M (nd M i).l).l) (fm A2.1 (nd M (nd M i).l).r) := by rw [hE.fm hw hli, hE.fm hw (hw.left hli (.inl c)), hE.fm hw (hw.right hli (.inl c))]; exact fm3 hw hli c
    have fx : fm A2.1 A1.2.1 = .imp (fm A2.1 (nd M (nd M i).l).r) (fm A2.1 (nd M i).r) := fmI wN (inb_mono i1 l2) (by rw [q2 _ i1]; exact n1)
    have fy : fm A2.1 A2.2.1 = .imp (fm A2.1 (nd M (nd M i).l).l) (fm A2.1 A1.2.1) := fmI wN i2 n2
    rw [List.mem_singleton] at hp; subst hp
    obtain ⟨h1, h2⟩ := (hd_add (in1024 wN.len i2)).1 H
    refine ⟨(hd_del h).2 ⟨?_, h2⟩, hg⟩
    rw [f5 k, fc]
    rw [fy, fx] at h1
    exact fun v hv q => h1 v hv q.1 v (K.refl v) q.2
  | disj h k c e1 e2 =>
    obtain ⟨n1, w1, i1, q1, l1⟩ := put_nd hw e1
    obtain ⟨n2, w2, i2, q2, l2⟩ := put_nd w1 e2
    generalize hA1 : putS M (impN (nd M (nd M i).l).l (nd M i).r) = A1 at *
    generalize hA2 : putS A1.1 (impN (nd M (nd M i).l).r (nd M i).r) = A2 at *
    have hli := hw.left hi (.inr (.inr k))
    have fc : fm A2.1 (nd M i).l = .or (fm A2.1 (nd M (nd M i).l).l) (fm A2.1 (nd M (nd M i).l).r) := by rw [hE.fm hw hli, hE.fm hw (hw.left hli (.inr (.inl c))), hE.fm hw (hw.right hli (.inr (.inl c)))]; exact fm4 hw hli c
    have fx : fm A2.1 A1.2.1 = .imp (fm A2.1 (nd M (nd M i).l).l) (fm A2.1 (nd M i).r) := fmI wN (inb_mono i1 l2) (by rw [q2 _ i1]; exact n1)
    have fy : fm A2.1 A2.2.1 = .imp (fm A2.1 (nd M (nd M i).l).r) (fm A2.1 (nd M i).r) := fmI wN i2 n2
    rw [List.mem_singleton] at hp; subst hp
    obtain ⟨h1, h2⟩ := (hd_add (in1024 wN.len i2)).1 H
    obtain ⟨h3, h4⟩ := (hd_add (in1024 w1.len i1)).1 h2
    refine ⟨(hd_del h).2 ⟨?_, h4⟩, hg⟩
    rw [f5 k, fc]
    rw [fy] at h1
    rw [fx] at h3
    exact fun v hv q => q.elim (h3 v hv) (h1 v hv)
  | impL h k c e1 =>
    obtain ⟨_, hy⟩ := k345 (.inr (.inr k))
    have hp := h13 rfl
    simp only [List.getElem?_cons_succ, List.getElem?_cons_zero, Option.some.injEq] at hp
    subst hp
    obtain ⟨h1, h2⟩ := (hd_add hy).1 H
    refine ⟨(hd_del h).2 ⟨?_, h2⟩, hg⟩
    rw [f5 k]
    exact fun v hv _ => K.up _ hv h1
end Go.Proofs.YtjjkhjieegmphaaDoor
end
section
namespace Go.Proofs.YtjjkhjieegmphaaDoor
open Gw
section
variable {ι : Type} (K : ι → Kr) (w0 : ∀ i, (K i).W)
inductive GLe : Option (Σ i, (K i).W) → Option (Σ i, (K i).W) → Prop
  | root : GLe none none
  | down {i : ι} {v : (K i).W} (h : (K i).le (w0 i) v) : GLe none (some ⟨i, v⟩)
  | inn {i : ι} {u v : (K i).W} (h : (K i).le u v) : GLe (some ⟨i, u⟩) (some ⟨i, v⟩)
theorem GLe.trans {a b c : Option (Σ i, (K i).W)} (h : GLe K w0 a b) (k : GLe K w0 b c) : GLe K w0 a c := by
  cases h with
  | root => exact k
  | down h =>
    cases k with
    | inn k => exact .down ((K _).trans h k)
  | inn h =>
    cases k with
    | inn k => exact .inn ((K _).trans h k)
def gval (at0 : Int → Prop) : Option (Σ i, (K i).W) → Int → Prop
  | none, a => at0 a
  | some ⟨i, v⟩, a => (K i).val v a
def glue (at0 : Int → Prop) (h0 : ∀ a i, at0 a → (K i).val (w0 i) a) : Kr where
  W := Option (Σ i, (K i).W)
  le := GLe K w0
  refl := fun w => match w with
    | none => .root
    | some ⟨i, v⟩ => .inn ((K i).refl v)
  trans := GLe.trans K w0
  val := gval K at0
  mono := fun {a b p} h hp => by
    cases h with
    | root => exact hp
    | down h => exact (K _).mono h (h0 _ _ hp)
    | inn h => exact (K _).mono h hp
theorem glue_in {at0 : Int → Prop} {h0 : ∀ a i, at0 a → (K i).val (w0 i) a} : ∀ (x : Fm) (i : ι) (v : (K i).W), (glue K w0 at0 h0).fc x (some ⟨i, v⟩) ↔ (K i).fc x v
  | .atom a, i, v => Iff.rfl
  | .bot, i, v => Iff.rfl
  | .and x y, i, v => and_congr (glue_in x i v) (glue_in y i v)
  | .or x y, i, v => or_congr (glue_in x i v) (glue_in y i v)
  | .imp x y, i, v => by
    constructor
    · intro h u hu hx
      exact (glue_in y i u).1 (h (some ⟨i, u⟩) (.inn hu) ((glue_in x i u).2 hx))
    · intro h u hu hx
      cases hu with
      | inn hu => exact (glue_in y i _).2 (h _ hu ((glue_in x i _).1 hx))
end
theorem stuck_refd {N : List Nd} {s : Sq} (hw : Wf N) (hl : lookV N s = true)
    (hk : ∀ j : Int, s.left.has j = true → (nd N j).kind = 1 ∨ ((nd N j).kind = 5 ∧ (nd N (nd N j).l).kind = 1 ∧ s.left.has (nd N j).l = false) ∨ ((nd N j).kind = 5 ∧ (nd N (nd N j).l).kind = 5))
    (hg : ((nd N s.goal).kind = 1 ∧ s.left.has s.goal = false) ∨ (nd N s.goal).kind = 2 ∨ (nd N s.goal).kind = 4)
    (hor : (nd N s.goal).kind = 4 → Refd N ⟨s.left, (nd N s.goal).l⟩ ∧ Refd N ⟨s.left, (nd N s.goal).r⟩)
    (himp : ∀ j : Int, s.left.has j = true → (nd N j).kind = 5 → (nd N (nd N j).l).kind = 5 → ∃ d : Int, (0 ≤ d ∧ d < 1024) ∧ fm N d = .imp (fm N (nd N (nd N j).l).r) (fm N (nd N j).r) ∧ Refd N ⟨(s.left.del j).add d, (nd N j).l⟩) : Refd N s := by
  obtain ⟨hin, hgin⟩ := lookV_iff.1 hl
  let Rel : Int → Prop := fun x => (x = -1 ∧ (nd N s.goal).kind = 4) ∨ (x = -2 ∧ (nd N s.goal).kind = 4) ∨ (0 ≤ x ∧ s.left.has x = true ∧ (nd N x).kind = 5 ∧ (nd N (nd N x).l).kind = 5)
  let tgt : Int → Int := fun x => if x = -1 then (nd N s.goal).l else if x = -2 then (nd N s.goal).r else (nd N x).l
  have hex : ∀ x : { x : Int // Rel x }, ∃ (K : Kr) (w : K.W), Hd K w N s.left ∧ ¬ K.fc (fm N (tgt x.1)) w := by
    rintro ⟨x, hx⟩
    rcases hx with ⟨rfl, h4⟩ | ⟨rfl, h4⟩ | ⟨h0, hh, k5, l5⟩
    · obtain ⟨K, w, h1, h2⟩ := (hor h4).1
      exact ⟨K, w, h1, h2⟩
    · obtain ⟨K, w, h1, h2⟩ := (hor h4).2
      exact ⟨K, w, h1, h2⟩
    · obtain ⟨d, hd, fd, K, w, h1, h2⟩ := himp x hh k5 l5
      have ht : tgt x = (nd N x).l := by
        show (if x = -1 then _ else if x = -2 then _ else _) = _
        rw [if_neg (by omega), if_neg (by omega)]
      have hi := hin x hh
      have hli := hw.left hi (.inr (.inr k5))
      obtain ⟨h3, h4⟩ := (hd_add hd).1 h1
      rw [fd] at h3
      have hfl := fm5 hw hli l5
      simp only at h2
      rw [hfl] at h2
      have hv : ∃ v, K.le w v ∧ K.fc (fm N (nd N (nd N x).l).l) v ∧ ¬ K.fc (fm N (nd N (nd N x).l).r) v := by
        refine Classical.byContradiction fun q => h2 fun v hv hC => Classical.byContradiction fun hD => q ⟨v, hv, hC, hD⟩
      obtain ⟨v, hv, hC, hD⟩ := hv
      refine ⟨K, v, (hd_del hh).2 ⟨?_, h4.up hv⟩, ?_⟩
      · rw [fm5 hw hi k5, hfl]
        intro u hu q
        exact h3 u (K.trans hv hu) (q u (K.refl u) (K.up _ hu hC))
      · show ¬ K.fc (fm N (tgt x)) v
        rw [ht, hfl]
        exact fun q => hD (q v (K.refl v) hC)
  obtain ⟨K, hK⟩ := Classical.axiomOfChoice hex
  obtain ⟨w0, hw0⟩ := Classical.axiomOfChoice hK
  let at0 : Int → Prop := fun a => s.left.has a = true ∧ (nd N a).kind = 1
  have h0 : ∀ a i, at0 a → (K i).val (w0 i) a := by
    rintro a i ⟨h1, h2⟩
    have := (hw0 i).1 a h1
    rw [fm1 h2] at this; exact this
  have hinn : ∀ (x : Fm) (i : { x : Int // Rel x }) (v : (K i).W), (glue K w0 at0 h0).fc x (some ⟨i, v⟩) ↔ (K i).fc x v := glue_in K w0
  have hdown : ∀ (x : Fm) (i : { x : Int // Rel x }), (glue K w0 at0 h0).fc x none → (K i).fc x (w0 i) := fun x i h => (hinn x i _).1 ((glue K w0 at0 h0).up x (GLe.down ((K i).refl _)) h)
  refine ⟨glue K w0 at0 h0, none, fun j hj => ?_, ?_⟩
  · have hi := hin j hj
    rcases hk j hj with k1 | ⟨k5, l1, hn⟩ | ⟨k5, l5⟩
    · rw [fm1 k1]; exact ⟨hj, k1⟩
    · have hf := fm5 hw hi k5
      rw [hf]
      intro v hv q
      cases hv with
      | root =>
        rw [fm1 l1] at q
        exact absurd q.1 (by rw [hn]; simp)
      | @down i' v' hv =>
        have := (hw0 i').1 j hj
        rw [hf] at this
        exact (hinn _ _ _).2 (this _ hv ((hinn _ _ _).1 q))
    · have hf := fm5 hw hi k5
      rw [hf]
      intro v hv q
      cases hv with
      | root =>
        have hr : Rel j := .inr (.inr ⟨(inb_ex hi).1, hj, k5, l5⟩)
        have ht : tgt j = (nd N j).l := by
          show (if j = -1 then _ else if j = -2 then _ else _) = _
          have := (inb_ex hi).1
          rw [if_neg (by omega), if_neg (by omega)]
        have h2 := (hw0 ⟨j, hr⟩).2
        simp only [ht] at h2
        exact absurd (hdown _ ⟨j, hr⟩ q) h2
      | @down i' v' hv =>
        have := (hw0 i').1 j hj
        rw [hf] at this
        exact (hinn _ _ _).2 (this _ hv ((hinn _ _ _).1 q))
  · rcases hg with ⟨k1, hn⟩ | k2 | k4
    · rw [fm1 k1]
      exact fun q => absurd q.1 (by rw [hn]; simp)
    · rw [fm2 k2]; exact fun q => q
    · rw [fm4 hw hgin k4]
      rintro (q | q)
      · have hr : Rel (-1) := .inl ⟨rfl, k4⟩
        exact (hw0 ⟨-1, hr⟩).2 (hdown _ ⟨-1, hr⟩ q)
      · have hr : Rel (-2) := .inr (.inl ⟨rfl, k4⟩)
        exact (hw0 ⟨-2, hr⟩).2 (hdown _ ⟨-2, hr⟩ q)
end Go.Proofs.YtjjkhjieegmphaaDoor
end
section
namespace Go.Proofs.YtjjkhjieegmphaaDoor
open Gw
set_option maxRecDepth 100000
abbrev wt (W : List Int) (i : Int) : Int := at_ (0 : Int) W i
theorem chk_t {α : Type} {b : Bool} {x : Option α} (h : b = true) : chk b x = x := by rw [chk, if_pos h]
def Falls (l : List Int) : Prop := l.Pairwise fun a b => b ≤ a
def fms (s : Sq) : List Int := s.left.list.map (fun (n : Nat) => (n : Int)) ++ [s.goal]
def lessV : List Int → List Int → Bool
  | [], b => !b.isEmpty
  | _ :: _, [] => false
  | x :: a, y :: b => if x = y then lessV a b else decide (x < y)
theorem less_of_count {m : Int} : ∀ {a b : List Int}, Falls a → Falls b → (∀ u, m ≤ u → a.count u ≤ b.count u) → a.count m < b.count m → lessV a b = true
  | _, [], _, _, _, h => by simp at h
  | [], _ :: _, _, _, _, _ => rfl
  | x :: a, y :: b, ha, hb, hu, hm => by
    have ha' := List.pairwise_cons.1 ha
    have hb' := List.pairwise_cons.1 hb
    rw [lessV]
    by_cases e : x = y
    · subst e
      rw [if_pos rfl]
      refine less_of_count (m := m) ha'.2 hb'.2 (fun u h => ?_) ?_
      · have := hu u h
        rw [List.count_cons, List.count_cons] at this
        omega
      · rw [List.count_cons, List.count_cons] at hm
        omega
    · rw [if_neg e, decide_eq_true_eq]
      refine Int.lt_iff_le_and_ne.2 ⟨Int.not_lt.1 fun hlt => ?_, e⟩
      have hz : ∀ u, y < u → (y :: b).count u = 0 := fun u h => List.count_eq_zero.2 fun q => by
        rcases List.mem_cons.1 q with rfl | q
        · omega
        · have := hb'.1 u q; omega
      by_cases hxm : m ≤ x
      · have h1 := hu x hxm
        rw [hz x hlt, List.count_cons_self] at h1
        omega
      · rw [hz m (by omega)] at hm; omega
end Go.Proofs.YtjjkhjieegmphaaDoor
end
section
namespace Go.Proofs.YtjjkhjieegmphaaDoor
open Gw
end Go.Proofs.YtjjkhjieegmphaaDoor
end
section
namespace Go.Proofs.YtjjkhjieegmphaaDoor
open Gw
set_option maxRecDepth 100000
theorem countP_lt {α : Type} {p q : α → Bool} : ∀ {l : List α}, (∀ x ∈ l, p x = true → q x = true) → (∃ x ∈ l, q x = true ∧ p x = false) → l.countP p < l.countP q
  | [], _, h => by obtain ⟨x, hx, _⟩ := h; cases hx
  | y :: l, h, hs => by
    have hm : l.countP p ≤ l.countP q := List.countP_mono_left fun x hx => h x (List.mem_cons_of_mem _ hx)
    rw [List.countP_cons, List.countP_cons]
    have hy := h y (List.mem_cons_self ..)
    obtain ⟨x, hx, h1, h2⟩ := hs
    rcases List.mem_cons.1 hx with rfl | hx
    · simp only [h1, h2, if_true, Bool.false_eq_true, if_false]; omega
    · have := countP_lt (l := l) (fun x hx => h x (List.mem_cons_of_mem _ hx)) ⟨x, hx, h1, h2⟩
      by_cases hp : p y = true
      · simp only [hp, hy hp, if_true]; omega
      · simp only [hp, Bool.false_eq_true, if_false]; omega
def cl (W : List Int) (b : Bits) (u : Int) : Nat := b.list.countP fun (j : Nat) => decide (wt W j = u)
theorem cl_eq (W : List Int) (b : Bits) (u : Int) : cl W b u = (List.range 1024).countP fun (j : Nat) => decide (wt W j = u) && b.has j := by
  unfold cl Bits.list; rw [List.countP_filter]
theorem cl_le {W : List Int} {b c : Bits} {u : Int} (h : ∀ j : Int, c.has j = true → wt W j = u → b.has j = true) : cl W c u ≤ cl W b u := by
  rw [cl_eq, cl_eq]
  refine List.countP_mono_left fun j _ hj => ?_
  simp only [Bool.and_eq_true, decide_eq_true_eq] at hj ⊢
  exact ⟨hj.1, h _ hj.2 hj.1⟩
theorem cl_lt {W : List Int} {b c : Bits} {u i : Int} (h : ∀ j : Int, c.has j = true → wt W j = u → b.has j = true) (hi : b.has i = true) (hu : wt W i = u) (hn : c.has i = false) : cl W c u < cl W b u := by
  rw [cl_eq, cl_eq]
  have hr : 0 ≤ i ∧ i < 1024 := by
    refine Decidable.byContradiction fun q => ?_
    rw [Bits.has_out _ _ (by omega)] at hi; cases hi
  have hin : ((i.toNat : Nat) : Int) = i := by omega
  refine countP_lt (fun j _ hj => ?_) ⟨i.toNat, List.mem_range.2 (by omega), ?_, ?_⟩
  · simp only [Bool.and_eq_true, decide_eq_true_eq] at hj ⊢
    exact ⟨hj.1, h _ hj.2 hj.1⟩
  · rw [hin, hi, hu]; simp
  · rw [hin, hn]; simp
theorem cnt_fms (W : List Int) (s : Sq) (u : Int) : ((fms s).map (wt W)).count u = cl W s.left u + if wt W s.goal = u then 1 else 0 := by
  unfold fms cl
  rw [List.map_append, List.count_append, List.map_map, List.map_singleton, List.count_singleton, List.count_eq_countP, List.countP_map]
  congr 1
  by_cases h : wt W s.goal = u <;> simp [h]
def Lighter (W : List Int) (m : Int) (p s : Sq) : Prop := (∀ u, m ≤ u → ((fms p).map (wt W)).count u ≤ ((fms s).map (wt W)).count u) ∧ ((fms p).map (wt W)).count m < ((fms s).map (wt W)).count m
theorem lighter_left {W : List Int} {m i : Int} {p s : Sq} (hm : wt W i = m) (his : s.left.has i = true) (hl : ∀ j : Int, p.left.has j = true → (s.left.has j = true ∧ j ≠ i) ∨ wt W j < m) (hg : p.goal = s.goal ∨ wt W p.goal < m) : Lighter W m p s := by
  have h1 : ∀ u, m ≤ u → ∀ j : Int, p.left.has j = true → wt W j = u → s.left.has j = true := fun u hu j hj e => (hl j hj).elim (·.1) (fun q => by omega)
  have h2 : p.left.has i = false := by
    cases h : p.left.has i with
    | false => rfl
    | true => exact ((hl i h).elim (fun q => absurd rfl q.2) (fun q => by omega))
  refine ⟨fun u hu => ?_, ?_⟩
  · rw [cnt_fms, cnt_fms]
    have := cl_le (h1 u hu)
    rcases hg with e | e
    · rw [e]; omega
    · rw [if_neg (by omega)]; omega
  · rw [cnt_fms, cnt_fms]
    have := cl_lt (h1 m (Int.le_refl _)) his hm h2
    rcases hg with e | e
    · rw [e]; omega
    · rw [if_neg (by omega)]; omega
theorem lighter_right {W : List Int} {m : Int} {p s : Sq} (hm : wt W s.goal = m) (hl : ∀ j : Int, p.left.has j = true → s.left.has j = true ∨ wt W j < m) (hg : wt W p.goal < m) : Lighter W m p s := by
  have h1 : ∀ u, m ≤ u → ∀ j : Int, p.left.has j = true → wt W j = u → s.left.has j = true := fun u hu j hj e => (hl j hj).elim id (fun q => by omega)
  refine ⟨fun u hu => ?_, ?_⟩
  · rw [cnt_fms, cnt_fms]
    have := cl_le (h1 u hu)
    rw [if_neg (by omega)]; omega
  · rw [cnt_fms, cnt_fms]
    have := cl_le (h1 m (Int.le_refl _))
    rw [if_neg (by omega), if_pos hm]; omega
theorem add_has' {b : Bits} {x j : Int} (hx : 0 ≤ x ∧ x < 1024) (h : (b.add x).has j = true) : j = x ∨ b.has j = true := by
  rw [Bits.add_has _ _ _ hx] at h
  simpa using h
theorem del_has' {b : Bits} {x j : Int} (h : (b.del x).has j = true) : b.has j = true ∧ j ≠ x := by
  rw [Bits.del_has] at h
  simp only [Bool.and_eq_true, Bool.not_eq_true', decide_eq_false_iff_not] at h
  exact ⟨h.2, h.1⟩
theorem fms_inb {N : List Nd} {s : Sq} (hl : lookV N s = true) : ∀ x ∈ fms s, inb x N.length = true := by
  obtain ⟨l1, l2⟩ := lookV_iff.1 hl
  intro x hx
  rcases List.mem_append.1 hx with hx | hx
  · obtain ⟨j, hj, rfl⟩ := List.mem_map.1 hx
    exact l1 j (Bits.mem_list.1 hj).2
  · rw [List.mem_singleton.1 hx]; exact l2
theorem forN_go {ρ σ : Type} {b : Int → σ → Option (Stp σ ρ)} {x : σ} : ∀ (n i : Nat), (∀ j : Nat, i ≤ j → j < i + n → b j x = some (.go x)) → forN b n i x = some (.inl x)
  | 0, i, _ => by simp [forN]
  | n + 1, i, h => by
    rw [forN, h i (Nat.le_refl _) (by omega)]
    have := forN_go (b := b) (x := x) n (i + 1) fun j h1 h2 => h j (by omega) (by omega)
    simpa using this
theorem prem_len {M N : List Nd} {s : Sq} {i r : Int} {L : List Sq} (h : PremR M s i r N L) : L.length ≤ 2 := by cases h <;> simp
end Go.Proofs.YtjjkhjieegmphaaDoor
end
section
namespace Go.Proofs.YtjjkhjieegmphaaDoor
open Gw
def uwF (M : List Nd) : Nat → Int → Int
  | 0, _ => 1
  | n + 1, i => if (nd M i).kind = 1 ∨ (nd M i).kind = 2 then 1 else uwF M n (nd M i).l + uwF M n (nd M i).r + (if (nd M i).kind = 3 then 2 else 1)
def uw (M : List Nd) : List Int := (List.range M.length).map fun (j : Nat) => uwF M (j + 1) j
theorem uwF_two {M N : List Nd} (hw : Wf M) (hN : ∀ j : Int, inb j M.length = true → nd N j = nd M j) : ∀ (n m : Nat) (i : Int), inb i M.length = true → i.toNat < n → i.toNat < m → uwF N n i = uwF M m i := by
  intro n
  induction n with
  | zero => intro m i _ h; omega
  | succ n ih =>
    intro m i hi h1 h2
    obtain ⟨m, rfl⟩ : ∃ q, m = q + 1 := ⟨m - 1, by omega⟩
    rw [uwF, uwF, hN i hi]
    have hk := hw.kind i hi
    have h0 := inb_ex hi
    by_cases k12 : (nd M i).kind = 1 ∨ (nd M i).kind = 2
    · rw [if_pos k12, if_pos k12]
    · have k : (nd M i).kind = 3 ∨ (nd M i).kind = 4 ∨ (nd M i).kind = 5 := by omega
      have hks := hw.kids i hi k
      rw [if_neg k12, if_neg k12, ih m _ (hw.left hi k) (by omega) (by omega), ih m _ (hw.right hi k) (by omega) (by omega)]
theorem uw_at {M : List Nd} {i : Int} (hi : inb i M.length = true) : wt (uw M) i = uwF M (i.toNat + 1) i := by
  have h0 := inb_ex hi
  have h1 : i.toNat < M.length := by omega
  unfold wt at_ uw
  rw [List.getD_eq_getElem?_getD, List.getElem?_map, List.getElem?_range h1]
  have : ((i.toNat : Nat) : Int) = i := by omega
  simp [this]
theorem uwF_pos (M : List Nd) : ∀ (n : Nat) (i : Int), 1 ≤ uwF M n i
  | 0, _ => by simp [uwF]
  | n + 1, i => by
    have h1 := uwF_pos M n (nd M i).l
    have h2 := uwF_pos M n (nd M i).r
    rw [uwF]
    split
    · omega
    · split <;> omega
theorem uw_ext {M N : List Nd} (hw : Wf M) (h : TExt M N) {i : Int} (hi : inb i M.length = true) : wt (uw N) i = wt (uw M) i := by
  rw [uw_at hi, uw_at (inb_mono hi h.len)]
  exact uwF_two hw h.eq _ _ i hi (by omega) (by omega)
theorem w_unc {N : List Nd} {i : Int} (hw : Wf N) (hi : inb i N.length = true) (hk : (nd N i).kind = 3 ∨ (nd N i).kind = 4 ∨ (nd N i).kind = 5) :
    wt (uw N) i = wt (uw N) (nd N i).l + wt (uw N) (nd N i).r + (if (nd N i).kind = 3 then 2 else 1) ∧ 1 ≤ wt (uw N) (nd N i).l ∧ 1 ≤ wt (uw N) (nd N i).r := by
  have hl := hw.left hi hk
  have hr := hw.right hi hk
  have hks := hw.kids i hi hk
  rw [uw_at hi, uw_at hl, uw_at hr]
  refine ⟨?_, uwF_pos _ _ _, uwF_pos _ _ _⟩
  rw [uwF, if_neg (by omega), uwF_two hw (fun _ _ => rfl) i.toNat ((nd N i).l.toNat + 1) _ hl (by omega) (by omega), uwF_two hw (fun _ _ => rfl) i.toNat ((nd N i).r.toNat + 1) _ hr (by omega) (by omega)]
theorem w_new' {N : List Nd} {y a b : Int} (hw : Wf N) (hi : inb y N.length = true) (hn : nd N y = impN a b) : wt (uw N) y ≤ wt (uw N) a + wt (uw N) b + 1 := by
  have hk : (nd N y).kind = 5 := by rw [hn]; rfl
  have h := (w_unc hw hi (.inr (.inr hk))).1
  have e2 : (impN a b).l = a := rfl
  have e3 : (impN a b).r = b := rfl
  rw [if_neg (by omega), hn, e2, e3] at h
  omega
theorem prem_lighter {M N : List Nd} {s : Sq} {i r : Int} {L : List Sq} (hw : Wf M) (hb : s.left.okB = true) (hl : lookV M s = true) (hi : inb i M.length = true) (h : PremR M s i r N L) : ∀ p ∈ L, Lighter (uw N) (wt (uw N) i) p s := by
  obtain ⟨wN, lN, qN, _⟩ := prem_wf hw hb hl hi h
  have hiN := inb_mono hi lN
  have mn : (s.left.has i = true ∨ i = s.goal) → (nd M i).kind = 3 ∨ (nd M i).kind = 4 ∨ (nd M i).kind = 5 → wt (uw N) i = wt (uw N) (nd M i).l + wt (uw N) (nd M i).r + (if (nd M i).kind = 3 then 2 else 1) ∧ 1 ≤ wt (uw N) (nd M i).l ∧ 1 ≤ wt (uw N) (nd M i).r := fun _ k => by
    have := w_unc wN hiN (by rw [qN i hi]; exact k)
    rw [qN i hi] at this; exact this
  have mn2 : s.left.has i = true → (nd M i).kind = 5 → (nd M (nd M i).l).kind = 3 ∨ (nd M (nd M i).l).kind = 4 ∨ (nd M (nd M i).l).kind = 5 → wt (uw N) (nd M i).l = wt (uw N) (nd M (nd M i).l).l + wt (uw N) (nd M (nd M i).l).r + (if (nd M (nd M i).l).kind = 3 then 2 else 1) ∧ 1 ≤ wt (uw N) (nd M (nd M i).l).l ∧ 1 ≤ wt (uw N) (nd M (nd M i).l).r := fun _ k k2 => by
    have hli := hw.left hi (.inr (.inr k))
    have := w_unc wN (inb_mono hli lN) (by rw [qN _ hli]; exact k2)
    rw [qN _ hli] at this; exact this
  have k345 : (nd M i).kind = 3 ∨ (nd M i).kind = 4 ∨ (nd M i).kind = 5 → (0 ≤ (nd M i).l ∧ (nd M i).l < 1024) ∧ (0 ≤ (nd M i).r ∧ (nd M i).r < 1024) := fun k => ⟨in1024 hw.len (hw.left hi k), in1024 hw.len (hw.right hi k)⟩
  cases h with
  | bot h k => intro p hp; cases hp
  | ax h g => intro p hp; cases hp
  | andL h k =>
    obtain ⟨hx, hy⟩ := k345 (.inl k)
    have := mn (.inl h) (.inl k)
    rw [if_pos k] at this
    intro p hp
    rw [List.mem_singleton] at hp; subst hp
    refine lighter_left rfl h (fun j hj => ?_) (.inl rfl)
    rcases add_has' hy hj with rfl | hj
    · exact .inr (by omega)
    rcases add_has' hx hj with rfl | hj
    · exact .inr (by omega)
    · exact .inl (del_has' hj)
  | atom h k c a =>
    obtain ⟨hx, hy⟩ := k345 (.inr (.inr k))
    have := mn (.inl h) (.inr (.inr k))
    rw [if_neg (by omega)] at this
    intro p hp
    rw [List.mem_singleton] at hp; subst hp
    refine lighter_left rfl h (fun j hj => ?_) (.inl rfl)
    rcases add_has' hy hj with rfl | hj
    · exact .inr (by omega)
    · exact .inl (del_has' hj)
  | botL h k c =>
    intro p hp
    rw [List.mem_singleton] at hp; subst hp
    exact lighter_left rfl h (fun j hj => .inl (del_has' hj)) (.inl rfl)
  | impR g k =>
    obtain ⟨hx, hy⟩ := k345 (.inr (.inr k))
    have := mn (.inr g) (.inr (.inr k))
    rw [if_neg (by omega)] at this
    intro p hp
    rw [List.mem_singleton] at hp; subst hp
    refine lighter_right (by rw [g]) (fun j hj => ?_) (by show wt (uw _) (nd M i).r < _; omega)
    rcases add_has' hx hj with rfl | hj
    · exact .inr (by omega)
    · exact .inl hj
  | andR g k =>
    have := mn (.inr g) (.inl k)
    rw [if_pos k] at this
    intro p hp
    simp only [List.mem_cons, List.not_mem_nil, or_false] at hp
    rcases hp with rfl | rfl
    · exact lighter_right (by rw [g]) (fun j hj => .inl hj) (by show wt (uw _) (nd M i).l < _; omega)
    · exact lighter_right (by rw [g]) (fun j hj => .inl hj) (by show wt (uw _) (nd M i).r < _; omega)
  | orL h k =>
    obtain ⟨hx, hy⟩ := k345 (.inr (.inl k))
    have := mn (.inl h) (.inr (.inl k))
    rw [if_neg (by omega)] at this
    intro p hp
    simp only [List.mem_cons, List.not_mem_nil, or_false] at hp
    rcases hp with rfl | rfl
    · refine lighter_left rfl h (fun j hj => ?_) (.inl rfl)
      rcases add_has' hx hj with rfl | hj
      · exact .inr (by omega)
      · exact .inl (del_has' hj)
    · refine lighter_left rfl h (fun j hj => ?_) (.inl rfl)
      rcases add_has' hy hj with rfl | hj
      · exact .inr (by omega)
      · exact .inl (del_has' hj)
  | orR1 g k =>
    have := mn (.inr g) (.inr (.inl k))
    rw [if_neg (by omega)] at this
    intro p hp
    rw [List.mem_singleton] at hp; subst hp
    exact lighter_right (by rw [g]) (fun j hj => .inl hj) (by show wt (uw _) (nd M i).l < _; omega)
  | orR2 g k =>
    have := mn (.inr g) (.inr (.inl k))
    rw [if_neg (by omega)] at this
    intro p hp
    rw [List.mem_singleton] at hp; subst hp
    exact lighter_right (by rw [g]) (fun j hj => .inl hj) (by show wt (uw _) (nd M i).r < _; omega)
  | conj h k c e1 e2 =>
    have m1 := mn (.inl h) (.inr (.inr k))
    have m2 := mn2 h k (.inl c)
    rw [if_neg (by omega)] at m1
    rw [if_pos c] at m2
    obtain ⟨n1, w1, i1, q1, l1⟩ := put_nd hw e1
    obtain ⟨n2, w2, i2, q2, l2⟩ := put_nd w1 e2
    generalize hA1 : putS M (impN (nd M (nd M i).l).r (nd M i).r) = A1 at n1 w1 i1 q1 l1 n2 w2 i2 q2 l2 wN mn mn2 m1 m2 e1 e2 ⊢
    generalize hA2 : putS A1.1 (impN (nd M (nd M i).l).l A1.2.1) = A2 at n2 w2 i2 q2 l2 wN mn mn2 m1 m2 e2 ⊢
    have v1 := w_new' wN (inb_mono i1 l2) (by rw [q2 _ i1]; exact n1)
    have v2 := w_new' wN i2 n2
    intro p hp
    rw [List.mem_singleton] at hp; subst hp
    refine lighter_left rfl h (fun j hj => ?_) (.inl rfl)
    rcases add_has' (in1024 w2.len i2) hj with rfl | hj
    · exact .inr (by omega)
    · exact .inl (del_has' hj)
  | disj h k c e1 e2 =>
    have m1 := mn (.inl h) (.inr (.inr k))
    have m2 := mn2 h k (.inr (.inl c))
    rw [if_neg (by omega)] at m1 m2
    obtain ⟨n1, w1, i1, q1, l1⟩ := put_nd hw e1
    obtain ⟨n2, w2, i2, q2, l2⟩ := put_nd w1 e2
    generalize hA1 : putS M (impN (nd M (nd M i).l).l (nd M i).r) = A1 at n1 w1 i1 q1 l1 n2 w2 i2 q2 l2 wN mn mn2 m1 m2 e1 e2 ⊢
    generalize hA2 : putS A1.1 (impN (nd M (nd M i).l).r (nd M i).r) = A2 at n2 w2 i2 q2 l2 wN mn mn2 m1 m2 e2 ⊢
    have v1 := w_new' wN (inb_mono i1 l2) (by rw [q2 _ i1]; exact n1)
    have v2 := w_new' wN i2 n2
    intro p hp
    rw [List.mem_singleton] at hp; subst hp
    refine lighter_left rfl h (fun j hj => ?_) (.inl rfl)
    rcases add_has' (in1024 w2.len i2) hj with rfl | hj
    · exact .inr (by omega)
    rcases add_has' (in1024 w1.len i1) hj with rfl | hj
    · exact .inr (by omega)
    · exact .inl (del_has' hj)
  | impL h k c e1 =>
    have m1 := mn (.inl h) (.inr (.inr k))
    have m2 := mn2 h k (.inr (.inr c))
    rw [if_neg (by omega)] at m1 m2
    obtain ⟨hx, hy⟩ := k345 (.inr (.inr k))
    obtain ⟨n1, w1, i1, q1, l1⟩ := put_nd hw e1
    generalize hA1 : putS M (impN (nd M (nd M i).l).r (nd M i).r) = A1 at n1 w1 i1 q1 l1 wN mn mn2 m1 m2 e1 ⊢
    have v1 := w_new' wN i1 n1
    intro p hp
    simp only [List.mem_cons, List.not_mem_nil, or_false] at hp
    rcases hp with rfl | rfl
    · refine lighter_left rfl h (fun j hj => ?_) (.inr (by show wt (uw _) (nd M i).l < _; omega))
      rcases add_has' (in1024 w1.len i1) hj with rfl | hj
      · exact .inr (by omega)
      · exact .inl (del_has' hj)
    · refine lighter_left rfl h (fun j hj => ?_) (.inl rfl)
      rcases add_has' hy hj with rfl | hj
      · exact .inr (by omega)
      · exact .inl (del_has' hj)
def srt (l : List Int) : List Int := l.mergeSort fun a b => decide (b ≤ a)
theorem srt_falls (l : List Int) : Falls (srt l) := by
  have := List.pairwise_mergeSort (le := fun (a b : Int) => decide (b ≤ a)) (fun a b c h1 h2 => by simp at *; omega) (fun a b => by simp; omega) l
  exact this.imp fun h => by simpa using h
theorem srt_perm (l : List Int) : (srt l).Perm l := List.mergeSort_perm _ _
def rank (M : List Nd) (q : Sq) : List Int := srt ((fms q).map (wt (uw M)))
def Below (M : List Nd) (p s : Sq) : Prop := lessV (rank M p) (rank M s) = true
theorem lessV_irr : ∀ a : List Int, lessV a a = false
  | [] => rfl
  | x :: a => by rw [lessV, if_pos rfl]; exact lessV_irr a
theorem lessV_trans : ∀ {a b c : List Int}, lessV a b = true → lessV b c = true → lessV a c = true
  | [], b, [], _, h => by cases b <;> simp [lessV] at h
  | [], _, _ :: _, _, _ => rfl
  | _ :: _, [], _, h, _ => by simp [lessV] at h
  | _ :: _, _ :: _, [], _, h => by simp [lessV] at h
  | x :: a, y :: b, z :: c, h, k => by
    rw [lessV] at h k ⊢
    by_cases e1 : x = y
    · rw [if_pos e1] at h
      by_cases e2 : y = z
      · rw [if_pos e2] at k; rw [if_pos (e1.trans e2)]; exact lessV_trans h k
      · rw [if_neg e2] at k; rw [if_neg (by omega), e1]; exact k
    · rw [if_neg e1, decide_eq_true_eq] at h
      by_cases e2 : y = z
      · rw [if_neg (by omega), decide_eq_true_eq]; omega
      · rw [if_neg e2, decide_eq_true_eq] at k
        rw [if_neg (by omega), decide_eq_true_eq]; omega
theorem Below.irr {M : List Nd} {s : Sq} (h : Below M s s) : False := by unfold Below at h; rw [lessV_irr] at h; cases h
theorem Below.trans {M : List Nd} {a b c : Sq} (h : Below M a b) (k : Below M b c) : Below M a c := lessV_trans h k
theorem rank_ext {M N : List Nd} (hw : Wf M) (h : TExt M N) {q : Sq} (hl : lookV M q = true) : rank N q = rank M q := by
  unfold rank
  rw [List.map_congr_left fun x hx => uw_ext hw h (fms_inb hl x hx)]
theorem Below.ext {M N : List Nd} (hw : Wf M) (h : TExt M N) {p s : Sq} (hp : lookV M p = true) (hs : lookV M s = true) (hb : Below M p s) : Below N p s := by
  unfold Below; rw [rank_ext hw h hp, rank_ext hw h hs]; exact hb
theorem below_of {M : List Nd} {p s : Sq} {m : Int} (h : Lighter (uw M) m p s) : Below M p s := by
  unfold Below rank
  refine less_of_count (m := m) (srt_falls _) (srt_falls _) (fun u hu => ?_) ?_
  · rw [(srt_perm _).count_eq, (srt_perm _).count_eq]; exact h.1 u hu
  · rw [(srt_perm _).count_eq, (srt_perm _).count_eq]; exact h.2
theorem prem_below {M N : List Nd} {s : Sq} {i r : Int} {L : List Sq} (hw : Wf M) (hb : s.left.okB = true) (hl : lookV M s = true) (hi : inb i M.length = true) (h : PremR M s i r N L) : ∀ p ∈ L, Below N p s := fun p hp => below_of (prem_lighter hw hb hl hi h p hp)
end Go.Proofs.YtjjkhjieegmphaaDoor
end
section
namespace Go.Proofs.YtjjkhjieegmphaaDoor
open Gw
theorem look_ins {α β : Type} [DecidableEq α] (x y : α) (v : β) : ∀ l : List (α × β), Gw.look y (Gw.ins x v l) = if y = x then some v else Gw.look y l
  | [] => by simp [Gw.ins, Gw.look]
  | (k, u) :: l => by
    by_cases e : x = k
    · subst e
      by_cases e2 : y = x <;> simp [Gw.ins, Gw.look, e2]
    · by_cases e2 : y = k
      · have : ¬ y = x := fun q => e (q.symm.trans e2)
        have : ¬ k = x := fun q => e q.symm
        simp [Gw.ins, Gw.look, e, e2, this]
      · simp [Gw.ins, Gw.look, e, e2, look_ins x y v l]
structure SI (B : Int) (x : PFinder) (M : List Nd) : Prop where
  t : x.t = some M
  wf : Wf M
  bud : 0 ≤ x.left ∧ x.left + x.visits = B ∧ B ≤ 4096 ∧ (x.steps.length : Int) ≤ x.visits
  c1 : ∀ (i : Nat) (p : PStep), x.steps[i]? = some p → Gw.look p.seq x.at_ = some (i : Int)
  c2 : ∀ (q : Sq) (v : Int), Gw.look q x.at_ = some v → ∃ (i : Nat) (p : PStep), v = i ∧ x.steps[i]? = some p ∧ p.seq = q
  seq : ∀ p ∈ x.steps, p.seq.left.okB = true ∧ lookV M p.seq = true
  sem : ∀ p ∈ x.steps, (p.proved = true → Valid M p.seq) ∧ (p.proved = false → Refd M p.seq)
  kids : ∀ (i : Nat) (p : PStep), x.steps[i]? = some p → ∀ j ∈ p.kids, ∃ (n : Nat) (q : PStep), j = n ∧ n < i ∧ x.steps[n]? = some q ∧ q.proved = p.proved
  kl : ∀ p ∈ x.steps, p.kids.length ≤ 4096
structure Mid (B : Int) (x y : PFinder) (M M' : List Nd) (s : Sq) : Prop where
  si : SI B y M'
  ext : TExt M M'
  new : ∃ K, y.steps = x.steps ++ K ∧ ∀ p ∈ K, Below M' p.seq s
  left : y.left ≤ x.left - 1
  cnt : y.visits - y.steps.length = x.visits + 1 - x.steps.length
structure Ps (B : Int) (x y : PFinder) (M M' : List Nd) (s : Sq) (av : Int) : Prop where
  si : SI B y M'
  ext : TExt M M'
  new : ∃ K, y.steps = x.steps ++ K ∧ ∀ p ∈ K, p.seq = s ∨ Below M' p.seq s
  left : y.left ≤ x.left
  cnt : y.visits - y.steps.length = x.visits - x.steps.length
  at_ : ∃ (i : Nat) (p : PStep), av = i ∧ y.steps[i]? = some p ∧ p.seq = s
  last : y.steps = x.steps ∨ av + 1 = (y.steps.length : Int)
structure Er (M : List Nd) (y : PFinder) : Prop where
  ex : ∃ N, y.t = some N ∧ N.take M.length = M ∧ N.Nodup ∧ M.length ≤ N.length
def Out (B : Int) (x : PFinder) (M : List Nd) (s : Sq) (r : PFinder × Int × Int) : Prop :=
  (r.2.2 = 0 → ∃ M', Ps B x r.1 M M' s r.2.1) ∧ (r.2.2 ≠ 0 → Er M r.1)
theorem take_of {M N : List Nd} (h : TExt M N) : N.take M.length = M := by
  have hl := h.len
  refine List.ext_getElem (by simp; omega) fun i h1 h2 => ?_
  have hi : inb (i : Int) M.length = true := by rw [inb_nat]; simpa using h2
  have := h.eq i hi
  rw [← nd_at hi, ← nd_at (inb_mono hi hl), rows_take h2, rows_take (by omega)] at this
  rw [List.getElem_take]; exact this
theorem SI.er {B : Int} {y : PFinder} {M M' : List Nd} (h : SI B y M') (e : TExt M M') : Er M y := ⟨M', h.t, take_of e, h.wf.nodup, e.len⟩
theorem Er.mono {M M' : List Nd} {y : PFinder} (h : Er M' y) (e : TExt M M') : Er M y := by
  obtain ⟨N, h1, h2, h3, h4⟩ := h.ex
  refine ⟨N, h1, ?_, h3, Nat.le_trans e.len h4⟩
  have : M'.take M.length = M := take_of e
  rw [← this, ← h2, List.take_take, Nat.min_eq_left e.len]
  simp [Nat.min_eq_left e.len, List.take_take]
theorem SI.next {B : Int} {x y : PFinder} {M N : List Nd} (h : SI B x M) (e : TExt M N) (wN : Wf N) (ht : y.t = some N) (h1 : y.steps = x.steps) (h2 : y.at_ = x.at_) (hl : 0 ≤ y.left ∧ y.left + y.visits = B ∧ x.visits ≤ y.visits) : SI B y N where
  t := ht
  wf := wN
  bud := ⟨hl.1, hl.2.1, h.bud.2.2.1, by rw [h1]; have := h.bud.2.2.2; omega⟩
  c1 := by rw [h1, h2]; exact h.c1
  c2 := by rw [h1, h2]; exact h.c2
  seq := by rw [h1]; exact fun p hp => ⟨(h.seq p hp).1, e.look (h.seq p hp).2⟩
  sem := by
    rw [h1]
    intro p hp
    have hq := (h.seq p hp).2
    exact ⟨fun q => (e.valid h.wf hq).2 ((h.sem p hp).1 q), fun q => (e.refd h.wf hq).2 ((h.sem p hp).2 q)⟩
  kids := by rw [h1]; exact h.kids
  kl := by rw [h1]; exact h.kl
theorem end_some {B : Int} {x y : PFinder} {M M' : List Nd} {s : Sq} {p : PStep} (hx : SI B x M) (hs : Gw.look s x.at_ = none) (h : Mid B x y M M' s) (hb : s.left.okB = true) (hl : lookV M s = true) (hp : p.seq = s)
    (hsem : (p.proved = true → Valid M' s) ∧ (p.proved = false → Refd M' s)) (hk : ∀ j ∈ p.kids, ∃ (n : Nat) (q : PStep), j = n ∧ y.steps[n]? = some q ∧ q.proved = p.proved) (hkl : p.kids.length ≤ 4096) :
    ∃ r, search_finder_end.f y p = some r ∧ r.2.2 = 0 ∧ Ps B x r.1 M M' s r.2.1 := by
  have hbud := h.si.bud
  have hxb := hx.bud
  have hcnt := h.cnt
  have hnone : Gw.look s y.at_ = none := by
    cases hv : Gw.look s y.at_ with
    | none => rfl
    | some v =>
      exfalso
      obtain ⟨i, q, _, h1, h2⟩ := h.si.c2 s v hv
      obtain ⟨K, hK, hbK⟩ := h.new
      rw [hK] at h1
      by_cases hi : i < x.steps.length
      · rw [List.getElem?_append_left hi] at h1
        have := hx.c1 i q h1
        rw [h2, hs] at this; cases this
      · rw [List.getElem?_append_right (by omega)] at h1
        have := hbK q (List.mem_of_getElem? h1)
        rw [h2] at this; exact this.irr
  have hchk : decide ((y.steps.length + 1) * 184 ≤ 140737488355328) = true := decide_eq_true (by omega)
  have hlen : ((y.steps ++ [p]).length : Int) = y.steps.length + 1 := by simp
  refine ⟨_, by unfold search_finder_end.f; exact chk_t hchk, rfl, ?_⟩
  have hget : ∀ (i : Nat) (q : PStep), (y.steps ++ [p])[i]? = some q → (y.steps[i]? = some q ∧ i < y.steps.length) ∨ (i = y.steps.length ∧ q = p) := fun i q hq => by
    by_cases hi : i < y.steps.length
    · rw [List.getElem?_append_left hi] at hq; exact .inl ⟨hq, hi⟩
    · rw [List.getElem?_append_right (by omega)] at hq
      have : i - y.steps.length = 0 := by
        have := (List.getElem?_eq_some_iff.1 hq).1; simp at this; omega
      rw [this] at hq
      simp at hq
      exact .inr ⟨by omega, hq.symm⟩
  have hold : ∀ (i : Nat) (q : PStep), y.steps[i]? = some q → (y.steps ++ [p])[i]? = some q := fun i q hq => by
    rw [List.getElem?_append_left (List.getElem?_eq_some_iff.1 hq).1]; exact hq
  have hne : ∀ (i : Nat) (q : PStep), y.steps[i]? = some q → q.seq ≠ s := fun i q hq e => by
    have := h.si.c1 i q hq
    rw [e, hnone] at this; cases this
  have hwr : IntKind.i64.wrap (((y.steps ++ [p]).length : Int) - 1) = y.steps.length := by rw [hlen, wrap_small (by omega)]; omega
  refine ⟨⟨h.si.t, h.si.wf, ⟨hbud.1, hbud.2.1, hbud.2.2.1, ?_⟩, ?_, ?_, ?_, ?_, ?_, ?_⟩, h.ext, ?_, ?_, ?_, ?_, .inr ?_⟩
  · show ((y.steps ++ [p]).length : Int) ≤ y.visits
    omega
  · intro i q hq
    show Gw.look q.seq (Gw.ins p.seq (y.steps.length : Int) y.at_) = _
    rw [look_ins]
    rcases hget i q hq with ⟨h1, h2⟩ | ⟨rfl, rfl⟩
    · rw [if_neg (by rw [hp]; exact hne i q h1)]; exact h.si.c1 i q h1
    · rw [if_pos rfl]
  · intro q v hv
    change Gw.look q (Gw.ins p.seq (y.steps.length : Int) y.at_) = _ at hv
    rw [look_ins] at hv
    by_cases e : q = p.seq
    · rw [if_pos e] at hv
      exact ⟨y.steps.length, p, (Option.some.inj hv).symm, by simp, e.symm⟩
    · rw [if_neg e] at hv
      obtain ⟨i, q', h1, h2, h3⟩ := h.si.c2 q v hv
      exact ⟨i, q', h1, hold i q' h2, h3⟩
  · intro q hq
    rcases List.mem_append.1 hq with hq | hq
    · exact h.si.seq q hq
    · rw [List.mem_singleton.1 hq, hp]; exact ⟨hb, h.ext.look hl⟩
  · intro q hq
    rcases List.mem_append.1 hq with hq | hq
    · exact h.si.sem q hq
    · rw [List.mem_singleton.1 hq, hp]; exact hsem
  · intro i q hq j hj
    rcases hget i q hq with ⟨h1, h2⟩ | ⟨rfl, rfl⟩
    · obtain ⟨n, q', e1, e2, e3, e4⟩ := h.si.kids i q h1 j hj
      exact ⟨n, q', e1, e2, hold n q' e3, e4⟩
    · obtain ⟨n, q', e1, e3, e4⟩ := hk j hj
      exact ⟨n, q', e1, (List.getElem?_eq_some_iff.1 e3).1, hold n q' e3, e4⟩
  · intro q hq
    rcases List.mem_append.1 hq with hq | hq
    · exact h.si.kl q hq
    · rw [List.mem_singleton.1 hq]; exact hkl
  · obtain ⟨K, hK, hbK⟩ := h.new
    refine ⟨K ++ [p], by show y.steps ++ [p] = _; rw [hK, List.append_assoc], fun q hq => ?_⟩
    rcases List.mem_append.1 hq with hq | hq
    · exact .inr (hbK q hq)
    · rw [List.mem_singleton.1 hq]; exact .inl hp
  · show y.left ≤ x.left
    have := h.left; omega
  · show y.visits - ((y.steps ++ [p]).length : Int) = _
    omega
  · exact ⟨y.steps.length, p, hwr, by simp, hp⟩
  · show IntKind.i64.wrap (((y.steps ++ [p]).length : Int) - 1) + 1 = ((y.steps ++ [p]).length : Int)
    omega
theorem mid_step {B : Int} {x y z : PFinder} {M M' M2 : List Nd} {s p : Sq} {v : Int} (h : Mid B x y M M' s) (hs : lookV M s = true) (hp : lookV M' p = true) (hb : Below M' p s) (k : Ps B y z M' M2 p v) : Mid B x z M M2 s := by
  obtain ⟨K, hK, hbK⟩ := h.new
  obtain ⟨J, hJ, hbJ⟩ := k.new
  have hsM' := h.ext.look hs
  have hps : Below M2 p s := hb.ext h.si.wf k.ext hp hsM'
  refine ⟨k.si, h.ext.trans k.ext, ⟨K ++ J, by rw [hJ, hK, List.append_assoc], fun q hq => ?_⟩, by have := h.left; have := k.left; omega, by have := h.cnt; have := k.cnt; omega⟩
  rcases List.mem_append.1 hq with hq | hq
  · exact (hbK q hq).ext h.si.wf k.ext ((h.si.seq q (by rw [hK]; exact List.mem_append_right _ hq)).2) hsM'
  · rcases hbJ q hq with e | e
    · rw [e]; exact hps
    · exact e.trans hps
theorem at_of {l : List PStep} {i : Nat} {p : PStep} (h : l[i]? = some p) : at_ PStep.z l (i : Int) = p ∧ inb (i : Int) l.length = true := by
  have hl := (List.getElem?_eq_some_iff.1 h).1
  refine ⟨?_, by rw [inb_nat]; simpa using hl⟩
  unfold at_
  rw [Int.toNat_natCast, List.getD_eq_getElem?_getD, h]; rfl
def RecOk (B : Int) (n : Nat) (rec : PFinder → Sq → Option (PFinder × Int × Int)) : Prop :=
  ∀ (x : PFinder) (M : List Nd) (s : Sq), SI B x M → s.left.okB = true → lookV M s = true → x.left.toNat < n → ∃ r, rec x s = some r ∧ Out B x M s r
theorem Premises_err {M : List Nd} {s : Sq} {r i : Int} {N : List Nd} {L : List Sq} {e : Int} (hw : Wf M) (hl : lookV M s = true) (hb : s.left.okB = true) (h : rule_Premises.f (some M) s r i = some (some N, L, e)) (he : e ≠ 0) : N = M := by
  unfold rule_Premises.f at h
  rw [look_some hb, hl, fits_some hb] at h
  simp only [if_true, ne_eq, not_true_eq_false, decide_false, Bool.false_eq_true, if_false, Option.bind_some] at h
  cases hf : fitsV M s r i with
  | false => simp [hf] at h; exact h.1.symm
  | true =>
    simp only [hf, Bool.not_true, Bool.false_eq_true, if_false] at h
    obtain ⟨n, h1, h⟩ := bind_ex h
    have hn : n = (M.length : Int) := by simpa [formula_Table_Len.f] using h1.symm
    obtain ⟨⟨T, L', e'⟩, h2, h⟩ := bind_ex h
    by_cases he' : e' = 0
    · simp [he'] at h; exact absurd h.2.2.symm he
    · simp only [he', not_false_eq_true, decide_true, if_true] at h
      obtain ⟨⟨T2, c⟩, h3, h4⟩ := bind_ex h
      simp only [Option.some.injEq, Prod.mk.injEq] at h4
      have key : ∃ N', T = some N' ∧ N'.take M.length = M ∧ N'.Nodup ∧ M.length ≤ N'.length := by
        obtain ⟨hi, hc⟩ := fits_cases hf
        have k345 : (nd M i).kind = 3 ∨ (nd M i).kind = 4 ∨ (nd M i).kind = 5 → (0 ≤ (nd M i).l ∧ (nd M i).l < 1024) ∧ (0 ≤ (nd M i).r ∧ (nd M i).r < 1024) := fun k => ⟨in1024 hw.len (hw.left hi k), in1024 hw.len (hw.right hi k)⟩
        rcases hc with rfl | ⟨rfl, k⟩ | ⟨rfl, k⟩ | ⟨hr, k⟩ | ⟨rfl, k⟩ | ⟨rfl, k⟩ | ⟨rfl, k⟩ | ⟨k, hc⟩
        · simp -implicitDefEqProofs [rule_premises.f, node_some, bits_Drop.f, chk, hb] at h2; exact absurd h2.2.2.symm he'
        · obtain ⟨hx, hy⟩ := k345 (.inr (.inr k))
          simp -implicitDefEqProofs [rule_premises.f, node_some, bits_Drop.f, chk, hb, withP1 hb hx, rule_to.f] at h2; exact absurd h2.2.2.symm he'
        · simp -implicitDefEqProofs [rule_premises.f, node_some, bits_Drop.f, chk, hb, rule_to.f] at h2; exact absurd h2.2.2.symm he'
        · rcases hr with rfl | rfl
          · simp -implicitDefEqProofs [rule_premises.f, node_some, bits_Drop.f, chk, hb, rule_to.f] at h2; exact absurd h2.2.2.symm he'
          · simp -implicitDefEqProofs [rule_premises.f, node_some, bits_Drop.f, chk, hb, rule_to.f] at h2; exact absurd h2.2.2.symm he'
        · simp -implicitDefEqProofs [rule_premises.f, node_some, bits_Drop.f, chk, hb] at h2; exact absurd h2.2.2.symm he'
        · obtain ⟨hx, hy⟩ := k345 (.inl k)
          simp -implicitDefEqProofs [rule_premises.f, node_some, bits_Drop.f, chk, hb, withP2m (okB_del i) hx hy] at h2; exact absurd h2.2.2.symm he'
        · obtain ⟨hx, hy⟩ := k345 (.inr (.inl k))
          simp -implicitDefEqProofs [rule_premises.f, node_some, bits_Drop.f, chk, hb, withP1m (okB_del i) hx, withP1m (okB_del i) hy] at h2; exact absurd h2.2.2.symm he'
        · obtain ⟨hx, hy⟩ := k345 (.inr (.inr k))
          rcases hc with ⟨rfl, c⟩ | ⟨rfl, c⟩ | ⟨rfl, c⟩ | ⟨rfl, c⟩ | ⟨rfl, c⟩
          · simp -implicitDefEqProofs [rule_premises.f, node_some, bits_Drop.f, chk, hb, withP1m (okB_del i) hy] at h2; exact absurd h2.2.2.symm he'
          · simp -implicitDefEqProofs [rule_premises.f, node_some, bits_Drop.f, chk, hb] at h2; exact absurd h2.2.2.symm he'
          · have q1 := put_props (n := impN (nd M (nd M i).l).r (nd M i).r) hw.len hw.nodup
            generalize hA : putS M (impN (nd M (nd M i).l).r (nd M i).r) = A1 at q1
            have q2 := put_props (n := impN (nd M (nd M i).l).l A1.2.1) q1.2.2.2.2.1 q1.2.2.2.1
            generalize hB : putS A1.1 (impN (nd M (nd M i).l).l A1.2.1) = A2 at q2
            by_cases e1 : A1.2.2 = 0
            · by_cases e2 : A2.2.2 = 0
              · simp -implicitDefEqProofs [rule_premises.f, node_some, bits_Drop.f, chk, hb, rule_pair.f, rule_imps__rule_pair_1__rule_premises_1.f, rule_pair_1.f, rule_premises_1.f, impP, at_, inb, hA, hB, e1, e2, withP1m (okB_del i) (q2.2.1 e2)] at h2; exact absurd h2.2.2.symm he'
              · simp -implicitDefEqProofs [rule_premises.f, node_some, bits_Drop.f, chk, hb, rule_pair.f, rule_imps__rule_pair_1__rule_premises_1.f, rule_pair_1.f, rule_premises_1.f, impP, at_, inb, hA, hB, e1, e2] at h2
                have := q2.1 e2
                exact ⟨A2.1, h2.1.symm, by rw [this]; exact q1.2.2.1, q2.2.2.2.1, by rw [this]; exact q1.2.2.2.2.2⟩
            · simp -implicitDefEqProofs [rule_premises.f, node_some, bits_Drop.f, chk, hb, rule_pair.f, rule_imps__rule_pair_1__rule_premises_1.f, rule_pair_1.f, rule_premises_1.f, impP, at_, inb, hA, e1] at h2
              exact ⟨A1.1, h2.1.symm, q1.2.2.1, q1.2.2.2.1, q1.2.2.2.2.2⟩
          · have q1 := put_props (n := impN (nd M (nd M i).l).l (nd M i).r) hw.len hw.nodup
            generalize hA : putS M (impN (nd M (nd M i).l).l (nd M i).r) = A1 at q1
            have q2 := put_props (n := impN (nd M (nd M i).l).r (nd M i).r) q1.2.2.2.2.1 q1.2.2.2.1
            generalize hB : putS A1.1 (impN (nd M (nd M i).l).r (nd M i).r) = A2 at q2
            by_cases e1 : A1.2.2 = 0
            · by_cases e2 : A2.2.2 = 0
              · simp -implicitDefEqProofs [rule_premises.f, node_some, bits_Drop.f, chk, hb, rule_pair.f, rule_imps__rule_pair_1__rule_pair_1.f, rule_pair_1.f, rule_premises_1.f, impP, at_, inb, hA, hB, e1, e2, withP2m (okB_del i) (q1.2.1 e1) (q2.2.1 e2)] at h2; exact absurd h2.2.2.symm he'
              · simp -implicitDefEqProofs [rule_premises.f, node_some, bits_Drop.f, chk, hb, rule_pair.f, rule_imps__rule_pair_1__rule_pair_1.f, rule_pair_1.f, rule_premises_1.f, impP, at_, inb, hA, hB, e1, e2] at h2
                have := q2.1 e2
                exact ⟨A2.1, h2.1.symm, by rw [this]; exact q1.2.2.1, q2.2.2.2.1, by rw [this]; exact q1.2.2.2.2.2⟩
            · simp -implicitDefEqProofs [rule_premises.f, node_some, bits_Drop.f, chk, hb, rule_pair.f, rule_imps__rule_pair_1__rule_pair_1.f, rule_pair_1.f, rule_premises_1.f, impP, at_, inb, hA, e1] at h2
              exact ⟨A1.1, h2.1.symm, q1.2.2.1, q1.2.2.2.1, q1.2.2.2.2.2⟩
          · have q1 := put_props (n := impN (nd M (nd M i).l).r (nd M i).r) hw.len hw.nodup
            generalize hA : putS M (impN (nd M (nd M i).l).r (nd M i).r) = A1 at q1
            by_cases e1 : A1.2.2 = 0
            · simp -implicitDefEqProofs [rule_premises.f, node_some, bits_Drop.f, chk, hb, rule_pair.f, rule_imps__rule_pair_1.f, rule_pair_1.f, impP, hA, e1, withP1m (okB_del i) (q1.2.1 e1), withP1m (okB_del i) hy, rule_to.f] at h2; exact absurd h2.2.2.symm he'
            · simp -implicitDefEqProofs [rule_premises.f, node_some, bits_Drop.f, chk, hb, rule_pair.f, rule_imps__rule_pair_1.f, rule_pair_1.f, impP, hA, e1] at h2
              exact ⟨A1.1, h2.1.symm, q1.2.2.1, q1.2.2.2.1, q1.2.2.2.2.2⟩
      obtain ⟨N', rfl, h5, h6, h7⟩ := key
      rw [hn, cutP h5 h6 h7] at h3
      simp only [Option.some.injEq, Prod.mk.injEq] at h3
      have := h4.1
      rw [← h3.1] at this
      exact (Option.some.inj this).symm
end Go.Proofs.YtjjkhjieegmphaaDoor
end
section
namespace Go.Proofs.YtjjkhjieegmphaaDoor
open Gw
theorem Mid.next {B : Int} {x y z : PFinder} {M M' N : List Nd} {s : Sq} (h : Mid B x y M M' s) (hs : lookV M s = true) (e : TExt M' N) (wN : Wf N) (ht : z.t = some N) (h1 : z.steps = y.steps) (h2 : z.at_ = y.at_) (h3 : z.left = y.left) (h4 : z.visits = y.visits) : Mid B x z M N s where
  si := h.si.next e wN ht h1 h2 (by rw [h3, h4]; exact ⟨h.si.bud.1, h.si.bud.2.1, Int.le_refl _⟩)
  ext := h.ext.trans e
  new := by
    obtain ⟨K, hK, hb⟩ := h.new
    refine ⟨K, by rw [h1, hK], fun p hp => (hb p hp).ext h.si.wf e ((h.si.seq p (by rw [hK]; exact List.mem_append_right _ hp)).2) (h.ext.look hs)⟩
  left := by rw [h3]; exact h.left
  cnt := by rw [h4, h1]; exact h.cnt
def Kids (y : PFinder) (b : Bool) (l : List Int) : Prop := ∀ j ∈ l, ∃ (n : Nat) (q : PStep), j = n ∧ y.steps[n]? = some q ∧ q.proved = b
theorem Kids.nil {y : PFinder} {b : Bool} : Kids y b [] := fun _ h => by cases h
theorem Kids.ext {y z : PFinder} {b : Bool} {l : List Int} (h : Kids y b l) {K : List PStep} (hK : z.steps = y.steps ++ K) : Kids z b l := fun j hj => by
  obtain ⟨n, q, h1, h2, h3⟩ := h j hj
  exact ⟨n, q, h1, by rw [hK, List.getElem?_append_left (List.getElem?_eq_some_iff.1 h2).1]; exact h2, h3⟩
theorem Kids.push {y : PFinder} {b : Bool} {l : List Int} (h : Kids y b l) {n : Nat} {q : PStep} (h1 : y.steps[n]? = some q) (h2 : q.proved = b) : Kids y b (l ++ [(n : Int)]) := fun j hj => by
  rcases List.mem_append.1 hj with hj | hj
  · exact h j hj
  · exact ⟨n, q, List.mem_singleton.1 hj, h1, h2⟩
theorem Kids.one {y : PFinder} {b : Bool} {n : Nat} {q : PStep} (h1 : y.steps[n]? = some q) (h2 : q.proved = b) : Kids y b [(n : Int)] := Kids.push (l := []) Kids.nil h1 h2
theorem chk_len {l : List Int} {n : Int} (h : l.length ≤ 4096) : decide ((l.length + ([n]).length) * 8 ≤ 140737488355328) = true := decide_eq_true (by rw [List.length_singleton]; omega)
theorem out_err {B : Int} {x : PFinder} {M M' : List Nd} {s : Sq} {y : PFinder} {v e : Int} (h : Er M' y) (k : TExt M M') (he : e ≠ 0) : Out B x M s (y, v, e) := ⟨fun q => absurd q he, fun _ => h.mono k⟩
theorem decide_step {B : Int} {n : Nat} {rec : PFinder → Sq → Option (PFinder × Int × Int)} (hrec : RecOk B n rec) {x : PFinder} {M N : List Nd} {s : Sq} {r m : Int} {L : List Sq} (hx : SI B x M) (hs : Gw.look s x.at_ = none) (hb : s.left.okB = true) (hl : lookV M s = true) (hm : inb m M.length = true) (hP : PremR M s m r N L) (hr : r ≠ 11 ∧ r ≠ 12 ∧ r ≠ 13)
    {i : Nat} {kids : List Int} {y : PFinder} {M' : List Nd} (hiL : i < L.length) (hm' : Mid B x y M M' s) (hNM : TExt N M') (hleft : y.left.toNat < n) (hkl : kids.length ≤ 4096) (hk : Kids y true kids) :
      ∃ q, search_finder_decide.b0 rec (some N, L, 0) s (r, m, 0) i ⟨s, true, r, m, kids⟩ y = some q ∧
        ((∃ q', q = .ret q' ∧ Out B x M s q') ∨ ∃ a z M2, q = .go (⟨s, true, r, m, kids ++ [a]⟩, z) ∧ Mid B x z M M2 s ∧ TExt M' M2 ∧ z.left.toNat < n ∧ Kids z true (kids ++ [a]) ∧ Valid M2 L[i]) := by
  obtain ⟨wN, lN, qN, pN⟩ := prem_wf hx.wf hb hl hm hP
  have eN : TExt M N := ⟨lN, qN⟩
  have hlN := eN.look hl
  have hLi : L[i]? = some L[i] := List.getElem?_eq_getElem hiL
  have hat : at_ Sq.z L (i : Int) = L[i] := by simp [at_, List.getD_eq_getElem?_getD, hiL]
  obtain ⟨bp, lp⟩ := pN L[i] (List.getElem_mem hiL)
  have lp' := hNM.look lp
  have hbel : Below M' L[i] s := (prem_below hx.wf hb hl hm hP L[i] (List.getElem_mem hiL)).ext wN hNM lp hlN
  obtain ⟨⟨z, v, e⟩, h1, h2, h3⟩ := hrec y M' L[i] hm'.si bp lp' hleft
  unfold search_finder_decide.b0
  simp only [hat, h1, Option.bind_some]
  by_cases he : e = 0
  · subst he
    obtain ⟨M2, hps⟩ := h2 rfl
    simp only [ne_eq, not_true_eq_false, decide_false, Bool.false_eq_true, if_false]
    obtain ⟨a, p, hva, hap, hpp⟩ := hps.at_
    simp only at hva hap
    subst hva
    obtain ⟨a1, a2⟩ := at_of hap
    simp only [a1, a2, chk, if_true]
    have hmid := mid_step hm' hl lp' hbel hps
    have hNM2 := hNM.trans hps.ext
    obtain ⟨K, hK, _⟩ := hps.new
    have hsem := hps.si.sem p (List.mem_of_getElem? hap)
    rw [hpp] at hsem
    have hzl : z.left.toNat < n := by have := hps.left; simp only at this; omega
    cases hpv : p.proved with
    | false =>
      have hR : Refd M2 s := (hNM2.refd wN hlN).2 (prem_refd hx.wf hb hl hm hP (List.getElem_mem hiL) ⟨hr.1, hr.2.1⟩ (fun q => absurd q hr.2.2) ((hNM2.refd wN lp).1 (hsem.2 hpv)))
      obtain ⟨q, q1, q2, q3⟩ := end_some (p := ⟨s, false, r, m, [(a : Int)]⟩) hx hs hmid hb hl rfl ⟨fun q => (by cases q), fun _ => hR⟩ (Kids.one hap hpv) (by simp)
      simp only [Bool.not_false, if_true, q1, Option.bind_some]
      exact ⟨_, rfl, .inl ⟨_, rfl, fun _ => ⟨M2, q3⟩, fun h => absurd q2 h⟩⟩
    | true =>
      simp only [Bool.not_true, Bool.false_eq_true, if_false, chk_len (n := (a : Int)) hkl, if_true]
      exact ⟨_, rfl, .inr ⟨_, z, M2, rfl, hmid, hps.ext, hzl, (hk.ext hK).push hap hpv, hsem.1 hpv⟩⟩
  · simp only [ne_eq, he, not_false_eq_true, decide_true, if_true]
    exact ⟨_, rfl, .inl ⟨_, rfl, out_err (h3 he) hm'.ext he⟩⟩
theorem decide_loop {B : Int} {n : Nat} {rec : PFinder → Sq → Option (PFinder × Int × Int)} (hrec : RecOk B n rec) {x : PFinder} {M N : List Nd} {s : Sq} {r m : Int} {L : List Sq} (hx : SI B x M) (hs : Gw.look s x.at_ = none) (hb : s.left.okB = true) (hl : lookV M s = true) (hm : inb m M.length = true) (hP : PremR M s m r N L) (hr : r ≠ 11 ∧ r ≠ 12 ∧ r ≠ 13) :
    ∀ (c i : Nat) (kids : List Int) (y : PFinder) (M' : List Nd), i + c = L.length → Mid B x y M M' s → TExt N M' → y.left.toNat < n → kids.length = i → Kids y true kids → (∀ (j : Nat) (p : Sq), j < i → L[j]? = some p → Valid M' p) →
      ∃ o, forN (fun i (st : PStep × PFinder) => search_finder_decide.b0 rec (some N, L, 0) s (r, m, 0) i st.1 st.2) c i (⟨s, true, r, m, kids⟩, y) = some o ∧
        ((∃ kids' y' M2, o = .inl (⟨s, true, r, m, kids'⟩, y') ∧ Mid B x y' M M2 s ∧ TExt N M2 ∧ Kids y' true kids' ∧ kids'.length ≤ 4096 ∧ ∀ p ∈ L, Valid M2 p) ∨ ∃ q, o = .inr q ∧ Out B x M s q) := by
  obtain ⟨wN, lN, qN, pN⟩ := prem_wf hx.wf hb hl hm hP
  intro c
  induction c with
  | zero =>
    intro i kids y M' hi hm' hNM hleft hkl hk hv
    refine ⟨_, rfl, .inl ⟨kids, y, M', rfl, hm', hNM, hk, by have := prem_len hP; omega, fun p hp => ?_⟩⟩
    obtain ⟨j, hj, e⟩ := List.getElem_of_mem hp
    exact hv j p (by omega) (by rw [List.getElem?_eq_getElem hj, e])
  | succ c ih =>
    intro i kids y M' hi hm' hNM hleft hkl hk hv
    have hLl := prem_len hP
    obtain ⟨q, h1, h2⟩ := decide_step hrec hx hs hb hl hm hP hr (i := i) (by omega) hm' hNM hleft (by omega) hk
    rw [forN]
    simp only [h1, Option.bind_some]
    rcases h2 with ⟨q', rfl, ho⟩ | ⟨a, z, M2, rfl, hmid, he, hzl, hk', hva⟩
    · exact ⟨_, rfl, .inr ⟨_, rfl, ho⟩⟩
    · obtain ⟨o, o1, o2⟩ := ih (i + 1) (kids ++ [a]) z M2 (by omega) hmid (hNM.trans he) hzl (by simp [hkl]) hk' (fun j p hj hp => by
        by_cases e : j = i
        · subst e
          rw [List.getElem?_eq_getElem (by omega)] at hp
          rw [← Option.some.inj hp]; exact hva
        · exact (he.valid hm'.si.wf (hNM.look (pN p (List.mem_of_getElem? hp)).2)).2 (hv j p (by omega) hp))
      exact ⟨o, by simpa using o1, o2⟩
def optsV (M : List Nd) (s : Sq) : List (Int × Int) := (if (nd M s.goal).kind = 4 then [(11, s.goal), (12, s.goal)] else []) ++ ((List.range M.length).filter fun (j : Nat) => s.left.has j && decide (onV M s.left j = 13)).map fun (j : Nat) => ((13 : Int), (j : Int))
theorem choices_opts {M : List Nd} {s : Sq} (h : (applyV M s).1 = 14) : choicesV M s = ((optsV M s).map (·.1), (optsV M s).map (·.2)) := by
  unfold choicesV optsV
  rw [if_pos h]
  by_cases k : (nd M s.goal).kind = 4 <;> simp [k, Function.comp_def]
theorem on13 {M : List Nd} {b : Bits} {i : Int} (h : onV M b i = 13) : (nd M i).kind = 5 ∧ (nd M (nd M i).l).kind = 5 := by
  rcases on_cases h (by decide) with q | q | q | ⟨q, q2⟩
  · omega
  · omega
  · omega
  · exact ⟨q, by omega⟩
theorem on13' {M : List Nd} {b : Bits} {i : Int} (k : (nd M i).kind = 5) (c : (nd M (nd M i).l).kind = 5) : onV M b i = 13 := by
  unfold onV
  simp [k, c]
theorem opts_facts {M : List Nd} {s : Sq} {o : Int × Int} (h : o ∈ optsV M s) : (o.1 = 11 ∧ (nd M s.goal).kind = 4) ∨ (o.1 = 12 ∧ (nd M s.goal).kind = 4) ∨ (o.1 = 13 ∧ s.left.has o.2 = true ∧ (nd M o.2).kind = 5 ∧ (nd M (nd M o.2).l).kind = 5) := by
  unfold optsV at h
  rcases List.mem_append.1 h with h | h
  · by_cases k : (nd M s.goal).kind = 4
    · simp only [k, if_true, List.mem_cons, List.not_mem_nil, or_false] at h
      rcases h with rfl | rfl
      · exact .inl ⟨rfl, k⟩
      · exact .inr (.inl ⟨rfl, k⟩)
    · simp [k] at h
  · obtain ⟨j, hj, rfl⟩ := List.mem_map.1 h
    have := (List.mem_filter.1 hj).2
    simp only [Bool.and_eq_true, decide_eq_true_eq] at this
    exact .inr (.inr ⟨rfl, this.1, on13 this.2⟩)
theorem opts_or {M : List Nd} {s : Sq} (k : (nd M s.goal).kind = 4) : (11, s.goal) ∈ optsV M s ∧ (12, s.goal) ∈ optsV M s := by
  unfold optsV
  rw [if_pos k]
  exact ⟨by simp, by simp⟩
theorem opts_imp {M : List Nd} {s : Sq} {j : Int} (hj : inb j M.length = true) (hh : s.left.has j = true) (k : (nd M j).kind = 5) (c : (nd M (nd M j).l).kind = 5) : (13, j) ∈ optsV M s := by
  unfold optsV
  have h := inb_ex hj
  have hjn : ((j.toNat : Nat) : Int) = j := by omega
  refine List.mem_append_right _ (List.mem_map.2 ⟨j.toNat, List.mem_filter.2 ⟨List.mem_range.2 (by omega), ?_⟩, by rw [hjn]⟩)
  rw [hjn, hh, on13' k c]; simp
def DoneC (M M' : List Nd) (s : Sq) (o : Int × Int) : Prop :=
  (o.1 = 11 → Refd M' ⟨s.left, (nd M s.goal).l⟩) ∧ (o.1 = 12 → Refd M' ⟨s.left, (nd M s.goal).r⟩) ∧
    (o.1 = 13 → ∃ d : Int, inb d M'.length = true ∧ fm M' d = .imp (fm M' (nd M (nd M o.2).l).r) (fm M' (nd M o.2).r) ∧ Refd M' ⟨(s.left.del o.2).add d, (nd M o.2).l⟩)
theorem DoneC.ext {M M' N : List Nd} {s : Sq} {o : Int × Int} (h : DoneC M M' s o) (hw : Wf M) (hl : lookV M s = true) (hM : TExt M M') (wM' : Wf M') (e : TExt M' N) (ho : o ∈ optsV M s) : DoneC M N s o := by
  obtain ⟨k1, k2⟩ := lookV_iff.1 hl
  have lf := fun j hj => inb_mono (k1 j hj) hM.len
  refine ⟨fun q => ?_, fun q => ?_, fun q => ?_⟩
  · have k : (nd M s.goal).kind = 4 := by rcases opts_facts ho with h | h | h <;> omega
    exact (e.refd (s := ⟨s.left, (nd M s.goal).l⟩) wM' (lookV_iff.2 ⟨lf, inb_mono (hw.left k2 (.inr (.inl k))) hM.len⟩)).2 (h.1 q)
  · have k : (nd M s.goal).kind = 4 := by rcases opts_facts ho with h | h | h <;> omega
    exact (e.refd (s := ⟨s.left, (nd M s.goal).r⟩) wM' (lookV_iff.2 ⟨lf, inb_mono (hw.right k2 (.inr (.inl k))) hM.len⟩)).2 (h.2.1 q)
  · obtain ⟨hh, k, c⟩ : s.left.has o.2 = true ∧ (nd M o.2).kind = 5 ∧ (nd M (nd M o.2).l).kind = 5 := by
      rcases opts_facts ho with h | h | h
      · omega
      · omega
      · exact h.2
    obtain ⟨d, hd, fd, hr⟩ := h.2.2 q
    have hi := k1 o.2 hh
    have hli := hw.left hi (.inr (.inr k))
    refine ⟨d, inb_mono hd e.len, ?_, (e.refd (s := ⟨(s.left.del o.2).add d, (nd M o.2).l⟩) wM' (lookV_iff.2 ⟨(all_add (in1024 wM'.len hd)).2 ⟨hd, fun j hj => lf j (del_has' hj).1⟩, inb_mono hli hM.len⟩)).2 hr⟩
    rw [e.fm wM' hd, e.fm wM' (inb_mono (hw.right hli (.inr (.inr c))) hM.len), e.fm wM' (inb_mono (hw.right hi (.inr (.inr k))) hM.len)]
    exact fd
theorem stuck_done {M M' : List Nd} {s : Sq} (hw : Wf M) (hb : s.left.okB = true) (hl : lookV M s = true) (h14 : (applyV M s).1 = 14) (e : TExt M M') (wM' : Wf M') (hd : ∀ o ∈ optsV M s, DoneC M M' s o) : Refd M' s := by
  obtain ⟨k1, k2⟩ := lookV_iff.1 hl
  have no : ∀ (c : Int → Bool), firstV M s c = none → ∀ j : Int, s.left.has j = true → c (onV M s.left j) = false := fun c hc j hj => by
    have hi := inb_ex (k1 j hj)
    have hjn : ((j.toNat : Nat) : Int) = j := by omega
    unfold firstV at hc
    have := List.find?_eq_none.1 hc j.toNat (List.mem_range.2 (by omega))
    rw [hjn, hj] at this
    simpa using this
  have hA : firstV M s (fun r => decide (r = 1)) = none ∧ s.left.has s.goal = false ∧ firstV M s (fun r => decide (3 ≤ r) && decide (r ≤ 7)) = none ∧ (nd M s.goal).kind ≠ 5 ∧ (nd M s.goal).kind ≠ 3 ∧ firstV M s (fun r => decide (r = 10)) = none := by
    unfold applyV at h14
    cases h1 : firstV M s (fun r => decide (r = 1)) with
    | some j => simp [h1] at h14
    | none =>
      simp only [h1] at h14
      cases h2 : s.left.has s.goal with
      | true => simp [h2] at h14
      | false =>
        simp only [h2, Bool.false_eq_true, if_false] at h14
        cases h3 : firstV M s (fun r => decide (3 ≤ r) && decide (r ≤ 7)) with
        | some j =>
          have := (firstV_some h3).2.2
          simp only [h3, Bool.and_eq_true, decide_eq_true_eq] at h14 this
          omega
        | none =>
          simp only [h3] at h14
          by_cases k5 : (nd M s.goal).kind = 5
          · simp [k5] at h14
          by_cases k3 : (nd M s.goal).kind = 3
          · simp [k3] at h14
          simp only [k5, k3, if_false] at h14
          cases h4 : firstV M s (fun r => decide (r = 10)) with
          | some j => simp [h4] at h14
          | none => exact ⟨rfl, rfl, rfl, k5, k3, rfl⟩
  obtain ⟨a1, a2, a3, a4, a5, a6⟩ := hA
  have hndl : ∀ j : Int, inb j M.length = true → nd M' j = nd M j := e.eq
  refine stuck_refd wM' (e.look hl) (fun j hj => ?_) ?_ (fun k4 => ?_) (fun j hj k5 c5 => ?_)
  · have hi := k1 j hj
    have o1 := no _ a1 j hj
    have o3 := no _ a3 j hj
    have o10 := no _ a6 j hj
    simp only [decide_eq_false_iff_not, Bool.and_eq_false_iff] at o1 o3 o10
    rw [hndl j hi]
    rcases hw.kind j hi with k | k | k | k | k
    · exact .inl k
    · have : onV M s.left j = 1 := by simp [onV, k]
      exact absurd this o1
    · have : onV M s.left j = 3 := by simp [onV, k]
      omega
    · have : onV M s.left j = 10 := by simp [onV, k]
      exact absurd this o10
    · have hli := hw.left hi (.inr (.inr k))
      rw [hndl _ hli]
      rcases hw.kind _ hli with c | c | c | c | c
      · cases hh : s.left.has (nd M j).l with
        | false => exact .inr (.inl ⟨k, c, rfl⟩)
        | true =>
          have : onV M s.left j = 4 := by simp [onV, k, c, hh]
          omega
      · have : onV M s.left j = 5 := by simp [onV, k, c]
        omega
      · have : onV M s.left j = 6 := by simp [onV, k, c]
        omega
      · have : onV M s.left j = 7 := by simp [onV, k, c]
        omega
      · exact .inr (.inr ⟨k, c⟩)
  · rw [hndl _ k2]
    rcases hw.kind _ k2 with k | k | k | k | k
    · exact .inl ⟨k, a2⟩
    · exact .inr (.inl k)
    · exact absurd k a5
    · exact .inr (.inr k)
    · exact absurd k a4
  · rw [hndl _ k2] at k4 ⊢
    obtain ⟨p1, p2⟩ := opts_or k4
    exact ⟨(hd _ p1).1 rfl, (hd _ p2).2.1 rfl⟩
  · have hi := k1 j hj
    rw [hndl j hi] at k5 c5 ⊢
    have hli := hw.left hi (.inr (.inr k5))
    rw [hndl _ hli] at c5 ⊢
    obtain ⟨d, d1, d2, d3⟩ := (hd _ (opts_imp hi hj k5 c5)).2.2 rfl
    exact ⟨d, in1024 wM'.len d1, d2, d3⟩
end Go.Proofs.YtjjkhjieegmphaaDoor
end
section
namespace Go.Proofs.YtjjkhjieegmphaaDoor
open Gw
theorem choose_inner {B : Int} {n : Nat} {rec : PFinder → Sq → Option (PFinder × Int × Int)} (hrec : RecOk B n rec) {x : PFinder} {M M1 N : List Nd} {s : Sq} {rl mn : Int} {L : List Sq} (hx : SI B x M) (hs : Gw.look s x.at_ = none) (hb : s.left.okB = true) (hl : lookV M s = true) (wM1 : Wf M1) (eM : TExt M M1) (hm : inb mn M1.length = true) (hP : PremR M1 s mn rl N L)
    {i : Nat} {kids : List Int} {y : PFinder} {st : PStep} {M' : List Nd} (hiL : i < L.length) (hm' : Mid B x y M M' s) (hNM : TExt N M') (hleft : y.left.toNat < n) (hkl : kids.length ≤ 4096) (hsk : st.kids.length ≤ 4096) (hk : Kids y true kids) (hsec : i ≠ 0 → rl = 13 ∧ L[1]? = some L[i]) :
      ∃ q, search_finder_choose.b1 rec (some N, L, 0) i ⟨s, true, rl, mn, kids⟩ y st = some q ∧
        ((∃ q', q = .ret (.ret q') ∧ Out B x M s q') ∨ (∃ a z M2, q = .go (⟨s, true, rl, mn, kids ++ [a]⟩, z, st) ∧ Mid B x z M M2 s ∧ TExt M' M2 ∧ z.left.toNat < n ∧ (∃ K, z.steps = y.steps ++ K) ∧ Kids z true (kids ++ [a]) ∧ Valid M2 L[i])
          ∨ (∃ a z M2, i = 0 ∧ q = .brk (⟨s, false, rl, mn, kids ++ [a]⟩, z, ⟨st.seq, st.proved, st.rule, st.main, st.kids ++ [a]⟩) ∧ Mid B x z M M2 s ∧ TExt M' M2 ∧ z.left.toNat < n ∧ (∃ K, z.steps = y.steps ++ K) ∧ (∃ m p, a = ((m : Nat) : Int) ∧ z.steps[m]? = some p ∧ p.proved = false) ∧ Refd M2 L[i])) := by
  have hl1 := eM.look hl
  obtain ⟨wN, lN, qN, pN⟩ := prem_wf wM1 hb hl1 hm hP
  have eN : TExt M1 N := ⟨lN, qN⟩
  have hlN := eN.look hl1
  have hLi : L[i]? = some L[i] := List.getElem?_eq_getElem hiL
  have hat : at_ Sq.z L (i : Int) = L[i] := by simp [at_, List.getD_eq_getElem?_getD, hiL]
  obtain ⟨bp, lp⟩ := pN L[i] (List.getElem_mem hiL)
  have lp' := hNM.look lp
  have hbel : Below M' L[i] s := (prem_below wM1 hb hl1 hm hP L[i] (List.getElem_mem hiL)).ext wN hNM lp hlN
  obtain ⟨⟨z, v, e⟩, h1, h2, h3⟩ := hrec y M' L[i] hm'.si bp lp' hleft
  unfold search_finder_choose.b1
  simp only [hat, h1, Option.bind_some]
  by_cases he : e = 0
  · subst he
    obtain ⟨M2, hps⟩ := h2 rfl
    simp only [ne_eq, not_true_eq_false, decide_false, Bool.false_eq_true, if_false]
    obtain ⟨a, p, hva, hap, hpp⟩ := hps.at_
    simp only at hva hap
    subst hva
    obtain ⟨a1, a2⟩ := at_of hap
    simp only [a1, a2, chk, chk_len (n := (a : Int)) hkl, if_true]
    have hmid := mid_step hm' hl lp' hbel hps
    have hNM2 := hNM.trans hps.ext
    obtain ⟨K, hK, _⟩ := hps.new
    have hsem := hps.si.sem p (List.mem_of_getElem? hap)
    rw [hpp] at hsem
    have hzl : z.left.toNat < n := by have := hps.left; simp only at this; omega
    cases hpv : p.proved with
    | true =>
      simp only [if_true]
      exact ⟨_, rfl, .inr (.inl ⟨_, z, M2, rfl, hmid, hps.ext, hzl, ⟨K, hK⟩, (hk.ext hK).push hap hpv, hsem.1 hpv⟩)⟩
    | false =>
      simp only [Bool.false_eq_true, if_false]
      by_cases h0 : i = 0
      · subst h0
        have e0 : decide (((0 : Nat) : Int) = 0) = true := rfl
        simp only [e0, if_true, chk_len (n := (a : Int)) hsk]
        exact ⟨_, rfl, .inr (.inr ⟨_, z, M2, trivial, rfl, hmid, hps.ext, hzl, ⟨K, hK⟩, ⟨a, p, rfl, hap, hpv⟩, hsem.2 hpv⟩)⟩
      · have e0 : decide ((i : Int) = 0) = false := decide_eq_false (by omega)
        obtain ⟨r13, hL1⟩ := hsec h0
        have hR : Refd M2 s := (hNM2.refd wN hlN).2 (prem_refd wM1 hb hl1 hm hP (List.getElem_mem hiL) (by omega) (fun _ => hL1) ((hNM2.refd wN lp).1 (hsem.2 hpv)))
        obtain ⟨q, q1, q2, q3⟩ := end_some (p := ⟨s, false, rl, mn, [(a : Int)]⟩) hx hs hmid hb hl rfl ⟨fun q => (by cases q), fun _ => hR⟩ (Kids.one hap hpv) (by simp)
        simp only [e0, Bool.false_eq_true, if_false, q1, Option.bind_some]
        exact ⟨_, rfl, .inl ⟨_, rfl, fun _ => ⟨M2, q3⟩, fun h => absurd q2 h⟩⟩
  · simp only [ne_eq, he, not_false_eq_true, decide_true, if_true]
    exact ⟨_, rfl, .inl ⟨_, rfl, out_err (h3 he) hm'.ext he⟩⟩
theorem choose_prems {B : Int} {n : Nat} {rec : PFinder → Sq → Option (PFinder × Int × Int)} (hrec : RecOk B n rec) {x : PFinder} {M M1 N : List Nd} {s : Sq} {rl mn : Int} {L : List Sq} (hx : SI B x M) (hs : Gw.look s x.at_ = none) (hb : s.left.okB = true) (hl : lookV M s = true) (wM1 : Wf M1) (eM : TExt M M1) (hm : inb mn M1.length = true) (hP : PremR M1 s mn rl N L)
    {y : PFinder} {st : PStep} (hm' : Mid B x y M N s) (hleft : y.left.toNat < n) (hsk : st.kids.length ≤ 4096) (h2 : L.length = 1 ∨ (L.length = 2 ∧ rl = 13)) :
      ∃ o, forN (fun i (q : PStep × PFinder × PStep) => search_finder_choose.b1 rec (some N, L, 0) i q.1 q.2.1 q.2.2) L.length 0 (⟨s, true, rl, mn, []⟩, y, st) = some o ∧
        ((∃ q', o = .inr (.ret q') ∧ Out B x M s q') ∨ (∃ kids z M2, o = .inl (⟨s, true, rl, mn, kids⟩, z, st) ∧ Mid B x z M M2 s ∧ TExt N M2 ∧ z.left.toNat < n ∧ Kids z true kids ∧ kids.length ≤ 4096 ∧ ∀ p ∈ L, Valid M2 p)
          ∨ (∃ kids a z M2, o = .inl (⟨s, false, rl, mn, kids⟩, z, ⟨st.seq, st.proved, st.rule, st.main, st.kids ++ [a]⟩) ∧ Mid B x z M M2 s ∧ TExt N M2 ∧ z.left.toNat < n ∧ (∃ K, z.steps = y.steps ++ K) ∧ (∃ m p, a = ((m : Nat) : Int) ∧ z.steps[m]? = some p ∧ p.proved = false) ∧ ∃ p, L[0]? = some p ∧ Refd M2 p)) := by
  obtain ⟨wN, lN, qN, pN⟩ := prem_wf wM1 hb (eM.look hl) hm hP
  rcases h2 with h1 | ⟨h1, r13⟩
  · obtain ⟨p, rfl⟩ := List.length_eq_one_iff.1 h1
    obtain ⟨q, q1, q2⟩ := choose_inner hrec hx hs hb hl wM1 eM hm hP (i := 0) (st := st) (by simp) hm' (TExt.refl N) hleft (by simp) hsk Kids.nil (fun h => absurd rfl h)
    have q1' : search_finder_choose.b1 rec (some N, [p], 0) 0 ⟨s, true, rl, mn, []⟩ y st = some q := q1
    rw [List.length_singleton, forN]
    simp only [q1', Option.bind_some]
    rcases q2 with ⟨q', rfl, ho⟩ | ⟨a, z, M2, rfl, hmid, he, hzl, hK, hk', hva⟩ | ⟨a, z, M2, _, rfl, hmid, he, hzl, hK, hk', hva⟩
    · exact ⟨_, rfl, .inl ⟨_, rfl, ho⟩⟩
    · refine ⟨_, rfl, .inr (.inl ⟨_, z, M2, rfl, hmid, he, hzl, hk', by simp, fun q hq => ?_⟩)⟩
      rw [List.mem_singleton.1 hq]; exact hva
    · exact ⟨_, rfl, .inr (.inr ⟨_, a, z, M2, rfl, hmid, he, hzl, hK, hk', p, rfl, hva⟩)⟩
  · obtain ⟨p, p2, rfl⟩ : ∃ p p2, L = [p, p2] := by
      match L, h1 with
      | [p, p2], _ => exact ⟨p, p2, rfl⟩
    obtain ⟨q, q1, q2⟩ := choose_inner hrec hx hs hb hl wM1 eM hm hP (i := 0) (st := st) (by simp) hm' (TExt.refl N) hleft (by simp) hsk Kids.nil (fun h => absurd rfl h)
    have q1' : search_finder_choose.b1 rec (some N, [p, p2], 0) 0 ⟨s, true, rl, mn, []⟩ y st = some q := q1
    rw [show [p, p2].length = 2 from rfl, forN]
    simp only [q1', Option.bind_some]
    rcases q2 with ⟨q', rfl, ho⟩ | ⟨a, z, M2, rfl, hmid, he, hzl, hK, hk', hva⟩ | ⟨a, z, M2, _, rfl, hmid, he, hzl, hK, hk', hva⟩
    · exact ⟨_, rfl, .inl ⟨_, rfl, ho⟩⟩
    · obtain ⟨u, u1, u2⟩ := choose_inner hrec hx hs hb hl wM1 eM hm hP (i := 1) (st := st) (by simp) hmid he hzl (by simp) hsk hk' (fun _ => ⟨r13, rfl⟩)
      have u1' : search_finder_choose.b1 rec (some N, [p, p2], 0) (0 + 1) ⟨s, true, rl, mn, [] ++ [a]⟩ z st = some u := u1
      simp only [forN]
      rw [u1']
      simp only [Option.bind_some]
      rcases u2 with ⟨q', rfl, ho⟩ | ⟨a2, z2, M3, rfl, hmid2, he2, hzl2, hK2, hk2, hva2⟩ | ⟨_, _, _, h, _⟩
      · exact ⟨_, rfl, .inl ⟨_, rfl, ho⟩⟩
      · refine ⟨_, rfl, .inr (.inl ⟨_, z2, M3, rfl, hmid2, he.trans he2, hzl2, hk2, by simp, fun q hq => ?_⟩)⟩
        rcases List.mem_cons.1 hq with rfl | hq
        · exact (he2.valid hmid.si.wf (he.look (pN _ (List.mem_cons_self ..)).2)).2 hva
        · rw [List.mem_singleton.1 hq]; exact hva2
      · cases h
    · exact ⟨_, rfl, .inr (.inr ⟨_, a, z, M2, rfl, hmid, he, hzl, hK, hk', p, rfl, hva⟩)⟩
theorem choose_step {B : Int} {n : Nat} {rec : PFinder → Sq → Option (PFinder × Int × Int)} (hrec : RecOk B n rec) {x : PFinder} {M : List Nd} {s : Sq} (hx : SI B x M) (hs : Gw.look s x.at_ = none) (hb : s.left.okB = true) (hl : lookV M s = true)
    {i : Nat} {y : PFinder} {M' : List Nd} {ks : List Int} (hiO : i < (optsV M s).length) (hm' : Mid B x y M M' s) (hleft : y.left.toNat < n) (hkl : ks.length ≤ 4096) (hk : Kids y false ks) :
      ∃ q, search_finder_choose.b0 ((optsV M s).map (·.1), (optsV M s).map (·.2), 0) s rec i ⟨s, false, 14, 0, ks⟩ y = some q ∧
        ((∃ q', q = .ret q' ∧ Out B x M s q') ∨ ∃ a z M2, q = .go (⟨s, false, 14, 0, ks ++ [a]⟩, z) ∧ Mid B x z M M2 s ∧ TExt M' M2 ∧ z.left.toNat < n ∧ Kids z false (ks ++ [a]) ∧ DoneC M M2 s (optsV M s)[i]) := by
  generalize hO : optsV M s = O at hiO ⊢
  have hmem : O[i] ∈ optsV M s := by rw [hO]; exact List.getElem_mem hiO
  have hf := opts_facts hmem
  have a1 : at_ (0 : Int) (O.map (·.1)) (i : Int) = O[i].1 := by simp [at_, List.getD_eq_getElem?_getD, hiO]
  have a2 : at_ (0 : Int) (O.map (·.2)) (i : Int) = O[i].2 := by simp [at_, List.getD_eq_getElem?_getD, hiO]
  have hin : inb (i : Int) (O.map (·.2)).length = true := by rw [inb_nat]; simpa using hiO
  have hlM' := hm'.ext.look hl
  generalize O[i] = o at hf a1 a2 hmem ⊢
  obtain ⟨rl, mn⟩ := o
  simp only at hf a1 a2
  unfold search_finder_choose.b0
  simp only [hin, chk, if_true, a1, a2, hm'.si.t]
  obtain ⟨N, L, e, h1, h2⟩ := Premises_rel rl mn hm'.si.wf hlM' hb
  simp only [h1, Option.bind_some]
  by_cases he : e = 0
  · subst he
    obtain ⟨hfit, hP⟩ := h2 rfl
    have hm := fits_inb hfit
    obtain ⟨wN, lN, qN, pN⟩ := prem_wf hm'.si.wf hb hlM' hm hP
    have eN : TExt M' N := ⟨lN, qN⟩
    simp only [ne_eq, not_true_eq_false, decide_false, Bool.false_eq_true, if_false]
    have hmid0 : Mid B x ⟨some N, y.steps, y.at_, y.left, y.visits⟩ M N s := hm'.next hl eN wN rfl rfl rfl rfl rfl
    have hLl : L.length = 1 ∨ (L.length = 2 ∧ rl = 13) := by
      rcases hf with ⟨rfl, _⟩ | ⟨rfl, _⟩ | ⟨rfl, _⟩
      · cases hP; exact .inl rfl
      · cases hP; exact .inl rfl
      · cases hP; exact .inr ⟨rfl, rfl⟩
    obtain ⟨o, o1, o2⟩ := choose_prems hrec hx hs hb hl hm'.si.wf hm'.ext hm hP (y := ⟨some N, y.steps, y.at_, y.left, y.visits⟩) (st := ⟨s, false, 14, 0, ks⟩) hmid0 hleft hkl hLl
    have e0 : (((L.length : Nat) : Int) - 0).toNat = L.length := by omega
    rw [e0, o1]
    simp only [Option.bind_some]
    rcases o2 with ⟨q', rfl, ho⟩ | ⟨kids, z, M2, rfl, hmid, hNM, hzl, hk', hkk, hva⟩ | ⟨kids, a, z, M2, rfl, hmid, hNM, hzl, hK, ha, p, hp, hR⟩
    · exact ⟨_, rfl, .inl ⟨_, rfl, ho⟩⟩
    · have hV : Valid M2 s := (hNM.valid wN (eN.look hlM')).2 (prem_valid hm'.si.wf hb hlM' hm hP fun p hp => (hNM.valid wN (pN p hp).2).1 (hva p hp))
      obtain ⟨q, q1, q2, q3⟩ := end_some (p := ⟨s, true, rl, mn, kids⟩) hx hs hmid hb hl rfl ⟨fun _ => hV, fun q => (by cases q)⟩ hk' hkk
      simp only [aft, if_true, q1, Option.bind_some]
      exact ⟨_, rfl, .inl ⟨_, rfl, fun _ => ⟨M2, q3⟩, fun h => absurd q2 h⟩⟩
    · simp only [aft, Bool.false_eq_true, if_false]
      obtain ⟨K, hK⟩ := hK
      have hks : Kids z false (ks ++ [a]) := by
        obtain ⟨m, p, rfl, h3, h4⟩ := ha
        exact (hk.ext hK).push h3 h4
      refine ⟨_, rfl, .inr ⟨a, z, M2, rfl, hmid, eN.trans hNM, hzl, hks, ?_⟩⟩
      obtain ⟨k1, k2⟩ := lookV_iff.1 hl
      have hge := hm'.ext.eq _ k2
      refine ⟨fun q => ?_, fun q => ?_, fun q => ?_⟩
      · simp only at q; subst q
        cases hP
        case orR1 g k =>
          simp only [List.getElem?_cons_zero, Option.some.injEq] at hp
          rw [← hp, g, hge] at hR; exact hR
      · simp only at q; subst q
        cases hP
        case orR2 g k =>
          simp only [List.getElem?_cons_zero, Option.some.injEq] at hp
          rw [← hp, g, hge] at hR; exact hR
      · simp only at q; subst q
        obtain ⟨hh, k5, c5⟩ : s.left.has mn = true ∧ (nd M mn).kind = 5 ∧ (nd M (nd M mn).l).kind = 5 := by
          rcases hf with h | h | h
          · omega
          · omega
          · exact h.2
        have hi := k1 mn hh
        have hli := hx.wf.left hi (.inr (.inr k5))
        have n1 := hm'.ext.eq _ hi
        have n2 := hm'.ext.eq _ hli
        cases hP
        case impL h k c e1 =>
          obtain ⟨m1, w1, i1, q1, l1⟩ := put_nd hm'.si.wf e1
          simp only [List.getElem?_cons_zero, Option.some.injEq] at hp
          rw [n1, n2] at hp m1 w1 i1 l1 hNM
          refine ⟨_, inb_mono i1 hNM.len, ?_, by rw [← hp] at hR; exact hR⟩
          have hr1 := hx.wf.right hli (.inr (.inr c5))
          have hr2 := hx.wf.right hi (.inr (.inr k5))
          have := fmI w1 i1 m1
          rw [hNM.fm w1 i1, hNM.fm w1 (inb_mono hr1 (Nat.le_trans hm'.ext.len l1)), hNM.fm w1 (inb_mono hr2 (Nat.le_trans hm'.ext.len l1))]
          exact this
  · have hNM' := Premises_err hm'.si.wf hlM' hb h1 he
    subst hNM'
    simp only [ne_eq, he, not_false_eq_true, decide_true, if_true]
    refine ⟨_, rfl, .inl ⟨_, rfl, out_err (M' := N) ⟨N, rfl, by simp, hm'.si.wf.nodup, Nat.le_refl _⟩ hm'.ext he⟩⟩
theorem choose_ok {B : Int} {n : Nat} {rec : PFinder → Sq → Option (PFinder × Int × Int)} (hrec : RecOk B n rec) {x : PFinder} {M : List Nd} {s : Sq} (hx : SI B x M) (hs : Gw.look s x.at_ = none) (hb : s.left.okB = true) (hl : lookV M s = true) (h14 : (applyV M s).1 = 14)
    {y : PFinder} (hm' : Mid B x y M M s) (hleft : y.left.toNat < n) : ∃ q, search_finder_choose.g rec y s = some q ∧ Out B x M s q := by
  have hOl : (optsV M s).length ≤ 4096 := by
    have := (choices_len (M := M) (s := s) hx.wf.len).2
    rw [choices_opts h14] at this
    simpa using this
  have main : ∀ (c i : Nat) (ks : List Int) (y : PFinder) (M' : List Nd), i + c = (optsV M s).length → Mid B x y M M' s → y.left.toNat < n → ks.length = i → Kids y false ks → (∀ (j : Nat) (o : Int × Int), j < i → (optsV M s)[j]? = some o → DoneC M M' s o) →
      ∃ o, forN (fun i (st : PStep × PFinder) => search_finder_choose.b0 ((optsV M s).map (·.1), (optsV M s).map (·.2), 0) s rec i st.1 st.2) c i (⟨s, false, 14, 0, ks⟩, y) = some o ∧
        ((∃ ks' y' M2, o = .inl (⟨s, false, 14, 0, ks'⟩, y') ∧ Mid B x y' M M2 s ∧ Kids y' false ks' ∧ ks'.length ≤ 4096 ∧ ∀ o ∈ optsV M s, DoneC M M2 s o) ∨ ∃ q, o = .inr q ∧ Out B x M s q) := by
    intro c
    induction c with
    | zero =>
      intro i ks y M' hi hm' hleft hkl hk hd
      refine ⟨_, rfl, .inl ⟨ks, y, M', rfl, hm', hk, by omega, fun o ho => ?_⟩⟩
      obtain ⟨j, hj, e⟩ := List.getElem_of_mem ho
      exact hd j o (by omega) (by rw [List.getElem?_eq_getElem hj, e])
    | succ c ih =>
      intro i ks y M' hi hm' hleft hkl hk hd
      obtain ⟨q, h1, h2⟩ := choose_step hrec hx hs hb hl (i := i) (by omega) hm' hleft (by omega) hk
      rw [forN]
      simp only [h1, Option.bind_some]
      rcases h2 with ⟨q', rfl, ho⟩ | ⟨a, z, M2, rfl, hmid, he, hzl, hk', hdo⟩
      · exact ⟨_, rfl, .inr ⟨_, rfl, ho⟩⟩
      · obtain ⟨o, o1, o2⟩ := ih (i + 1) (ks ++ [a]) z M2 (by omega) hmid hzl (by simp [hkl]) hk' (fun j p hj hp => by
          by_cases e : j = i
          · subst e
            rw [List.getElem?_eq_getElem (by omega)] at hp
            rw [← Option.some.inj hp]; exact hdo
          · exact (hd j p (by omega) hp).ext hx.wf hl hm'.ext hm'.si.wf he (List.mem_of_getElem? hp))
        exact ⟨o, by simpa using o1, o2⟩
  unfold search_finder_choose.g
  rw [hm'.si.t, choices_some hx.wf.len hl hb, choices_opts h14]
  simp only [Option.bind_some, ne_eq, not_true_eq_false, decide_false, Bool.false_eq_true, if_false]
  obtain ⟨o, o1, o2⟩ := main (optsV M s).length 0 [] y M (by omega) hm' hleft rfl Kids.nil (fun j o hj => by omega)
  have e0 : ((((optsV M s).map (·.1)).length : Int) - 0).toNat = (optsV M s).length := by simp
  change forN (fun i (st : PStep × PFinder) => search_finder_choose.b0 ((optsV M s).map (·.1), (optsV M s).map (·.2), 0) s rec i st.1 st.2) (optsV M s).length (0 : Int) (⟨s, false, 14, 0, []⟩, y) = some o at o1
  rw [e0, o1]
  simp only [Option.bind_some]
  rcases o2 with ⟨ks, y', M2, rfl, hmid, hk, hkk, hd⟩ | ⟨q, rfl, ho⟩
  · have hR := stuck_done hx.wf hb hl h14 hmid.ext hmid.si.wf hd
    obtain ⟨q, q1, q2, q3⟩ := end_some (p := ⟨s, false, 14, 0, ks⟩) hx hs hmid hb hl rfl ⟨fun q => (by cases q), fun _ => hR⟩ hk hkk
    simp only [aft, q1, Option.bind_some]
    exact ⟨_, rfl, fun _ => ⟨M2, q3⟩, fun h => absurd q2 h⟩
  · exact ⟨_, rfl, ho⟩
theorem apply_rule {M : List Nd} {s : Sq} (h : (applyV M s).1 ≠ 14) : (applyV M s).1 ≠ 11 ∧ (applyV M s).1 ≠ 12 ∧ (applyV M s).1 ≠ 13 := by
  unfold applyV at h ⊢
  cases h1 : firstV M s (fun r => decide (r = 1)) with
  | some j => simp
  | none =>
    simp only
    split
    · simp
    · cases h3 : firstV M s (fun r => decide (3 ≤ r) && decide (r ≤ 7)) with
      | some j =>
        have := (firstV_some h3).2.2
        simp only [Bool.and_eq_true, decide_eq_true_eq] at this
        simp only
        omega
      | none =>
        simp only
        split
        · simp
        · split
          · simp
          · cases h4 : firstV M s (fun r => decide (r = 10)) with
            | some j => simp
            | none => simp [h1, h3, h4, *] at h
theorem decide_ok {B : Int} {n : Nat} {rec : PFinder → Sq → Option (PFinder × Int × Int)} (hrec : RecOk B n rec) : RecOk B (n + 1) (search_finder_decide.g rec) := by
  intro x M s hx hb hl hleft
  unfold search_finder_decide.g
  cases hs : Gw.look s x.at_ with
  | some v =>
    simp only [Option.isSome_some, if_true, Option.getD_some]
    obtain ⟨i, p, h1, h2, h3⟩ := hx.c2 s v hs
    refine ⟨_, rfl, fun _ => ⟨M, hx, TExt.refl M, ⟨[], by simp, fun p hp => by cases hp⟩, Int.le_refl _, rfl, ⟨i, p, h1, h2, h3⟩, .inl rfl⟩, fun h => absurd rfl h⟩
  | none =>
    simp only [Option.isSome_none, Bool.false_eq_true, if_false]
    by_cases h0 : x.left = 0
    · rw [if_pos (decide_eq_true h0)]
      exact ⟨_, rfl, out_err (hx.er (TExt.refl M)) (TExt.refl M) (by decide)⟩
    rw [if_neg (by simpa using h0), hx.t, Apply_some hx.wf.len hb, hl]
    have hbud := hx.bud
    simp only [if_true, Option.bind_some, ne_eq, not_true_eq_false, decide_false, Bool.false_eq_true, if_false]
    rw [wrap_small (n := x.left - 1) (by omega), wrap_small (n := x.visits + 1) (by omega)]
    have hmid : ∀ N, TExt M N → Wf N → Mid B x ⟨some N, x.steps, x.at_, x.left - 1, x.visits + 1⟩ M N s := fun N eN wN =>
      ⟨hx.next eN wN rfl rfl rfl ⟨by show 0 ≤ x.left - 1; omega, by show x.left - 1 + (x.visits + 1) = B; omega, by show x.visits ≤ x.visits + 1; omega⟩, eN, ⟨[], by simp, fun p hp => by cases hp⟩, Int.le_refl _, rfl⟩
    by_cases h14 : (applyV M s).1 = 14
    · rw [if_pos (decide_eq_true h14)]
      obtain ⟨q, q1, q2⟩ := choose_ok hrec hx hs hb hl h14 (hmid M (TExt.refl M) hx.wf) (by show (x.left - 1).toNat < n; omega)
      rw [q1]
      exact ⟨_, rfl, q2⟩
    · rw [if_neg (by simpa using h14)]
      obtain ⟨N, L, e, h1, h2⟩ := Premises_rel (applyV M s).1 (applyV M s).2 hx.wf hl hb
      rw [h1]
      simp only [Option.bind_some]
      by_cases he : e = 0
      · subst he
        obtain ⟨hfit, hP⟩ := h2 rfl
        have hm := fits_inb hfit
        obtain ⟨wN, lN, qN, pN⟩ := prem_wf hx.wf hb hl hm hP
        have eN : TExt M N := ⟨lN, qN⟩
        simp only [not_true_eq_false, decide_false, Bool.false_eq_true, if_false]
        obtain ⟨o, o1, o2⟩ := decide_loop hrec hx hs hb hl hm hP (apply_rule h14) L.length 0 [] ⟨some N, x.steps, x.at_, x.left - 1, x.visits + 1⟩ N (by omega) (hmid N eN wN) (TExt.refl N) (by show (x.left - 1).toNat < n; omega) rfl Kids.nil (fun j p hj => by omega)
        have e0 : (((L.length : Nat) : Int) - 0).toNat = L.length := by omega
        change forN (fun i (st : PStep × PFinder) => search_finder_decide.b0 rec (some N, L, 0) s ((applyV M s).1, (applyV M s).2, 0) i st.1 st.2) L.length (0 : Int) (⟨s, true, (applyV M s).1, (applyV M s).2, []⟩, ⟨some N, x.steps, x.at_, x.left - 1, x.visits + 1⟩) = some o at o1
        rw [e0, o1]
        simp only [Option.bind_some]
        rcases o2 with ⟨ks, y', M2, rfl, hmid', hNM, hk, hkk, hv⟩ | ⟨q, rfl, ho⟩
        · have hV : Valid M2 s := (hNM.valid wN (eN.look hl)).2 (prem_valid hx.wf hb hl hm hP fun p hp => (hNM.valid wN (pN p hp).2).1 (hv p hp))
          obtain ⟨q, q1, q2, q3⟩ := end_some (p := ⟨s, true, (applyV M s).1, (applyV M s).2, ks⟩) hx hs hmid' hb hl rfl ⟨fun _ => hV, fun q => (by cases q)⟩ hk hkk
          simp only [aft, q1, Option.bind_some]
          exact ⟨_, rfl, fun _ => ⟨M2, q3⟩, fun h => absurd q2 h⟩
        · exact ⟨_, rfl, ho⟩
      · have hNM := Premises_err hx.wf hl hb h1 he
        subst hNM
        simp only [he, not_false_eq_true, decide_true, if_true]
        exact ⟨_, rfl, out_err (M' := N) ⟨N, rfl, by simp, hx.wf.nodup, Nat.le_refl _⟩ (TExt.refl N) he⟩
theorem decide_all {B : Int} : ∀ n : Nat, RecOk B n (search_finder_decide.f n)
  | 0 => fun x M s hx _ _ hleft => by omega
  | n + 1 => decide_ok (decide_all n)
end Go.Proofs.YtjjkhjieegmphaaDoor
end
section
namespace Go.Proofs.YtjjkhjieegmphaaDoor
open Gw
set_option maxRecDepth 100000
theorem heads11 : law11_heads.f 5000 = some true := by decide +kernel
theorem run_some {k : Nat} (hk : 4097 ≤ k) {M : List Nd} {s : Sq} (bg : Int) (hw : Wf M) (hb : s.left.okB = true) :
    ∃ T F e, search_Run.f k (some M) s bg = some (T, F, e) ∧
      (e = 0 → lookV M s = true ∧ 1 ≤ bg ∧ bg ≤ 4096 ∧ ∃ M' y v, T = some M' ∧ F = ⟨(at_ PStep.z y.steps v).proved, y.steps, y.visits⟩ ∧ Ps bg ⟨some M, [], [], bg, 0⟩ y M M' s v) ∧ (e ≠ 0 → T = some M ∧ F = ⟨false, [], 0⟩) := by
  unfold search_Run.f
  simp only [formula_Table_Not_neg.f, Option.bind_some, hb, chk, if_true, show (decide ((31 : Int) = 1)) = false from rfl, Bool.false_eq_true, if_false]
  have hloop := forE_find (b := fun (x : Nat) (s : Int × PFound) => search_Run.b0 (some M) (x : Int) s.1 s.2) (p := fun (j : Nat) => decide ((M.length : Int) ≤ (j : Int))) (r := fun _ => ((31 : Int), (⟨false, [], 0⟩ : PFound))) s.left.list (0, ⟨false, [], 0⟩) (by
    intro x _
    simp only [search_Run.b0, formula_Table_Len.f, Option.map_some, Option.bind_some]
    split <;> rfl)
  rw [hloop]
  have ha : (s.left.list.all fun j => decide (j < M.length)) = !(s.left.list.find? fun (j : Nat) => decide ((M.length : Int) ≤ (j : Int))).isSome := by
    rw [← any_find, List.all_eq_not_any_not]
    congr 2
    funext j
    by_cases hj : j < M.length
    · have : ¬ (M.length : Int) ≤ j := by omega
      simp [hj, this]
    · have : (M.length : Int) ≤ j := by omega
      simp [hj, this]
  cases hf : s.left.list.find? fun (j : Nat) => decide ((M.length : Int) ≤ (j : Int)) with
  | some j =>
    simp only [Option.bind_some, fin]
    exact ⟨_, _, _, rfl, fun h => absurd h (by decide), fun _ => ⟨rfl, rfl⟩⟩
  | none =>
    rw [hf] at ha
    simp only [Option.bind_some, fin, formula_Table_Len.f, Option.map_some]
    by_cases hg : inb s.goal M.length = true
    · have hlk : lookV M s = true := by unfold lookV; rw [ha, hg]; rfl
      have h0 := inb_ex hg
      have g1 : decide (s.goal < 0) = false := decide_eq_false (by omega)
      have g2 : decide ((M.length : Int) ≤ s.goal) = false := decide_eq_false (by omega)
      simp only [g1, Bool.not_false, if_true, Option.bind_some, g2, Bool.false_or, Bool.false_eq_true, if_false]
      by_cases hbg : 1 ≤ bg ∧ bg ≤ 4096
      · have b1 : (decide (bg < 1) || decide (4096 < bg)) = false := by
          rw [Bool.or_eq_false_iff, decide_eq_false_iff_not, decide_eq_false_iff_not]; omega
        simp only [b1, Bool.false_eq_true, if_false]
        have hsi : SI bg ⟨some M, [], [], bg, 0⟩ M := { t := rfl, wf := hw, bud := ⟨(by show 0 ≤ bg; omega), (by show bg + 0 = bg; omega), hbg.2, (by simp)⟩, c1 := fun i p h => (by simp at h), c2 := fun q v h => (by simp [Gw.look] at h), seq := fun p h => (by cases h), sem := fun p h => (by cases h), kids := fun i p h => (by simp at h), kl := fun p h => (by cases h) }
        obtain ⟨⟨y, v, e⟩, h1, h2, h3⟩ := decide_all (B := bg) k _ M s hsi hb hlk (by show bg.toNat < k; omega)
        rw [h1]
        simp only [Option.bind_some]
        by_cases he : e = 0
        · subst he
          obtain ⟨M', hps⟩ := h2 rfl
          obtain ⟨i, p, e1, e2, e3⟩ := hps.at_
          simp only at e1 e2
          subst e1
          obtain ⟨a1, a2⟩ := at_of e2
          simp only [ne_eq, not_true_eq_false, decide_false, Bool.false_eq_true, if_false, a2, if_true, hps.si.t]
          exact ⟨_, _, _, rfl, fun _ => ⟨hlk, hbg.1, hbg.2, M', y, i, hps.si.t, rfl, hps⟩, fun h => absurd rfl h⟩
        · obtain ⟨N, n1, n2, n3, n4⟩ := (h3 he).ex
          simp only at n1
          simp only [ne_eq, he, not_false_eq_true, decide_true, if_true, n1, cutP n2 n3 n4, Option.bind_some]
          exact ⟨_, _, _, rfl, fun h => absurd h he, fun _ => ⟨rfl, rfl⟩⟩
      · have b1 : (decide (bg < 1) || decide (4096 < bg)) = true := by
          rw [Bool.or_eq_true, decide_eq_true_eq, decide_eq_true_eq]; omega
        simp only [b1, if_true]
        exact ⟨_, _, _, rfl, fun h => absurd h (by decide), fun _ => ⟨rfl, rfl⟩⟩
    · have hg' : ¬ (0 ≤ s.goal ∧ s.goal < M.length) := fun q => hg (by simp only [inb, Bool.and_eq_true, decide_eq_true_eq]; exact q)
      by_cases h0 : s.goal < 0
      · simp only [h0, decide_true, Bool.not_true, Bool.false_eq_true, if_false, Option.bind_some, Bool.true_or, if_true]
        exact ⟨_, _, _, rfl, fun h => absurd h (by decide), fun _ => ⟨rfl, rfl⟩⟩
      · have g2 : (M.length : Int) ≤ s.goal := by omega
        simp only [h0, decide_false, Bool.not_false, if_true, Option.bind_some, g2, decide_true, Bool.false_or]
        exact ⟨_, _, _, rfl, fun h => absurd h (by decide), fun _ => ⟨rfl, rfl⟩⟩
end Go.Proofs.YtjjkhjieegmphaaDoor
end
section
namespace Go.Proofs.YtjjkhjieegmphaaDoor
open Gw
end Go.Proofs.YtjjkhjieegmphaaDoor
end
section
namespace Go.Proofs.YtjjkhjieegmphaaDoor
open Gw
end Go.Proofs.YtjjkhjieegmphaaDoor
end
section
namespace Go.Proofs.YtjjkhjieegmphaaDoor
open Gw
end Go.Proofs.YtjjkhjieegmphaaDoor
end
section
namespace Go.Proofs.YtjjkhjieegmphaaDoor
open Gw
set_option maxRecDepth 100000
theorem SearchLists_true {k : Nat} (hk0 : 4097 ≤ k) (hh : law11_heads.f k = some true) {rows : List Nd} {s : Sq} {bg : Int} (hn : ∀ n ∈ rows, n.name.size < 9223372036854775808) (hl : rows.length * 40 ≤ 140737488355328) (hb : s.left.okB = true) : law11_SearchLists.f k rows s bg = some true := by
  unfold law11_SearchLists.f
  rw [hh]
  rcases both_some hn hl with h | ⟨h, hw⟩
  · rw [h]; simp
  · rw [h]
    obtain ⟨T, F, e, h1, h2, h3⟩ := run_some (k := k) (s := s) hk0 bg hw hb
    simp only [Option.bind_some, Bool.not_true, Bool.false_eq_true, if_false, h1]
    by_cases he : e = 0
    · subst he
      obtain ⟨hlk, hb1, hb2, M', y, v, rfl, rfl, hps⟩ := h2 rfl
      obtain ⟨i, p, e1, e2, e3⟩ := hps.at_
      subst e1
      obtain ⟨a1, a2⟩ := at_of e2
      have hbud := hps.si.bud
      have hi := (List.getElem?_eq_some_iff.1 e2).1
      have hlast : (i : Int) + 1 = y.steps.length := by
        rcases hps.last with q | q
        · rw [q] at hi; simp at hi
        · exact q
      have hcnt : y.visits = y.steps.length := by have := hps.cnt; simp at this; omega
      have hw1 : IntKind.i64.wrap ((y.steps.length : Int) - 1) = i := by rw [wrap_small (by omega)]; omega
      have hle : ¬ bg < (y.steps.length : Int) := by omega
      have hne : ¬ (y.steps.length : Int) = 0 := by omega
      simp only [ne_eq, not_true_eq_false, decide_false, Bool.false_eq_true, if_false, hw1, a1, a2, e3, hcnt, hle, hne, Bool.or_false, Bool.not_false, chk, if_true, Bool.or_true, Bool.or_self, Bool.not_true, decide_true, beq_self_eq_true]
      have hround : ∀ j : Nat, j < y.steps.length → law11_SearchLists.b0 (some M', ⟨p.proved, y.steps, (y.steps.length : Int)⟩, 0) k (j : Int) = some (.go ()) := by
        intro j hj
        unfold law11_SearchLists.b0
        have hq : y.steps[j]? = some y.steps[j] := List.getElem?_eq_getElem hj
        obtain ⟨q1, q2⟩ := at_of hq
        have hk := hps.si.kids j _ hq
        generalize hqs : y.steps[j] = q at *
        have hql : q.kids.length ≤ 4096 := by rw [← hqs]; exact hps.si.kl _ (List.getElem_mem hj)
        have hkids : ∀ (c x f : Nat), x + c = q.kids.length → c < f → iter (fun s => law11_SearchLists.b1 (some M', ⟨p.proved, y.steps, (y.steps.length : Int)⟩, 0) (j : Int) s) f (x : Int) = some (.inl (q.kids.length : Int)) := by
          intro c
          induction c with
          | zero =>
            intro x f hx hf
            obtain ⟨f, rfl⟩ : ∃ g, f = g + 1 := ⟨f - 1, by omega⟩
            have hx' : x = q.kids.length := by omega
            rw [iter]
            unfold law11_SearchLists.b1
            simp only [q1, hx', Int.lt_irrefl, decide_false, Bool.false_eq_true, if_false, Option.bind_some]
          | succ c ih =>
            intro x f hx hf
            obtain ⟨f, rfl⟩ : ∃ g, f = g + 1 := ⟨f - 1, by omega⟩
            have hxl : x < q.kids.length := by omega
            have hat : at_ (0 : Int) q.kids (x : Int) = q.kids[x] := by simp [at_, List.getD_eq_getElem?_getD, hxl]
            obtain ⟨n, q', e1, e2, e3, e4⟩ := hk q.kids[x] (List.getElem_mem hxl)
            obtain ⟨b1, b2⟩ := at_of e3
            have hstep : law11_SearchLists.b1 (some M', ⟨p.proved, y.steps, (y.steps.length : Int)⟩, 0) (j : Int) (x : Int) = some (.go ((x + 1 : Nat) : Int)) := by
              unfold law11_SearchLists.b1
              have c1 : decide ((x : Int) < (q.kids.length : Int)) = true := decide_eq_true (by omega)
              have c2 : inb (x : Int) q.kids.length = true := by rw [inb_nat]; simpa using hxl
              have c3 : decide ((n : Int) < 0) = false := decide_eq_false (by omega)
              have c4 : decide ((j : Int) ≤ (n : Int)) = false := decide_eq_false (by omega)
              have c5 : IntKind.i64.wrap ((x : Int) + 1) = ((x + 1 : Nat) : Int) := by rw [wrap_small (by omega)]; omega
              simp only [q1, c1, if_true, c2, chk, hat, e1, c3, c4, b1, b2, e4, Bool.or_self, Bool.not_false, Bool.or_true, beq_self_eq_true, Bool.not_true, Bool.false_eq_true, if_false, c5]
            rw [iter]
            simp only [hstep, Option.bind_some]
            exact ih (x + 1) f (by omega) (by omega)
        have hk1 := hkids q.kids.length 0 k (by omega) (by omega)
        change iter (fun s => law11_SearchLists.b1 (some M', ⟨p.proved, y.steps, (y.steps.length : Int)⟩, 0) (j : Int) s) k (0 : Int) = _ at hk1
        rw [hk1]
        have hk2 := forN_go (b := fun i43 (s_1 : Unit) => law11_SearchLists.b2 (some M', ⟨p.proved, y.steps, (y.steps.length : Int)⟩, 0) (j : Int) i43) (x := ()) j 0 (fun t _ ht => by
          have ht' : t < y.steps.length := by omega
          have hqt : y.steps[t]? = some y.steps[t] := List.getElem?_eq_getElem ht'
          obtain ⟨d1, d2⟩ := at_of hqt
          have hne : ¬ y.steps[t].seq = q.seq := by
            intro q3
            have r1 := hps.si.c1 t _ hqt
            have r2 := hps.si.c1 j q (by rw [hq])
            rw [q3, r2] at r1
            have := Option.some.inj r1
            omega
          unfold law11_SearchLists.b2
          simp only [d1, d2, q1, chk, if_true, hne, decide_false, Bool.false_eq_true, if_false])
        change forN (fun i43 (s_1 : Unit) => law11_SearchLists.b2 (some M', ⟨p.proved, y.steps, (y.steps.length : Int)⟩, 0) (j : Int) i43) j (0 : Int) () = _ at hk2
        have e0 : ((j : Int) - 0).toNat = j := by omega
        simp only [Option.bind_some, aft, e0]
        rw [hk2]
        rfl
      have hall := forN_go (b := fun i (s_1 : Unit) => law11_SearchLists.b0 (some M', ⟨p.proved, y.steps, (y.steps.length : Int)⟩, 0) k i) (x := ()) y.steps.length 0 (fun t _ ht => hround t (by omega))
      change forN (fun i (s_1 : Unit) => law11_SearchLists.b0 (some M', ⟨p.proved, y.steps, (y.steps.length : Int)⟩, 0) k i) y.steps.length (0 : Int) () = _ at hall
      have e0 : ((y.steps.length : Int) - 0).toNat = y.steps.length := by omega
      rw [e0, hall]
      rfl
    · obtain ⟨rfl, rfl⟩ := h3 he
      simp [he]
end Go.Proofs.YtjjkhjieegmphaaDoor
end
section
namespace Go.Proofs.YtjjkhjieegmphaaDoor
open Gw Go.ChangeShapes Go.WideShapes Go.ChangeAt Go.RowKit
set_option maxRecDepth 100000
theorem ownKnob_none : ownKnob PP.godebug = none := by kernel_rfl
theorem laidOut_PP : laidOutB PP = true := by kernel_rfl
theorem gTab : PP.globalNamed "math/bits.deBruijn64tab" = some 0 := by kernel_rfl
theorem trodAll_stays {H : Type} {enc : TypeId × Value → H} {W W' : World} {sp : Nat → Bool} : ∀ {ts : List TypeId} {vs : List Value} {ds : List (DataW H)} {ps : List MemPlace}, (∀ t ∈ ts, PP.readableRec t = true ∧ t < PP.types.size) →
    DataW.TrodAll enc PP W 0 (fun _ => true) true ts vs ds ps → (∀ p ∈ ps, W.sameAt W' p) → (∀ p ∈ ps, sp p.block = true) → DataW.TrodAll enc PP W' 0 sp true ts vs ds ps
  | [], vs, ds, ps, _, h, _, _ => by
    obtain ⟨rfl, rfl, rfl⟩ := trodAll_nil h
    exact trodAll_mk0
  | t :: ts, vs, ds, ps, hr, h, h1, h2 => by
    obtain ⟨v, vs, d, ds, p, q, rfl, rfl, rfl, h0, h3⟩ := trodAll_cons h
    have ht := hr t (by simp)
    exact trodAll_cons_mk (WideElems.Trod_stays laidOut_PP ht.1 ht.2 h0 (fun x hx => h1 x (by simp [hx])) (fun x hx => h2 x (by simp [hx])))
      (trodAll_stays (fun t ht => hr t (by simp [ht])) h3 (fun x hx => h1 x (by simp [hx])) (fun x hx => h2 x (by simp [hx])))
def oth0 : Oth := ⟨fun _ => False, [], fun _ h => by cases h⟩
def tzs : List Int := Lib.deBruijn64tab.map fun (z : Nat) => (z : Int)
theorem tz_of {W : World} (h : laidMetH PP Rows.ruleNobodyRow.laid W) : Tz W := by
  have ht : Lib.TabIs PP W "math/bits.deBruijn64tab" .u8 tzs := Lib.tabIs_of_head (rest := []) gTab (t := T_64_uint8) (e := T_uint8) (n := 64) (by kernel_rfl) ar_64_uint8.1 (by kernel_rfl) (by kernel_rfl) (by kernel_rfl) h
  intro i v hv
  have hi : i < Lib.deBruijn64tab.length := by
    have := (List.getElem?_eq_some_iff.1 hv).1
    simpa using this
  have h1 := ht.cell gTab i (by simpa [tzs] using hi)
  rw [List.getElem?_map, List.getElem?_eq_getElem hi] at hv
  cases hv
  rw [Nat.zero_add, h1]
  simp [tzs, List.getD, hi]
section
variable {P : Program} {W : World} {b t : Nat} {k : IntKind} {v : Value}
theorem cell_int (ht : P.underlying t = some (.int k)) (h : Cell.okWide P W .any b t v) : ∃ n, v = .int k n ∧ k.has n := by
  simp only [Cell.okWide, ht] at h
  cases v <;> simp_all [Cell.ok]
theorem agg_of {n : Nat} {ts : List TypeId} (ht : AggT P t n) (h : Value.okWide P W .any b t v) (hts : P.cellTypes P.depth t = some ts) (hc : P.cellsOf t = n) (hn : ts.length = n) :
    ∃ cs : List Value, v = .agg cs.toArray ∧ cs.length = n ∧ ∀ (i : Nat) (v : Value) (u : TypeId), cs[i]? = some v → ts[i]? = some u → Cell.okWide P W .any b u v := by
  obtain ⟨⟨d, ht, hk⟩, -⟩ := ht
  have h : ∃ cs, v = .agg cs ∧ cs.size = P.cellsOf t ∧ Row.okWide P W .any b t cs := by
    unfold Value.okWide at h
    rw [ht] at h
    cases d <;> first | exact h | cases hk
  obtain ⟨cs, rfl, hsz, ts', hts', -, hcell⟩ := h
  obtain rfl := Option.some.inj (hts'.symm.trans hts)
  refine ⟨cs.toList, rfl, by simpa using hsz.trans hc, fun i v u hv hu => ?_⟩
  obtain ⟨u', hu', h1⟩ := hcell i v (by simpa using hv)
  rw [Nat.mod_eq_of_lt (List.getElem?_eq_some_iff.1 hu).1] at hu'
  rw [hu'] at hu; cases hu
  exact h1
theorem int_of (ht : P.underlying t = some (.int k)) (h : Value.okWide P W .any b t v) : ∃ n, v = .int k n ∧ k.has n := by
  unfold Value.okWide at h
  rw [ht] at h
  exact cell_int ht h
end
def intOf : Value → Int | .int _ n => n | _ => 0
def ts_Sq : List TypeId := List.replicate 16 T_uint64 ++ [T_int]
theorem ct_Sq : PP.cellTypes PP.depth T_Sq = some ts_Sq := by kernel_rfl
theorem co_Sq : PP.cellsOf T_Sq = 17 := by kernel_rfl
def bitsOf (l : List Value) : Bits := Vector.ofFn fun i : Fin 16 => intOf (l.getD i .nilFunc)
theorem sq_of {W : World} {b : Nat} {v : Value} (h : Value.okWide PP W .any b T_Sq v) : ∃ a : Sq, v = .agg (Sq.C a).toArray ∧ a.left.okB = true ∧ IntKind.i64.has a.goal := by
  obtain ⟨cs, rfl, hl, hc⟩ := agg_of (P := PP) (t := T_Sq) (ts := ts_Sq) ag_Sq h ct_Sq co_Sq rfl
  have hl : cs.length = 17 := hl
  have h16 : ∀ i, i < 16 → ∃ n, cs[i]? = some (.int .u64 n) ∧ IntKind.u64.has n := fun i hi => by
    obtain ⟨n, e, hn⟩ := cell_int un_uint64 (hc i cs[i] T_uint64 (List.getElem?_eq_getElem (by omega)) (by rw [ts_Sq, List.getElem?_append_left (by simpa using hi), List.getElem?_replicate, if_pos hi]))
    exact ⟨n, by rw [List.getElem?_eq_getElem (by omega), e], hn⟩
  obtain ⟨g, e, hg⟩ := cell_int un_int (hc 16 cs[16] T_int (List.getElem?_eq_getElem (by omega)) rfl)
  refine ⟨⟨bitsOf cs, g⟩, ?_, ?_, hg⟩
  · congr 2
    refine List.ext_getElem? fun i => ?_
    by_cases hi : i < 16
    · obtain ⟨n, hn, _⟩ := h16 i hi
      rw [hn, Sq.C, List.getElem?_append_left (by rw [Bits.len]; exact hi), Bits.get _ _ hi]
      simp [bitsOf, hn, intOf, List.getD]
    · by_cases h2 : i = 16
      · subst h2; rw [Sq.get_goal, List.getElem?_eq_getElem (by omega), e]
      · rw [List.getElem?_eq_none (by omega), List.getElem?_eq_none (by rw [Sq.len]; omega)]
  · unfold Bits.okB
    rw [List.all_eq_true]
    intro x hx
    obtain ⟨i, hi⟩ := List.getElem?_of_mem hx
    have hi16 : i < 16 := by have := (List.getElem?_eq_some_iff.1 hi).1; simpa using this
    obtain ⟨n, hn, hh⟩ := h16 i hi16
    have hxn : x = n := by
      have := (List.getElem?_eq_some_iff.1 hi).2
      rw [← this]; simp [bitsOf, hn, intOf, List.getD]
    subst hxn
    have h2 : 0 ≤ x ∧ x ≤ 18446744073709551615 := hh
    simp only [Bool.and_eq_true, decide_eq_true_eq]
    omega
end Go.Proofs.YtjjkhjieegmphaaDoor
end
section
namespace Go.Proofs.YtjjkhjieegmphaaDoor
open Gw Go.ChangeShapes Go.WideShapes Go.ChangeAt Go.RowKit
set_option maxRecDepth 100000
section
variable {H : Type} {enc : TypeId × Value → H} {P : Program} {W : World} {t : TypeId} {fuel : Nat} {cs : List Value} {x : DataW H × List MemPlace} {sp : Nat → Bool} {hd : Bool} {b0 : Nat}
theorem take_one {l : List Value} {o : Nat} {v : Value} (h : (l.drop o).take 1 = [v]) : l[o]? = some v := by
  have : ((l.drop o).take 1)[0]? = some v := by rw [h]; rfl
  rw [List.getElem?_take] at this
  simpa using this
theorem fld_int {i off ft : Nat} {k : IntKind} (hf : FieldV P t i off ft) (hk : P.underlying ft = some (.int k)) (hc : P.cellsOf ft = 1) (h : DataW.trod enc P W b0 sp hd fuel t cs = some x) : ∃ n, cs[off]? = some (.int k n) := by
  obtain ⟨fs, fd, hu, hi, rfl, rfl⟩ := hf
  obtain ⟨xs, n, _, _, hl, hx, hall⟩ := DataW.trod_struct hu h
  have h1 := hall i fd hi
  have h2 : i < xs.length := by rw [hx]; exact (Array.getElem?_eq_some_iff.1 hi).1
  rw [List.getElem?_eq_getElem h2, hc] at h1
  obtain ⟨n, e, _⟩ := DataW.trod_int hk h1
  exact ⟨n, take_one e⟩
theorem fld_str {i off ft : Nat} (hf : FieldV P t i off ft) (hk : P.underlying ft = some .string) (hc : P.cellsOf ft = 1) (h : DataW.trod enc P W b0 sp hd fuel t cs = some x) : ∃ s : ByteArray, cs[off]? = some (.string s) ∧ s.size ≤ maxLen := by
  obtain ⟨fs, fd, hu, hi, rfl, rfl⟩ := hf
  obtain ⟨xs, n, _, _, hl, hx, hall⟩ := DataW.trod_struct hu h
  have h1 := hall i fd hi
  have h2 : i < xs.length := by rw [hx]; exact (Array.getElem?_eq_some_iff.1 hi).1
  rw [List.getElem?_eq_getElem h2, hc] at h1
  obtain ⟨s, e, _, hs⟩ := DataW.trod_string hk h1
  exact ⟨s, take_one e, hs⟩
theorem slice_of {α : Type} [Inhabited α] {e k : Nat} {C : α → List Value} {Q : α → Prop} {base : Nat} {v : Value} {d : DataW H} {ps : List MemPlace} (ht : P.underlying t = some (.slice e)) (hk : P.cellsOf e = k) (hC : ∀ a, (C a).length = k) (hk0 : 0 < k)
    (hel : ∀ (n : Nat) (cs : List Value) (x : DataW H × List MemPlace), DataW.trod enc P W 0 (fun _ => true) true n e cs = some x → ∃ a, cs = C a ∧ Q a)
    (hval : Value.okWide P W .any base t v) (h : DataW.Trod enc P W 0 (fun _ => true) true t v d ps) :
    ∃ (l : List α) (s : SlV), v = s.v ∧ Rd W k s (l.map C) ∧ (∀ a ∈ l, Q a) ∧ (l = [] ∨ ∃ elems spare, d = .slice elems spare ∧ elems.length = l.length) := by
  obtain ⟨a0, len0, cap0, rfl⟩ := okWide_slice ht hval
  obtain ⟨fuel, hf⟩ := h
  rcases Deep.open_slice ht hf with ⟨h1, h2⟩ | ⟨a, len, cap, m, n, D, Pl, h1, _, hlc, hcm, hm, h2, hx⟩
  · simp [Value.cells] at h1
    obtain ⟨rfl, rfl, rfl⟩ := h1
    exact ⟨[], SlV.nil, SlV.nil_eq, Rd.nil W k, by simp, .inl rfl⟩
  · simp [Value.cells] at h1
    obtain ⟨rfl, rfl, rfl⟩ := h1
    have hval2 := hval
    simp only [Value.okWide, ht, Cell.okWide, Cell.ok] at hval2
    obtain ⟨_, _, _, hspot, row, cells, hshape, _⟩ := hval2
    obtain ⟨ab, ao, asp⟩ := a
    obtain rfl : asp = none := hspot
    simp only at hshape
    have hlt : ab < W.heap.size := by
      unfold World.shape? at hshape
      cases hh : W.heap[ab]? with
      | none => rw [hh] at hshape; cases hshape
      | some o => exact (Array.getElem?_eq_some_iff.1 hh).1
    have hmc : m = cap0 := by rw [hm]; rfl
    obtain ⟨f, hfx⟩ := Deep.choose_lt (α := α) (n := len0) (p := fun i y => W.cells? 0 ((⟨ab, ao, none⟩ : Addr).add (i * P.cellsOf e)) (P.cellsOf e) = some (C y) ∧ Q y) (fun i hi => by
      obtain ⟨cs', hc, ht'⟩ := hx i (by omega)
      obtain ⟨y, rfl, hq⟩ := hel _ _ _ ht'
      exact ⟨y, hc, hq⟩)
    refine ⟨(List.range len0).map f, ⟨some ⟨ab, ao, none⟩, len0, cap0⟩, by rw [SlV.eq], ⟨⟨by simp, ?_, ?_⟩, ?_, hlc⟩, ?_, .inr ⟨_, _, by simpa using congrArg Prod.fst h2, by simp⟩⟩
    · intro r hr
      obtain ⟨y, _, rfl⟩ := List.mem_map.1 hr
      exact hC y
    · intro i r hr
      rw [List.getElem?_map, List.getElem?_map] at hr
      have hi : i < len0 := by
        refine Nat.lt_of_not_le fun q => ?_
        rw [List.getElem?_eq_none (by simpa using q)] at hr; cases hr
      rw [List.getElem?_eq_getElem (by simpa using hi)] at hr
      simp only [List.getElem_range, Option.map_some, Option.some.injEq] at hr
      subst hr
      obtain ⟨h3, _⟩ := hfx i hi
      obtain ⟨_, hl, hc⟩ := World.cells?_some h3
      refine ⟨rfl, fun j v hv => ?_⟩
      have hj : j < k := by have := (List.getElem?_eq_some_iff.1 hv).1; rw [hC] at this; exact this
      have h4 := hc j (by rw [hk]; exact hj)
      rw [hv] at h4
      have hadd : ((⟨ab, ao, none⟩ : Addr).add (i * P.cellsOf e)).add j = ⟨ab, ao + i * k + j, none⟩ := by
        rw [hk]
        unfold Addr.add
        by_cases h5 : i * k = 0
        · by_cases h6 : j = 0
          · simp [h5, h6]
          · simp [h5, h6]
        · by_cases h6 : j = 0
          · simp [h5, h6]
          · simp [h5, h6]
      rw [hadd] at h4
      exact h4
    · rintro i ⟨_, rfl⟩
      exact hlt
    · intro y hy
      obtain ⟨i, hi, rfl⟩ := List.mem_map.1 hy
      exact (hfx i (List.mem_range.1 hi)).2
end
instance : Inhabited Nd := ⟨Nd.z⟩
theorem nds_of {H : Type} {enc : TypeId × Value → H} {W : World} {base : Nat} {v : Value} {d : DataW H} {ps : List MemPlace} (hval : Value.okWide PP W .any base T_L_api_Node v) (h : DataW.Trod enc PP W 0 (fun _ => true) true T_L_api_Node v d ps) :
    ∃ (l : List Nd) (s : SlV), v = s.v ∧ Rd W 4 s (l.map Nd.C) ∧ (∀ a ∈ l, a.name.size < 9223372036854775808) ∧ (l = [] ∨ ∃ elems spare, d = .slice elems spare ∧ elems.length = l.length) := by
  refine slice_of sl_L_api_Node.1 (by kernel_rfl) Nd.len (by decide) (fun n cs x hx => ?_) hval h
  obtain ⟨a, ha⟩ := fld_int fv_Nd_kind un_api_Kind (by kernel_rfl) hx
  obtain ⟨b, hb, hbs⟩ := fld_str fv_Nd_name un_string (by kernel_rfl) hx
  obtain ⟨c, hc⟩ := fld_int fv_Nd_l un_int (by kernel_rfl) hx
  obtain ⟨d, hd⟩ := fld_int fv_Nd_r un_int (by kernel_rfl) hx
  obtain ⟨fs, fd, hu, _⟩ := fv_Nd_kind
  obtain ⟨xs, n', _, _, hl, _⟩ := DataW.trod_struct hu hx
  have hl : cs.length = 4 := hl.trans (by kernel_rfl)
  refine ⟨⟨a, b, c, d⟩, ?_, by have : maxLen = 9223372036854775807 := rfl; show b.size < _; omega⟩
  match cs, hl with
  | [v0, v1, v2, v3], _ =>
    simp at ha hb hc hd
    subst ha hb hc hd
    rfl
theorem bulk_one {H : Type} (d : DataW H) : 1 ≤ Rows.uptoBulk d := by
  cases d with
  | lit l => cases l <;> simp [Rows.uptoBulk]
  | nil => simp [Rows.uptoBulk]
  | ptr d => simp [Rows.uptoBulk]
  | slice elems spare => simp [Rows.uptoBulk]
  | agg parts => simp [Rows.uptoBulk]
  | iface t d => simp [Rows.uptoBulk]
  | map entries => simp [Rows.uptoBulk]
  | held h => simp [Rows.uptoBulk]
theorem bulk_part {H : Type} {d : DataW H} {l : List (DataW H)} (h : d ∈ l) : Rows.uptoBulk d ≤ Rows.uptoBulkAll l := by
  induction l with
  | nil => cases h
  | cons x r ih =>
    simp only [Rows.uptoBulkAll]
    cases List.mem_cons.1 h with
    | inl e => subst e; omega
    | inr e => have := ih e; omega
theorem bulk_len {H : Type} (l : List (DataW H)) : l.length ≤ Rows.uptoBulkAll l := by
  induction l with
  | nil => simp [Rows.uptoBulkAll]
  | cons x r ih => have := bulk_one x; simp only [Rows.uptoBulkAll, List.length_cons]; omega
theorem small_len {H : Type} {α : Type} {l : List α} {d : DataW H} {ds : List (DataW H)} (hk : Rows.uptoSmall H ds = true) (hd : d ∈ ds) (h : l = [] ∨ ∃ elems spare, d = .slice elems spare ∧ elems.length = l.length) : l.length ≤ 1048576 := by
  rcases h with rfl | ⟨elems, spare, rfl, he⟩
  · simp
  · have h1 := bulk_part hd
    have h2 := bulk_len elems
    have h3 : Rows.uptoBulkAll ds ≤ 1048576 := by simpa [Rows.uptoSmall] using hk
    simp only [Rows.uptoBulk] at h1
    omega
end Go.Proofs.YtjjkhjieegmphaaDoor
end
section
namespace Go.Proofs.YtjjkhjieegmphaaDoor
open Gw Go.ChangeShapes Go.WideShapes Go.ChangeAt Go.RowKit
set_option maxRecDepth 100000
def Held (W : World) (Z : List OA) : Prop := ∀ z ∈ Z, ∃ F, z.holds W F
theorem Held.nil {W : World} : Held W [] := fun _ h => by cases h
theorem Held.cons {W : World} {z : OA} {Z : List OA} (h : ∃ F, z.holds W F) (hz : Held W Z) : Held W (z :: Z) := fun x hx => by
  rcases List.mem_cons.1 hx with rfl | hx
  · exact h
  · exact hz x hx
theorem Held.s {W : World} {Z : List OA} {k : Nat} {α : Type} {C : α → List Value} {s : SlV} {l : List α} (hr : Rd W k s (l.map C)) (hl : l.length ≤ 140737488355328) (hz : Held W Z) : Held W (fS k C s l :: Z) :=
  .cons ⟨s.fp, ⟨hr, hl⟩, fun _ => Iff.rfl⟩ hz
theorem Held.tz {W : World} {Z : List OA} (h : Tz W) (hz : Held W Z) : Held W (oTz :: Z) := .cons ⟨fun i => i = 0, ⟨h, fun _ => Iff.rfl⟩⟩ hz
theorem stheld {W : World} {Z : List OA} (h : Held W Z) : St (fun _ => False) oth0 W W [] Z :=
  ⟨fun _ => False, fun _ h => h.elim, fun _ h => h.elim, Chg.refl _ _, trivial, fun z hz => by
    obtain ⟨F, hF⟩ := h z hz
    exact ⟨F, hF, fun i _ q => q.elim (fun x => x) (fun x => x)⟩, fun d hd => absurd hd (by simp [oth0])⟩
end Go.Proofs.YtjjkhjieegmphaaDoor
end
section
namespace Go.Proofs.YtjjkhjieegmphaaDoor
open Gw Go.ChangeShapes Go.WideShapes Go.ChangeAt Go.RowKit
set_option maxRecDepth 100000
namespace LawSearchLists
theorem contract (H : Type) (enc : TypeId × Value → H) (W : World) (base : Nat) (args : Array Value) (ds gs : List (DataW H)) (before : List MemPlace)
    (hval : ∀ (j : Nat) t v, D_law11_SearchLists.params[j]? = some t → args[j]? = some v → Value.okWide PP W .any base t v)
    (hW : DataW.Whole enc PP D_law11_SearchLists.params.toList Rows.searchListsSpec.vars false W args.toList ds gs before) (hL : laidMetH PP Rows.searchListsUptoRow.laid W) (hsm : Rows.uptoSmall H (ds ++ gs) = true) :
    Calls PP F_law11_SearchLists args W fun e W' => ∃ v, e = .returned v ∧ Rows.searchListsSpec.post enc PP D_law11_SearchLists false true false false W args v W' := by
  have hW' := hW
  have hlt := hW.lt
  obtain ⟨p, q, hA0, hV, rfl, hfz, hnd⟩ := hW
  have hA : DataW.TrodAll enc PP W 0 (fun _ => true) true D_law11_SearchLists.params.toList args.toList ds p := hA0
  have hpar : D_law11_SearchLists.params = #[T_L_api_Node, T_Sq, T_int] := by kernel_rfl
  rw [hpar] at hA hval
  obtain ⟨v0, v1, v2, d0, d1, d2, p0, p1, p2, rfl, rfl, rfl, h0, h1, h2⟩ := trodAll_three hA
  obtain ⟨rfl, rfl⟩ := trodVars_none hV
  obtain ⟨a0, s0, rfl, hrd0, hnm0, hsl0⟩ := nds_of (hval 0 _ _ rfl rfl) h0
  have hln0 := small_len hsm (by simp) hsl0
  obtain ⟨a1, rfl, hb1, hg1⟩ := sq_of (hval 1 _ _ rfl rfl)
  obtain ⟨a2, rfl, hr2⟩ := int_of (k := .i64) un_int (hval 2 _ _ rfl rfl)
  have S := stheld (W := W) (.s hrd0 (by omega) (.tz (tz_of hL) .nil))
  refine (law11_SearchLists_st S (SearchLists_true (k := 5000) (by omega) heads11 (bg := a2) hnm0 (by omega) hb1)).mono fun e W' ⟨v, he, hv, hS⟩ => ?_
  subst hv
  have hx := hS.frame
  refine ⟨_, he, post_of_same (pa := p0 ++ p1 ++ p2) (pv := []) hW' (fun _ _ _ => trodAll_cons_mk (shut_bool un_bool _) trodAll_mk0) (fun sp hsp => ?_) (fun _ _ => rfl) (by simp) ((Ext.below hx).frame _) hx.froz (ok_one (by kernel_rfl) rfl (okWide_bool_mk un_bool _))⟩
  rw [hpar]
  refine trodAll_stays (ts := [T_L_api_Node, T_Sq, T_int]) (fun t ht => ?_) hA (fun p hp => (Ext.below hx).same (hlt p (by simpa using hp))) (fun p hp => hsp p (by simpa using hp))
  simp only [List.mem_cons, List.not_mem_nil, or_false] at ht
  rcases ht with rfl | rfl | rfl <;> exact ⟨by kernel_rfl, of_decide_eq_true (by kernel_rfl)⟩
noncomputable def laidWorld (os : Os) : World :=
  { World.holding PP os ⟨#[], #[], []⟩ with heap := (World.holding PP os ⟨#[], #[], []⟩).heap.modify 0 fun
      | .cells _ t frozen => .cells (tzs.map (Value.int .u8)).toArray t frozen
      | o => o }
def argsN : Array Value := #[.slice none 0 0, .agg (Sq.C Sq.z).toArray, .int .i64 0]
theorem laid_met (os : Os) : laidMet PP Rows.searchListsUptoRow.laid ((laidWorld os).forCall (fun _ _ => 0) ⟨#[], argsN, []⟩).memory :=
  laidMet_of_run' 8 (by kernel_rfl) (by kernel_rfl)
def ddN (H : Type) : List (DataW H) := [.nil, .agg [.agg (List.replicate 16 (.lit (.int .u64 0))), .lit (.int .i64 0)], .lit (.int .i64 0)]
theorem reads (os : Os) {H : Type} (enc : TypeId × Value → H) : ∃ places, DataW.whole enc PP ((laidWorld os).forCall (fun _ _ => 0) ⟨#[], argsN, []⟩).memory D_law11_SearchLists.params.toList Rows.searchListsSpec.vars false argsN.toList 8 = some (ddN H, [], places) :=
  ⟨[], by kernel_rfl⟩
theorem lifted (os : Os) (started : os.Started) (H : Type) (enc : TypeId × Value → H) (F : Stop.Interp) :
    ReturnsInHanded {} Tryd.checked os F_law11_SearchLists .any ((Rows.OpenSpec.upto Rows.searchListsSpec).preRow enc PP D_law11_SearchLists Rows.searchListsUptoRow.domain false Rows.searchListsUptoRow.laid) (((Rows.OpenSpec.upto Rows.searchListsSpec).at F).post enc PP D_law11_SearchLists false true false false) := by
  obtain ⟨places, hx⟩ := reads os enc
  refine returnsInHanded_of_row (C := Tryd.checked) (s := Rows.OpenSpec.upto Rows.searchListsSpec) ownKnob_none started (by kernel_rfl) fn_law11_SearchLists
    (witness_row_at (enc := enc) (C := Tryd.checked) false (laidWorld os) argsN rfl (by kernel_rfl) (by kernel_rfl) (by kernel_rfl)
      (OpenSpec.preRow_of_cond 8 hx (by kernel_rfl) (fun k hk => by cases hk; kernel_rfl) (by kernel_rfl) (laid_met os))) ?_
  intro W base args ds gs before hval hW _ hcond _ hL _ _
  exact contract H enc W base args ds gs before hval hW hL (hcond _ rfl)
theorem said : Rows.SearchListsUptoSaid :=
  OpenClaim.holds_of_cond F_law11_SearchLists D_law11_SearchLists rfl rfl rfl rfl rfl rfl rfl ⟨rfl, rfl, rfl, rfl, rfl⟩ rfl rfl rfl rfl rfl (by kernel_rfl) fn_law11_SearchLists (by kernel_rfl)
    (of_decide_eq_true (by kernel_rfl)) (by unfold Func.isWrapper; first | (rw [if_pos (by decide +kernel)]; kernel_rfl) | (rw [if_neg (by decide +kernel)]; exact ⟨rfl, rfl⟩))
    (fun os started H enc _ F => by rw [OpenClaim.pre_eq_preRow]; exact lifted os started H enc F)
theorem plain (f : FuncId) (fn : Func) (hf : Tryd.pinned.checked.prog.funcNamed "dictum/dictumlaw11.SearchLists" = some f) (hfn : Tryd.pinned.checked.prog.funcs[f]? = some fn) :
    false = Tryd.pinned.checked.prog.looks [] ∧ ∀ (j : Nat) t, fn.params[j]? = some t → Tryd.pinned.checked.prog.wantsStandIn t = false := by
  obtain rfl : f = F_law11_SearchLists := Option.some.inj ((show PP.funcNamed "dictum/dictumlaw11.SearchLists" = some F_law11_SearchLists by kernel_rfl).symm.trans hf) |>.symm
  obtain rfl : fn = D_law11_SearchLists := (Option.some.inj (fn_law11_SearchLists.symm.trans hfn)).symm
  refine ⟨by kernel_rfl, fun j t ht => ?_⟩
  rw [show D_law11_SearchLists.params = #[T_L_api_Node, T_Sq, T_int] by kernel_rfl] at ht
  have hm : t ∈ [T_L_api_Node, T_Sq, T_int] := by simpa using Array.mem_of_getElem? ht
  simp only [List.mem_cons, List.not_mem_nil, or_false] at hm
  rcases hm with rfl | rfl | rfl
  · exact (show PP.wantsStandIn T_L_api_Node = false by kernel_rfl)
  · exact (show PP.wantsStandIn T_Sq = false by kernel_rfl)
  · exact (show PP.wantsStandIn T_int = false by kernel_rfl)
theorem card : Rows.SearchListsUptoCardSaid :=
  Claim7.holds_tied_plain_at .later [] _ _ _ _ said (fun _ h => by cases h) (by kernel_rfl) (fun _ h => by cases h) searchListsUpto_row_tie rfl ⟨rfl, rfl⟩ (by kernel_rfl) rfl plain (by kernel_rfl)
end LawSearchLists
end Go.Proofs.YtjjkhjieegmphaaDoor
end
