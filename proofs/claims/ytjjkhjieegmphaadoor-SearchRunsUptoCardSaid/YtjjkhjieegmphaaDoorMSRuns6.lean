/- SearchRuns, where what it reads is of the bulk that the row names: the row's statement and its card. The table of trailing zeros reads as the program lays it. Printed by card.py, a program of mine. -/
import Derived.Test.YtjjkhjieegmphaaDoorMSRuns5
import Derived.Test.YtjjkhjieegmphaaDoorCards
import Derived.Test.YtjjkhjieegmphaaDoorTie
import Derived.WalkKit
import Derived.ProofKit
import Derived.OpenShut
import Derived.Deep.DeepHandedRow
import Derived.Lib.LaidTab
import Derived.Deep.Slices
set_option linter.unusedVariables false
set_option linter.unusedSimpArgs false
section
namespace Go.Proofs.YtjjkhjieegmphaaDoor
open Gw
theorem Mid.next {B : Int} {x y z : PFinder} {M M' N : List Nd} {s : Sq} (h : Mid B x y M M' s) (hs : lookV M s = true) (e : TExt M' N) (wN : Wf N) (ht : z.t = some N) (h1 : z.steps = y.steps) (h2 : z.at_ = y.at_) (h3 : z.left = y.left) (h4 : z.visits = y.visits) : Mid B x z M N s where
 si := h.si.next e wN ht h1 h2 (by rw [h3, h4]; exact ⟨h.si.bud.1, h.si.bud.2.1, Int.le_refl _⟩)
 ext := h.ext.trans e
 new := by
  obtain ⟨K, hK, hb⟩ := h.new
  refine ⟨K, by rw [h1, hK], fun p hp => (hb p hp).ext h.si.wf e ((h.si.seq p (by rw [hK]; exact List.mem_append_right _ hp)).2) (h.ext.look hs)⟩
 left := by rw [h3]; exact h.left
 cnt := by rw [h4, h1]; exact h.cnt
def Kids (y : PFinder) (b : Bool) (l : List Int) : Prop := ∀ j ∈ l, ∃ (n : Nat) (q : PStep), j = n ∧ y.steps[n]? = some q ∧ q.proved = b
theorem Kids.nil {y : PFinder} {b : Bool} : Kids y b [] := fun _ h => by cases h
theorem Kids.ext {y z : PFinder} {b : Bool} {l : List Int} (h : Kids y b l) {K : List PStep} (hK : z.steps = y.steps ++ K) : Kids z b l := fun j hj => by
 obtain ⟨n, q, h1, h2, h3⟩ := h j hj
 exact ⟨n, q, h1, by rw [hK, List.getElem?_append_left (List.getElem?_eq_some_iff.1 h2).1]; exact h2, h3⟩
theorem Kids.push {y : PFinder} {b : Bool} {l : List Int} (h : Kids y b l) {n : Nat} {q : PStep} (h1 : y.steps[n]? = some q) (h2 : q.proved = b) : Kids y b (l ++ [(n : Int)]) := fun j hj => by
 rcases List.mem_append.1 hj with hj | hj
 ·exact h j hj
 ·exact ⟨n, q, List.mem_singleton.1 hj, h1, h2⟩
theorem Kids.one {y : PFinder} {b : Bool} {n : Nat} {q : PStep} (h1 : y.steps[n]? = some q) (h2 : q.proved = b) : Kids y b [(n : Int)] := Kids.push (l := []) Kids.nil h1 h2
theorem chk_len {l : List Int} {n : Int} (h : l.length ≤ 4096) : decide ((l.length + ([n]).length) * 8 ≤ 140737488355328) = true := decide_eq_true (by rw [List.length_singleton]; omega)
theorem out_err {B : Int} {x : PFinder} {M M' : List Nd} {s : Sq} {y : PFinder} {v e : Int} (h : Er M' y) (k : TExt M M') (he : e ≠ 0) : Out B x M s (y, v, e) := ⟨fun q => absurd q he, fun _ => h.mono k⟩
theorem decide_step {B : Int} {n : Nat} {rec : PFinder → Sq → Option (PFinder × Int × Int)} (hrec : RecOk B n rec) {x : PFinder} {M N : List Nd} {s : Sq} {r m : Int} {L : List Sq} (hx : SI B x M) (hs : Gw.look s x.at_ = none) (hb : s.left.okB = true) (hl : lookV M s = true) (hm : inb m M.length = true) (hP : PremR M s m r N L) (hr : r ≠ 11 ∧ r ≠ 12 ∧ r ≠ 13)
  {i : Nat} {kids : List Int} {y : PFinder} {M' : List Nd} (hiL : i < L.length) (hm' : Mid B x y M M' s) (hNM : TExt N M') (hleft : y.left.toNat < n) (hkl : kids.length ≤ 4096) (hk : Kids y true kids) :
   ∃ q, search_finder_decide.b0 rec (some N, L, 0) s (r, m, 0) i ⟨s, true, r, m, kids⟩ y = some q ∧
    ((∃ q', q = .ret q' ∧ Out B x M s q') ∨ ∃ a z M2, q = .go (⟨s, true, r, m, kids ++ [a]⟩, z) ∧ Mid B x z M M2 s ∧ TExt M' M2 ∧ z.left.toNat < n ∧ Kids z true (kids ++ [a]) ∧ Valid M2 L[i]) := by
 obtain ⟨wN, lN, qN, pN⟩ := prem_wf hx.wf hb hl hm hP
 have eN : TExt M N := ⟨lN, qN⟩
 have hlN := eN.look hl
 have hLi : L[i]? = some L[i] := List.getElem?_eq_getElem hiL
 have hat : at_ Sq.z L (i : Int) = L[i] := by simp [at_, List.getD_eq_getElem?_getD, hiL]
 obtain ⟨bp, lp⟩ := pN L[i] (List.getElem_mem hiL)
 have lp' := hNM.look lp
 have hbel : Below M' L[i] s := (prem_below hx.wf hb hl hm hP L[i] (List.getElem_mem hiL)).ext wN hNM lp hlN
 obtain ⟨⟨z, v, e⟩, h1, h2, h3⟩ := hrec y M' L[i] hm'.si bp lp' hleft
 unfold search_finder_decide.b0
 simp only [hat, h1, Option.bind_some]
 by_cases he : e = 0
 ·subst he
  obtain ⟨M2, hps⟩ := h2 rfl
  simp only [ne_eq, not_true_eq_false, decide_false, Bool.false_eq_true, if_false]
  obtain ⟨a, p, hva, hap, hpp⟩ := hps.at_
  simp only at hva hap
  subst hva
  obtain ⟨a1, a2⟩ := at_of hap
  simp only [a1, a2, chk, if_true]
  have hmid := mid_step hm' hl lp' hbel hps
  have hNM2 := hNM.trans hps.ext
  obtain ⟨K, hK, _⟩ := hps.new
  have hsem := hps.si.sem p (List.mem_of_getElem? hap)
  rw [hpp] at hsem
  have hzl : z.left.toNat < n := by have := hps.left; simp only at this; omega
  cases hpv : p.proved with
  | false =>
   have hR : Refd M2 s := (hNM2.refd wN hlN).2 (prem_refd hx.wf hb hl hm hP (List.getElem_mem hiL) ⟨hr.1, hr.2.1⟩ (fun q => absurd q hr.2.2) ((hNM2.refd wN lp).1 (hsem.2 hpv)))
   obtain ⟨q, q1, q2, q3⟩ := end_some (p := ⟨s, false, r, m, [(a : Int)]⟩) hx hs hmid hb hl rfl ⟨fun q => (by cases q), fun _ => hR⟩ (Kids.one hap hpv) (by simp)
   simp only [Bool.not_false, if_true, q1, Option.bind_some]
   exact ⟨_, rfl, .inl ⟨_, rfl, fun _ => ⟨M2, q3⟩, fun h => absurd q2 h⟩⟩
  | true =>
   simp only [Bool.not_true, Bool.false_eq_true, if_false, chk_len (n := (a : Int)) hkl, if_true]
   exact ⟨_, rfl, .inr ⟨_, z, M2, rfl, hmid, hps.ext, hzl, (hk.ext hK).push hap hpv, hsem.1 hpv⟩⟩
 ·simp only [ne_eq, he, not_false_eq_true, decide_true, if_true]
  exact ⟨_, rfl, .inl ⟨_, rfl, out_err (h3 he) hm'.ext he⟩⟩
theorem decide_loop {B : Int} {n : Nat} {rec : PFinder → Sq → Option (PFinder × Int × Int)} (hrec : RecOk B n rec) {x : PFinder} {M N : List Nd} {s : Sq} {r m : Int} {L : List Sq} (hx : SI B x M) (hs : Gw.look s x.at_ = none) (hb : s.left.okB = true) (hl : lookV M s = true) (hm : inb m M.length = true) (hP : PremR M s m r N L) (hr : r ≠ 11 ∧ r ≠ 12 ∧ r ≠ 13) :
  ∀ (c i : Nat) (kids : List Int) (y : PFinder) (M' : List Nd), i + c = L.length → Mid B x y M M' s → TExt N M' → y.left.toNat < n → kids.length = i → Kids y true kids → (∀ (j : Nat) (p : Sq), j < i → L[j]? = some p → Valid M' p) →
   ∃ o, forN (fun i (st : PStep × PFinder) => search_finder_decide.b0 rec (some N, L, 0) s (r, m, 0) i st.1 st.2) c i (⟨s, true, r, m, kids⟩, y) = some o ∧
    ((∃ kids' y' M2, o = .inl (⟨s, true, r, m, kids'⟩, y') ∧ Mid B x y' M M2 s ∧ TExt N M2 ∧ Kids y' true kids' ∧ kids'.length ≤ 4096 ∧ ∀ p ∈ L, Valid M2 p) ∨ ∃ q, o = .inr q ∧ Out B x M s q) := by
 obtain ⟨wN, lN, qN, pN⟩ := prem_wf hx.wf hb hl hm hP
 intro c
 induction c with
 | zero =>
  intro i kids y M' hi hm' hNM hleft hkl hk hv
  refine ⟨_, rfl, .inl ⟨kids, y, M', rfl, hm', hNM, hk, by have := prem_len hP; omega, fun p hp => ?_⟩⟩
  obtain ⟨j, hj, e⟩ := List.getElem_of_mem hp
  exact hv j p (by omega) (by rw [List.getElem?_eq_getElem hj, e])
 | succ c ih =>
  intro i kids y M' hi hm' hNM hleft hkl hk hv
  have hLl := prem_len hP
  obtain ⟨q, h1, h2⟩ := decide_step hrec hx hs hb hl hm hP hr (i := i) (by omega) hm' hNM hleft (by omega) hk
  rw [forN]
  simp only [h1, Option.bind_some]
  rcases h2 with ⟨q', rfl, ho⟩ | ⟨a, z, M2, rfl, hmid, he, hzl, hk', hva⟩
  ·exact ⟨_, rfl, .inr ⟨_, rfl, ho⟩⟩
  ·obtain ⟨o, o1, o2⟩ := ih (i + 1) (kids ++ [a]) z M2 (by omega) hmid (hNM.trans he) hzl (by simp [hkl]) hk' (fun j p hj hp => by
    by_cases e : j = i
    ·subst e
     rw [List.getElem?_eq_getElem (by omega)] at hp
     rw [← Option.some.inj hp]; exact hva
    ·exact (he.valid hm'.si.wf (hNM.look (pN p (List.mem_of_getElem? hp)).2)).2 (hv j p (by omega) hp))
   exact ⟨o, by simpa using o1, o2⟩
def optsV (M : List Nd) (s : Sq) : List (Int × Int) := (if (nd M s.goal).kind = 4 then [(11, s.goal), (12, s.goal)] else []) ++ ((List.range M.length).filter fun (j : Nat) => s.left.has j && decide (onV M s.left j = 13)).map fun (j : Nat) => ((13 : Int), (j : Int))
theorem choices_opts {M : List Nd} {s : Sq} (h : (applyV M s).1 = 14) : choicesV M s = ((optsV M s).map (·.1), (optsV M s).map (·.2)) := by
 unfold choicesV optsV
 rw [if_pos h]
 by_cases k : (nd M s.goal).kind = 4 <;> simp [k, Function.comp_def]
theorem on13 {M : List Nd} {b : Bits} {i : Int} (h : onV M b i = 13) : (nd M i).kind = 5 ∧ (nd M (nd M i).l).kind = 5 := by
 rcases on_cases h (by decide) with q | q | q | ⟨q, q2⟩
 ·omega
 ·omega
 ·omega
 ·exact ⟨q, by omega⟩
theorem on13' {M : List Nd} {b : Bits} {i : Int} (k : (nd M i).kind = 5) (c : (nd M (nd M i).l).kind = 5) : onV M b i = 13 := by
 unfold onV
 simp [k, c]
theorem opts_facts {M : List Nd} {s : Sq} {o : Int × Int} (h : o ∈ optsV M s) : (o.1 = 11 ∧ (nd M s.goal).kind = 4) ∨ (o.1 = 12 ∧ (nd M s.goal).kind = 4) ∨ (o.1 = 13 ∧ s.left.has o.2 = true ∧ (nd M o.2).kind = 5 ∧ (nd M (nd M o.2).l).kind = 5) := by
 unfold optsV at h
 rcases List.mem_append.1 h with h | h
 ·by_cases k : (nd M s.goal).kind = 4
  ·simp only [k, if_true, List.mem_cons, List.not_mem_nil, or_false] at h
   rcases h with rfl | rfl
   ·exact .inl ⟨rfl, k⟩
   ·exact .inr (.inl ⟨rfl, k⟩)
  ·simp [k] at h
 ·obtain ⟨j, hj, rfl⟩ := List.mem_map.1 h
  have := (List.mem_filter.1 hj).2
  simp only [Bool.and_eq_true, decide_eq_true_eq] at this
  exact .inr (.inr ⟨rfl, this.1, on13 this.2⟩)
theorem opts_or {M : List Nd} {s : Sq} (k : (nd M s.goal).kind = 4) : (11, s.goal) ∈ optsV M s ∧ (12, s.goal) ∈ optsV M s := by
 unfold optsV
 rw [if_pos k]
 exact ⟨by simp, by simp⟩
theorem opts_imp {M : List Nd} {s : Sq} {j : Int} (hj : inb j M.length = true) (hh : s.left.has j = true) (k : (nd M j).kind = 5) (c : (nd M (nd M j).l).kind = 5) : (13, j) ∈ optsV M s := by
 unfold optsV
 have h := inb_ex hj
 have hjn : ((j.toNat : Nat) : Int) = j := by omega
 refine List.mem_append_right _ (List.mem_map.2 ⟨j.toNat, List.mem_filter.2 ⟨List.mem_range.2 (by omega), ?_⟩, by rw [hjn]⟩)
 rw [hjn, hh, on13' k c]; simp
def DoneC (M M' : List Nd) (s : Sq) (o : Int × Int) : Prop :=
 (o.1 = 11 → Refd M' ⟨s.left, (nd M s.goal).l⟩) ∧ (o.1 = 12 → Refd M' ⟨s.left, (nd M s.goal).r⟩) ∧
  (o.1 = 13 → ∃ d : Int, inb d M'.length = true ∧ fm M' d = .imp (fm M' (nd M (nd M o.2).l).r) (fm M' (nd M o.2).r) ∧ Refd M' ⟨(s.left.del o.2).add d, (nd M o.2).l⟩)
theorem DoneC.ext {M M' N : List Nd} {s : Sq} {o : Int × Int} (h : DoneC M M' s o) (hw : Wf M) (hl : lookV M s = true) (hM : TExt M M') (wM' : Wf M') (e : TExt M' N) (ho : o ∈ optsV M s) : DoneC M N s o := by
 obtain ⟨k1, k2⟩ := lookV_iff.1 hl
 have lf := fun j hj => inb_mono (k1 j hj) hM.len
 refine ⟨fun q => ?_, fun q => ?_, fun q => ?_⟩
 ·have k : (nd M s.goal).kind = 4 := by rcases opts_facts ho with h | h | h <;> omega
  exact (e.refd (s := ⟨s.left, (nd M s.goal).l⟩) wM' (lookV_iff.2 ⟨lf, inb_mono (hw.left k2 (.inr (.inl k))) hM.len⟩)).2 (h.1 q)
 ·have k : (nd M s.goal).kind = 4 := by rcases opts_facts ho with h | h | h <;> omega
  exact (e.refd (s := ⟨s.left, (nd M s.goal).r⟩) wM' (lookV_iff.2 ⟨lf, inb_mono (hw.right k2 (.inr (.inl k))) hM.len⟩)).2 (h.2.1 q)
 ·obtain ⟨hh, k, c⟩ : s.left.has o.2 = true ∧ (nd M o.2).kind = 5 ∧ (nd M (nd M o.2).l).kind = 5 := by
   rcases opts_facts ho with h | h | h
   ·omega
   ·omega
   ·exact h.2
  obtain ⟨d, hd, fd, hr⟩ := h.2.2 q
  have hi := k1 o.2 hh
  have hli := hw.left hi (.inr (.inr k))
  refine ⟨d, inb_mono hd e.len, ?_, (e.refd (s := ⟨(s.left.del o.2).add d, (nd M o.2).l⟩) wM' (lookV_iff.2 ⟨(all_add (in1024 wM'.len hd)).2 ⟨hd, fun j hj => lf j (del_has' hj).1⟩, inb_mono hli hM.len⟩)).2 hr⟩
  rw [e.fm wM' hd, e.fm wM' (inb_mono (hw.right hli (.inr (.inr c))) hM.len), e.fm wM' (inb_mono (hw.right hi (.inr (.inr k))) hM.len)]
  exact fd
theorem stuck_done {M M' : List Nd} {s : Sq} (hw : Wf M) (hb : s.left.okB = true) (hl : lookV M s = true) (h14 : (applyV M s).1 = 14) (e : TExt M M') (wM' : Wf M') (hd : ∀ o ∈ optsV M s, DoneC M M' s o) : Refd M' s := by
 obtain ⟨k1, k2⟩ := lookV_iff.1 hl
 have no : ∀ (c : Int → Bool), firstV M s c = none → ∀ j : Int, s.left.has j = true → c (onV M s.left j) = false := fun c hc j hj => by
  have hi := inb_ex (k1 j hj)
  have hjn : ((j.toNat : Nat) : Int) = j := by omega
  unfold firstV at hc
  have := List.find?_eq_none.1 hc j.toNat (List.mem_range.2 (by omega))
  rw [hjn, hj] at this
  simpa using this
 have hA : firstV M s (fun r => decide (r = 1)) = none ∧ s.left.has s.goal = false ∧ firstV M s (fun r => decide (3 ≤ r) && decide (r ≤ 7)) = none ∧ (nd M s.goal).kind ≠ 5 ∧ (nd M s.goal).kind ≠ 3 ∧ firstV M s (fun r => decide (r = 10)) = none := by
  unfold applyV at h14
  cases h1 : firstV M s (fun r => decide (r = 1)) with
  | some j => simp [h1] at h14
  | none =>
   simp only [h1] at h14
   cases h2 : s.left.has s.goal with
   | true => simp [h2] at h14
   | false =>
    simp only [h2, Bool.false_eq_true, if_false] at h14
    cases h3 : firstV M s (fun r => decide (3 ≤ r) && decide (r ≤ 7)) with
    | some j =>
     have := (firstV_some h3).2.2
     simp only [h3, Bool.and_eq_true, decide_eq_true_eq] at h14 this
     omega
    | none =>
     simp only [h3] at h14
     by_cases k5 : (nd M s.goal).kind = 5
     ·simp [k5] at h14
     by_cases k3 : (nd M s.goal).kind = 3
     ·simp [k3] at h14
     simp only [k5, k3, if_false] at h14
     cases h4 : firstV M s (fun r => decide (r = 10)) with
     | some j => simp [h4] at h14
     | none => exact ⟨rfl, rfl, rfl, k5, k3, rfl⟩
 obtain ⟨a1, a2, a3, a4, a5, a6⟩ := hA
 have hndl : ∀ j : Int, inb j M.length = true → nd M' j = nd M j := e.eq
 refine stuck_refd wM' (e.look hl) (fun j hj => ?_) ?_ (fun k4 => ?_) (fun j hj k5 c5 => ?_)
 ·have hi := k1 j hj
  have o1 := no _ a1 j hj
  have o3 := no _ a3 j hj
  have o10 := no _ a6 j hj
  simp only [decide_eq_false_iff_not, Bool.and_eq_false_iff] at o1 o3 o10
  rw [hndl j hi]
  rcases hw.kind j hi with k | k | k | k | k
  ·exact .inl k
  ·have : onV M s.left j = 1 := by simp [onV, k]
   exact absurd this o1
  ·have : onV M s.left j = 3 := by simp [onV, k]
   omega
  ·have : onV M s.left j = 10 := by simp [onV, k]
   exact absurd this o10
  ·have hli := hw.left hi (.inr (.inr k))
   rw [hndl _ hli]
   rcases hw.kind _ hli with c | c | c | c | c
   ·cases hh : s.left.has (nd M j).l with
    | false => exact .inr (.inl ⟨k, c, rfl⟩)
    | true =>
     have : onV M s.left j = 4 := by simp [onV, k, c, hh]
     omega
   ·have : onV M s.left j = 5 := by simp [onV, k, c]
    omega
   ·have : onV M s.left j = 6 := by simp [onV, k, c]
    omega
   ·have : onV M s.left j = 7 := by simp [onV, k, c]
    omega
   ·exact .inr (.inr ⟨k, c⟩)
 ·rw [hndl _ k2]
  rcases hw.kind _ k2 with k | k | k | k | k
  ·exact .inl ⟨k, a2⟩
  ·exact .inr (.inl k)
  ·exact absurd k a5
  ·exact .inr (.inr k)
  ·exact absurd k a4
 ·rw [hndl _ k2] at k4 ⊢
  obtain ⟨p1, p2⟩ := opts_or k4
  exact ⟨(hd _ p1).1 rfl, (hd _ p2).2.1 rfl⟩
 ·have hi := k1 j hj
  rw [hndl j hi] at k5 c5 ⊢
  have hli := hw.left hi (.inr (.inr k5))
  rw [hndl _ hli] at c5 ⊢
  obtain ⟨d, d1, d2, d3⟩ := (hd _ (opts_imp hi hj k5 c5)).2.2 rfl
  exact ⟨d, in1024 wM'.len d1, d2, d3⟩
end Go.Proofs.YtjjkhjieegmphaaDoor
end
section
namespace Go.Proofs.YtjjkhjieegmphaaDoor
open Gw
theorem choose_inner {B : Int} {n : Nat} {rec : PFinder → Sq → Option (PFinder × Int × Int)} (hrec : RecOk B n rec) {x : PFinder} {M M1 N : List Nd} {s : Sq} {rl mn : Int} {L : List Sq} (hx : SI B x M) (hs : Gw.look s x.at_ = none) (hb : s.left.okB = true) (hl : lookV M s = true) (wM1 : Wf M1) (eM : TExt M M1) (hm : inb mn M1.length = true) (hP : PremR M1 s mn rl N L)
  {i : Nat} {kids : List Int} {y : PFinder} {st : PStep} {M' : List Nd} (hiL : i < L.length) (hm' : Mid B x y M M' s) (hNM : TExt N M') (hleft : y.left.toNat < n) (hkl : kids.length ≤ 4096) (hsk : st.kids.length ≤ 4096) (hk : Kids y true kids) (hsec : i ≠ 0 → rl = 13 ∧ L[1]? = some L[i]) :
   ∃ q, search_finder_choose.b1 rec (some N, L, 0) i ⟨s, true, rl, mn, kids⟩ y st = some q ∧
    ((∃ q', q = .ret (.ret q') ∧ Out B x M s q') ∨ (∃ a z M2, q = .go (⟨s, true, rl, mn, kids ++ [a]⟩, z, st) ∧ Mid B x z M M2 s ∧ TExt M' M2 ∧ z.left.toNat < n ∧ (∃ K, z.steps = y.steps ++ K) ∧ Kids z true (kids ++ [a]) ∧ Valid M2 L[i])
     ∨ (∃ a z M2, i = 0 ∧ q = .brk (⟨s, false, rl, mn, kids ++ [a]⟩, z, ⟨st.seq, st.proved, st.rule, st.main, st.kids ++ [a]⟩) ∧ Mid B x z M M2 s ∧ TExt M' M2 ∧ z.left.toNat < n ∧ (∃ K, z.steps = y.steps ++ K) ∧ (∃ m p, a = ((m : Nat) : Int) ∧ z.steps[m]? = some p ∧ p.proved = false) ∧ Refd M2 L[i])) := by
 have hl1 := eM.look hl
 obtain ⟨wN, lN, qN, pN⟩ := prem_wf wM1 hb hl1 hm hP
 have eN : TExt M1 N := ⟨lN, qN⟩
 have hlN := eN.look hl1
 have hLi : L[i]? = some L[i] := List.getElem?_eq_getElem hiL
 have hat : at_ Sq.z L (i : Int) = L[i] := by simp [at_, List.getD_eq_getElem?_getD, hiL]
 obtain ⟨bp, lp⟩ := pN L[i] (List.getElem_mem hiL)
 have lp' := hNM.look lp
 have hbel : Below M' L[i] s := (prem_below wM1 hb hl1 hm hP L[i] (List.getElem_mem hiL)).ext wN hNM lp hlN
 obtain ⟨⟨z, v, e⟩, h1, h2, h3⟩ := hrec y M' L[i] hm'.si bp lp' hleft
 unfold search_finder_choose.b1
 simp only [hat, h1, Option.bind_some]
 by_cases he : e = 0
 ·subst he
  obtain ⟨M2, hps⟩ := h2 rfl
  simp only [ne_eq, not_true_eq_false, decide_false, Bool.false_eq_true, if_false]
  obtain ⟨a, p, hva, hap, hpp⟩ := hps.at_
  simp only at hva hap
  subst hva
  obtain ⟨a1, a2⟩ := at_of hap
  simp only [a1, a2, chk, chk_len (n := (a : Int)) hkl, if_true]
  have hmid := mid_step hm' hl lp' hbel hps
  have hNM2 := hNM.trans hps.ext
  obtain ⟨K, hK, _⟩ := hps.new
  have hsem := hps.si.sem p (List.mem_of_getElem? hap)
  rw [hpp] at hsem
  have hzl : z.left.toNat < n := by have := hps.left; simp only at this; omega
  cases hpv : p.proved with
  | true =>
   simp only [if_true]
   exact ⟨_, rfl, .inr (.inl ⟨_, z, M2, rfl, hmid, hps.ext, hzl, ⟨K, hK⟩, (hk.ext hK).push hap hpv, hsem.1 hpv⟩)⟩
  | false =>
   simp only [Bool.false_eq_true, if_false]
   by_cases h0 : i = 0
   ·subst h0
    have e0 : decide (((0 : Nat) : Int) = 0) = true := rfl
    simp only [e0, if_true, chk_len (n := (a : Int)) hsk]
    exact ⟨_, rfl, .inr (.inr ⟨_, z, M2, trivial, rfl, hmid, hps.ext, hzl, ⟨K, hK⟩, ⟨a, p, rfl, hap, hpv⟩, hsem.2 hpv⟩)⟩
   ·have e0 : decide ((i : Int) = 0) = false := decide_eq_false (by omega)
    obtain ⟨r13, hL1⟩ := hsec h0
    have hR : Refd M2 s := (hNM2.refd wN hlN).2 (prem_refd wM1 hb hl1 hm hP (List.getElem_mem hiL) (by omega) (fun _ => hL1) ((hNM2.refd wN lp).1 (hsem.2 hpv)))
    obtain ⟨q, q1, q2, q3⟩ := end_some (p := ⟨s, false, rl, mn, [(a : Int)]⟩) hx hs hmid hb hl rfl ⟨fun q => (by cases q), fun _ => hR⟩ (Kids.one hap hpv) (by simp)
    simp only [e0, Bool.false_eq_true, if_false, q1, Option.bind_some]
    exact ⟨_, rfl, .inl ⟨_, rfl, fun _ => ⟨M2, q3⟩, fun h => absurd q2 h⟩⟩
 ·simp only [ne_eq, he, not_false_eq_true, decide_true, if_true]
  exact ⟨_, rfl, .inl ⟨_, rfl, out_err (h3 he) hm'.ext he⟩⟩
theorem choose_prems {B : Int} {n : Nat} {rec : PFinder → Sq → Option (PFinder × Int × Int)} (hrec : RecOk B n rec) {x : PFinder} {M M1 N : List Nd} {s : Sq} {rl mn : Int} {L : List Sq} (hx : SI B x M) (hs : Gw.look s x.at_ = none) (hb : s.left.okB = true) (hl : lookV M s = true) (wM1 : Wf M1) (eM : TExt M M1) (hm : inb mn M1.length = true) (hP : PremR M1 s mn rl N L)
  {y : PFinder} {st : PStep} (hm' : Mid B x y M N s) (hleft : y.left.toNat < n) (hsk : st.kids.length ≤ 4096) (h2 : L.length = 1 ∨ (L.length = 2 ∧ rl = 13)) :
   ∃ o, forN (fun i (q : PStep × PFinder × PStep) => search_finder_choose.b1 rec (some N, L, 0) i q.1 q.2.1 q.2.2) L.length 0 (⟨s, true, rl, mn, []⟩, y, st) = some o ∧
    ((∃ q', o = .inr (.ret q') ∧ Out B x M s q') ∨ (∃ kids z M2, o = .inl (⟨s, true, rl, mn, kids⟩, z, st) ∧ Mid B x z M M2 s ∧ TExt N M2 ∧ z.left.toNat < n ∧ Kids z true kids ∧ kids.length ≤ 4096 ∧ ∀ p ∈ L, Valid M2 p)
     ∨ (∃ kids a z M2, o = .inl (⟨s, false, rl, mn, kids⟩, z, ⟨st.seq, st.proved, st.rule, st.main, st.kids ++ [a]⟩) ∧ Mid B x z M M2 s ∧ TExt N M2 ∧ z.left.toNat < n ∧ (∃ K, z.steps = y.steps ++ K) ∧ (∃ m p, a = ((m : Nat) : Int) ∧ z.steps[m]? = some p ∧ p.proved = false) ∧ ∃ p, L[0]? = some p ∧ Refd M2 p)) := by
 obtain ⟨wN, lN, qN, pN⟩ := prem_wf wM1 hb (eM.look hl) hm hP
 rcases h2 with h1 | ⟨h1, r13⟩
 ·obtain ⟨p, rfl⟩ := List.length_eq_one_iff.1 h1
  obtain ⟨q, q1, q2⟩ := choose_inner hrec hx hs hb hl wM1 eM hm hP (i := 0) (st := st) (by simp) hm' (TExt.refl N) hleft (by simp) hsk Kids.nil (fun h => absurd rfl h)
  have q1' : search_finder_choose.b1 rec (some N, [p], 0) 0 ⟨s, true, rl, mn, []⟩ y st = some q := q1
  rw [List.length_singleton, forN]
  simp only [q1', Option.bind_some]
  rcases q2 with ⟨q', rfl, ho⟩ | ⟨a, z, M2, rfl, hmid, he, hzl, hK, hk', hva⟩ | ⟨a, z, M2, _, rfl, hmid, he, hzl, hK, hk', hva⟩
  ·exact ⟨_, rfl, .inl ⟨_, rfl, ho⟩⟩
  ·refine ⟨_, rfl, .inr (.inl ⟨_, z, M2, rfl, hmid, he, hzl, hk', by simp, fun q hq => ?_⟩)⟩
   rw [List.mem_singleton.1 hq]; exact hva
  ·exact ⟨_, rfl, .inr (.inr ⟨_, a, z, M2, rfl, hmid, he, hzl, hK, hk', p, rfl, hva⟩)⟩
 ·obtain ⟨p, p2, rfl⟩ : ∃ p p2, L = [p, p2] := by
   match L, h1 with
   | [p, p2], _ => exact ⟨p, p2, rfl⟩
  obtain ⟨q, q1, q2⟩ := choose_inner hrec hx hs hb hl wM1 eM hm hP (i := 0) (st := st) (by simp) hm' (TExt.refl N) hleft (by simp) hsk Kids.nil (fun h => absurd rfl h)
  have q1' : search_finder_choose.b1 rec (some N, [p, p2], 0) 0 ⟨s, true, rl, mn, []⟩ y st = some q := q1
  rw [show [p, p2].length = 2 from rfl, forN]
  simp only [q1', Option.bind_some]
  rcases q2 with ⟨q', rfl, ho⟩ | ⟨a, z, M2, rfl, hmid, he, hzl, hK, hk', hva⟩ | ⟨a, z, M2, _, rfl, hmid, he, hzl, hK, hk', hva⟩
  ·exact ⟨_, rfl, .inl ⟨_, rfl, ho⟩⟩
  ·obtain ⟨u, u1, u2⟩ := choose_inner hrec hx hs hb hl wM1 eM hm hP (i := 1) (st := st) (by simp) hmid he hzl (by simp) hsk hk' (fun _ => ⟨r13, rfl⟩)
   have u1' : search_finder_choose.b1 rec (some N, [p, p2], 0) (0 + 1) ⟨s, true, rl, mn, [] ++ [a]⟩ z st = some u := u1
   simp only [forN]
   rw [u1']
   simp only [Option.bind_some]
   rcases u2 with ⟨q', rfl, ho⟩ | ⟨a2, z2, M3, rfl, hmid2, he2, hzl2, hK2, hk2, hva2⟩ | ⟨_, _, _, h, _⟩
   ·exact ⟨_, rfl, .inl ⟨_, rfl, ho⟩⟩
   ·refine ⟨_, rfl, .inr (.inl ⟨_, z2, M3, rfl, hmid2, he.trans he2, hzl2, hk2, by simp, fun q hq => ?_⟩)⟩
    rcases List.mem_cons.1 hq with rfl | hq
    ·exact (he2.valid hmid.si.wf (he.look (pN _ (List.mem_cons_self ..)).2)).2 hva
    ·rw [List.mem_singleton.1 hq]; exact hva2
   ·cases h
  ·exact ⟨_, rfl, .inr (.inr ⟨_, a, z, M2, rfl, hmid, he, hzl, hK, hk', p, rfl, hva⟩)⟩
theorem choose_step {B : Int} {n : Nat} {rec : PFinder → Sq → Option (PFinder × Int × Int)} (hrec : RecOk B n rec) {x : PFinder} {M : List Nd} {s : Sq} (hx : SI B x M) (hs : Gw.look s x.at_ = none) (hb : s.left.okB = true) (hl : lookV M s = true)
  {i : Nat} {y : PFinder} {M' : List Nd} {ks : List Int} (hiO : i < (optsV M s).length) (hm' : Mid B x y M M' s) (hleft : y.left.toNat < n) (hkl : ks.length ≤ 4096) (hk : Kids y false ks) :
   ∃ q, search_finder_choose.b0 ((optsV M s).map (·.1), (optsV M s).map (·.2), 0) s rec i ⟨s, false, 14, 0, ks⟩ y = some q ∧
    ((∃ q', q = .ret q' ∧ Out B x M s q') ∨ ∃ a z M2, q = .go (⟨s, false, 14, 0, ks ++ [a]⟩, z) ∧ Mid B x z M M2 s ∧ TExt M' M2 ∧ z.left.toNat < n ∧ Kids z false (ks ++ [a]) ∧ DoneC M M2 s (optsV M s)[i]) := by
 generalize hO : optsV M s = O at hiO ⊢
 have hmem : O[i] ∈ optsV M s := by rw [hO]; exact List.getElem_mem hiO
 have hf := opts_facts hmem
 have a1 : at_ (0 : Int) (O.map (·.1)) (i : Int) = O[i].1 := by simp [at_, List.getD_eq_getElem?_getD, hiO]
 have a2 : at_ (0 : Int) (O.map (·.2)) (i : Int) = O[i].2 := by simp [at_, List.getD_eq_getElem?_getD, hiO]
 have hin : inb (i : Int) (O.map (·.2)).length = true := by rw [inb_nat]; simpa using hiO
 have hlM' := hm'.ext.look hl
 generalize O[i] = o at hf a1 a2 hmem ⊢
 obtain ⟨rl, mn⟩ := o
 simp only at hf a1 a2
 unfold search_finder_choose.b0
 simp only [hin, chk, if_true, a1, a2, hm'.si.t]
 obtain ⟨N, L, e, h1, h2⟩ := Premises_rel rl mn hm'.si.wf hlM' hb
 simp only [h1, Option.bind_some]
 by_cases he : e = 0
 ·subst he
  obtain ⟨hfit, hP⟩ := h2 rfl
  have hm := fits_inb hfit
  obtain ⟨wN, lN, qN, pN⟩ := prem_wf hm'.si.wf hb hlM' hm hP
  have eN : TExt M' N := ⟨lN, qN⟩
  simp only [ne_eq, not_true_eq_false, decide_false, Bool.false_eq_true, if_false]
  have hmid0 : Mid B x ⟨some N, y.steps, y.at_, y.left, y.visits⟩ M N s := hm'.next hl eN wN rfl rfl rfl rfl rfl
  have hLl : L.length = 1 ∨ (L.length = 2 ∧ rl = 13) := by
   rcases hf with ⟨rfl, _⟩ | ⟨rfl, _⟩ | ⟨rfl, _⟩
   ·cases hP; exact .inl rfl
   ·cases hP; exact .inl rfl
   ·cases hP; exact .inr ⟨rfl, rfl⟩
  obtain ⟨o, o1, o2⟩ := choose_prems hrec hx hs hb hl hm'.si.wf hm'.ext hm hP (y := ⟨some N, y.steps, y.at_, y.left, y.visits⟩) (st := ⟨s, false, 14, 0, ks⟩) hmid0 hleft hkl hLl
  have e0 : (((L.length : Nat) : Int) - 0).toNat = L.length := by omega
  rw [e0, o1]
  simp only [Option.bind_some]
  rcases o2 with ⟨q', rfl, ho⟩ | ⟨kids, z, M2, rfl, hmid, hNM, hzl, hk', hkk, hva⟩ | ⟨kids, a, z, M2, rfl, hmid, hNM, hzl, hK, ha, p, hp, hR⟩
  ·exact ⟨_, rfl, .inl ⟨_, rfl, ho⟩⟩
  ·have hV : Valid M2 s := (hNM.valid wN (eN.look hlM')).2 (prem_valid hm'.si.wf hb hlM' hm hP fun p hp => (hNM.valid wN (pN p hp).2).1 (hva p hp))
   obtain ⟨q, q1, q2, q3⟩ := end_some (p := ⟨s, true, rl, mn, kids⟩) hx hs hmid hb hl rfl ⟨fun _ => hV, fun q => (by cases q)⟩ hk' hkk
   simp only [aft, if_true, q1, Option.bind_some]
   exact ⟨_, rfl, .inl ⟨_, rfl, fun _ => ⟨M2, q3⟩, fun h => absurd q2 h⟩⟩
  ·simp only [aft, Bool.false_eq_true, if_false]
   obtain ⟨K, hK⟩ := hK
   have hks : Kids z false (ks ++ [a]) := by
    obtain ⟨m, p, rfl, h3, h4⟩ := ha
    exact (hk.ext hK).push h3 h4
   refine ⟨_, rfl, .inr ⟨a, z, M2, rfl, hmid, eN.trans hNM, hzl, hks, ?_⟩⟩
   obtain ⟨k1, k2⟩ := lookV_iff.1 hl
   have hge := hm'.ext.eq _ k2
   refine ⟨fun q => ?_, fun q => ?_, fun q => ?_⟩
   ·simp only at q; subst q
    cases hP
    case orR1 g k =>
     simp only [List.getElem?_cons_zero, Option.some.injEq] at hp
     rw [← hp, g, hge] at hR; exact hR
   ·simp only at q; subst q
    cases hP
    case orR2 g k =>
     simp only [List.getElem?_cons_zero, Option.some.injEq] at hp
     rw [← hp, g, hge] at hR; exact hR
   ·simp only at q; subst q
    obtain ⟨hh, k5, c5⟩ : s.left.has mn = true ∧ (nd M mn).kind = 5 ∧ (nd M (nd M mn).l).kind = 5 := by
     rcases hf with h | h | h
     ·omega
     ·omega
     ·exact h.2
    have hi := k1 mn hh
    have hli := hx.wf.left hi (.inr (.inr k5))
    have n1 := hm'.ext.eq _ hi
    have n2 := hm'.ext.eq _ hli
    cases hP
    case impL h k c e1 =>
     obtain ⟨m1, w1, i1, q1, l1⟩ := put_nd hm'.si.wf e1
     simp only [List.getElem?_cons_zero, Option.some.injEq] at hp
     rw [n1, n2] at hp m1 w1 i1 l1 hNM
     refine ⟨_, inb_mono i1 hNM.len, ?_, by rw [← hp] at hR; exact hR⟩
     have hr1 := hx.wf.right hli (.inr (.inr c5))
     have hr2 := hx.wf.right hi (.inr (.inr k5))
     have := fmI w1 i1 m1
     rw [hNM.fm w1 i1, hNM.fm w1 (inb_mono hr1 (Nat.le_trans hm'.ext.len l1)), hNM.fm w1 (inb_mono hr2 (Nat.le_trans hm'.ext.len l1))]
     exact this
 ·have hNM' := Premises_err hm'.si.wf hlM' hb h1 he
  subst hNM'
  simp only [ne_eq, he, not_false_eq_true, decide_true, if_true]
  refine ⟨_, rfl, .inl ⟨_, rfl, out_err (M' := N) ⟨N, rfl, by simp, hm'.si.wf.nodup, Nat.le_refl _⟩ hm'.ext he⟩⟩
theorem choose_ok {B : Int} {n : Nat} {rec : PFinder → Sq → Option (PFinder × Int × Int)} (hrec : RecOk B n rec) {x : PFinder} {M : List Nd} {s : Sq} (hx : SI B x M) (hs : Gw.look s x.at_ = none) (hb : s.left.okB = true) (hl : lookV M s = true) (h14 : (applyV M s).1 = 14)
  {y : PFinder} (hm' : Mid B x y M M s) (hleft : y.left.toNat < n) : ∃ q, search_finder_choose.g rec y s = some q ∧ Out B x M s q := by
 have hOl : (optsV M s).length ≤ 4096 := by
  have := (choices_len (M := M) (s := s) hx.wf.len).2
  rw [choices_opts h14] at this
  simpa using this
 have main : ∀ (c i : Nat) (ks : List Int) (y : PFinder) (M' : List Nd), i + c = (optsV M s).length → Mid B x y M M' s → y.left.toNat < n → ks.length = i → Kids y false ks → (∀ (j : Nat) (o : Int × Int), j < i → (optsV M s)[j]? = some o → DoneC M M' s o) →
   ∃ o, forN (fun i (st : PStep × PFinder) => search_finder_choose.b0 ((optsV M s).map (·.1), (optsV M s).map (·.2), 0) s rec i st.1 st.2) c i (⟨s, false, 14, 0, ks⟩, y) = some o ∧
    ((∃ ks' y' M2, o = .inl (⟨s, false, 14, 0, ks'⟩, y') ∧ Mid B x y' M M2 s ∧ Kids y' false ks' ∧ ks'.length ≤ 4096 ∧ ∀ o ∈ optsV M s, DoneC M M2 s o) ∨ ∃ q, o = .inr q ∧ Out B x M s q) := by
  intro c
  induction c with
  | zero =>
   intro i ks y M' hi hm' hleft hkl hk hd
   refine ⟨_, rfl, .inl ⟨ks, y, M', rfl, hm', hk, by omega, fun o ho => ?_⟩⟩
   obtain ⟨j, hj, e⟩ := List.getElem_of_mem ho
   exact hd j o (by omega) (by rw [List.getElem?_eq_getElem hj, e])
  | succ c ih =>
   intro i ks y M' hi hm' hleft hkl hk hd
   obtain ⟨q, h1, h2⟩ := choose_step hrec hx hs hb hl (i := i) (by omega) hm' hleft (by omega) hk
   rw [forN]
   simp only [h1, Option.bind_some]
   rcases h2 with ⟨q', rfl, ho⟩ | ⟨a, z, M2, rfl, hmid, he, hzl, hk', hdo⟩
   ·exact ⟨_, rfl, .inr ⟨_, rfl, ho⟩⟩
   ·obtain ⟨o, o1, o2⟩ := ih (i + 1) (ks ++ [a]) z M2 (by omega) hmid hzl (by simp [hkl]) hk' (fun j p hj hp => by
     by_cases e : j = i
     ·subst e
      rw [List.getElem?_eq_getElem (by omega)] at hp
      rw [← Option.some.inj hp]; exact hdo
     ·exact (hd j p (by omega) hp).ext hx.wf hl hm'.ext hm'.si.wf he (List.mem_of_getElem? hp))
    exact ⟨o, by simpa using o1, o2⟩
 unfold search_finder_choose.g
 rw [hm'.si.t, choices_some hx.wf.len hl hb, choices_opts h14]
 simp only [Option.bind_some, ne_eq, not_true_eq_false, decide_false, Bool.false_eq_true, if_false]
 obtain ⟨o, o1, o2⟩ := main (optsV M s).length 0 [] y M (by omega) hm' hleft rfl Kids.nil (fun j o hj => by omega)
 have e0 : ((((optsV M s).map (·.1)).length : Int) - 0).toNat = (optsV M s).length := by simp
 change forN (fun i (st : PStep × PFinder) => search_finder_choose.b0 ((optsV M s).map (·.1), (optsV M s).map (·.2), 0) s rec i st.1 st.2) (optsV M s).length (0 : Int) (⟨s, false, 14, 0, []⟩, y) = some o at o1
 rw [e0, o1]
 simp only [Option.bind_some]
 rcases o2 with ⟨ks, y', M2, rfl, hmid, hk, hkk, hd⟩ | ⟨q, rfl, ho⟩
 ·have hR := stuck_done hx.wf hb hl h14 hmid.ext hmid.si.wf hd
  obtain ⟨q, q1, q2, q3⟩ := end_some (p := ⟨s, false, 14, 0, ks⟩) hx hs hmid hb hl rfl ⟨fun q => (by cases q), fun _ => hR⟩ hk hkk
  simp only [aft, q1, Option.bind_some]
  exact ⟨_, rfl, fun _ => ⟨M2, q3⟩, fun h => absurd q2 h⟩
 ·exact ⟨_, rfl, ho⟩
theorem apply_rule {M : List Nd} {s : Sq} (h : (applyV M s).1 ≠ 14) : (applyV M s).1 ≠ 11 ∧ (applyV M s).1 ≠ 12 ∧ (applyV M s).1 ≠ 13 := by
 unfold applyV at h ⊢
 cases h1 : firstV M s (fun r => decide (r = 1)) with
 | some j => simp
 | none =>
  simp only
  split
  ·simp
  ·cases h3 : firstV M s (fun r => decide (3 ≤ r) && decide (r ≤ 7)) with
   | some j =>
    have := (firstV_some h3).2.2
    simp only [Bool.and_eq_true, decide_eq_true_eq] at this
    simp only
    omega
   | none =>
    simp only
    split
    ·simp
    ·split
     ·simp
     ·cases h4 : firstV M s (fun r => decide (r = 10)) with
      | some j => simp
      | none => simp [h1, h3, h4, *] at h
theorem decide_ok {B : Int} {n : Nat} {rec : PFinder → Sq → Option (PFinder × Int × Int)} (hrec : RecOk B n rec) : RecOk B (n + 1) (search_finder_decide.g rec) := by
 intro x M s hx hb hl hleft
 unfold search_finder_decide.g
 cases hs : Gw.look s x.at_ with
 | some v =>
  simp only [Option.isSome_some, if_true, Option.getD_some]
  obtain ⟨i, p, h1, h2, h3⟩ := hx.c2 s v hs
  refine ⟨_, rfl, fun _ => ⟨M, hx, TExt.refl M, ⟨[], by simp, fun p hp => by cases hp⟩, Int.le_refl _, rfl, ⟨i, p, h1, h2, h3⟩, .inl rfl⟩, fun h => absurd rfl h⟩
 | none =>
  simp only [Option.isSome_none, Bool.false_eq_true, if_false]
  by_cases h0 : x.left = 0
  ·rw [if_pos (decide_eq_true h0)]
   exact ⟨_, rfl, out_err (hx.er (TExt.refl M)) (TExt.refl M) (by decide)⟩
  rw [if_neg (by simpa using h0), hx.t, Apply_some hx.wf.len hb, hl]
  have hbud := hx.bud
  simp only [if_true, Option.bind_some, ne_eq, not_true_eq_false, decide_false, Bool.false_eq_true, if_false]
  rw [wrap_small (n := x.left - 1) (by omega), wrap_small (n := x.visits + 1) (by omega)]
  have hmid : ∀ N, TExt M N → Wf N → Mid B x ⟨some N, x.steps, x.at_, x.left - 1, x.visits + 1⟩ M N s := fun N eN wN =>
   ⟨hx.next eN wN rfl rfl rfl ⟨by show 0 ≤ x.left - 1; omega, by show x.left - 1 + (x.visits + 1) = B; omega, by show x.visits ≤ x.visits + 1; omega⟩, eN, ⟨[], by simp, fun p hp => by cases hp⟩, Int.le_refl _, rfl⟩
  by_cases h14 : (applyV M s).1 = 14
  ·rw [if_pos (decide_eq_true h14)]
   obtain ⟨q, q1, q2⟩ := choose_ok hrec hx hs hb hl h14 (hmid M (TExt.refl M) hx.wf) (by show (x.left - 1).toNat < n; omega)
   rw [q1]
   exact ⟨_, rfl, q2⟩
  ·rw [if_neg (by simpa using h14)]
   obtain ⟨N, L, e, h1, h2⟩ := Premises_rel (applyV M s).1 (applyV M s).2 hx.wf hl hb
   rw [h1]
   simp only [Option.bind_some]
   by_cases he : e = 0
   ·subst he
    obtain ⟨hfit, hP⟩ := h2 rfl
    have hm := fits_inb hfit
    obtain ⟨wN, lN, qN, pN⟩ := prem_wf hx.wf hb hl hm hP
    have eN : TExt M N := ⟨lN, qN⟩
    simp only [not_true_eq_false, decide_false, Bool.false_eq_true, if_false]
    obtain ⟨o, o1, o2⟩ := decide_loop hrec hx hs hb hl hm hP (apply_rule h14) L.length 0 [] ⟨some N, x.steps, x.at_, x.left - 1, x.visits + 1⟩ N (by omega) (hmid N eN wN) (TExt.refl N) (by show (x.left - 1).toNat < n; omega) rfl Kids.nil (fun j p hj => by omega)
    have e0 : (((L.length : Nat) : Int) - 0).toNat = L.length := by omega
    change forN (fun i (st : PStep × PFinder) => search_finder_decide.b0 rec (some N, L, 0) s ((applyV M s).1, (applyV M s).2, 0) i st.1 st.2) L.length (0 : Int) (⟨s, true, (applyV M s).1, (applyV M s).2, []⟩, ⟨some N, x.steps, x.at_, x.left - 1, x.visits + 1⟩) = some o at o1
    rw [e0, o1]
    simp only [Option.bind_some]
    rcases o2 with ⟨ks, y', M2, rfl, hmid', hNM, hk, hkk, hv⟩ | ⟨q, rfl, ho⟩
    ·have hV : Valid M2 s := (hNM.valid wN (eN.look hl)).2 (prem_valid hx.wf hb hl hm hP fun p hp => (hNM.valid wN (pN p hp).2).1 (hv p hp))
     obtain ⟨q, q1, q2, q3⟩ := end_some (p := ⟨s, true, (applyV M s).1, (applyV M s).2, ks⟩) hx hs hmid' hb hl rfl ⟨fun _ => hV, fun q => (by cases q)⟩ hk hkk
     simp only [aft, q1, Option.bind_some]
     exact ⟨_, rfl, fun _ => ⟨M2, q3⟩, fun h => absurd q2 h⟩
    ·exact ⟨_, rfl, ho⟩
   ·have hNM := Premises_err hx.wf hl hb h1 he
    subst hNM
    simp only [he, not_false_eq_true, decide_true, if_true]
    exact ⟨_, rfl, out_err (M' := N) ⟨N, rfl, by simp, hx.wf.nodup, Nat.le_refl _⟩ (TExt.refl N) he⟩
theorem decide_all {B : Int} : ∀ n : Nat, RecOk B n (search_finder_decide.f n)
 | 0 => fun x M s hx _ _ hleft => by omega
 | n + 1 => decide_ok (decide_all n)
end Go.Proofs.YtjjkhjieegmphaaDoor
end
section
namespace Go.Proofs.YtjjkhjieegmphaaDoor
open Gw
set_option maxRecDepth 100000
theorem heads11 : law11_heads.f 5000 = some true := by decide +kernel
theorem run_some {k : Nat} (hk : 4097 ≤ k) {M : List Nd} {s : Sq} (bg : Int) (hw : Wf M) (hb : s.left.okB = true) :
  ∃ T F e, search_Run.f k (some M) s bg = some (T, F, e) ∧
   (e = 0 → lookV M s = true ∧ 1 ≤ bg ∧ bg ≤ 4096 ∧ ∃ M' y v, T = some M' ∧ F = ⟨(at_ PStep.z y.steps v).proved, y.steps, y.visits⟩ ∧ Ps bg ⟨some M, [], [], bg, 0⟩ y M M' s v) ∧ (e ≠ 0 → T = some M ∧ F = ⟨false, [], 0⟩) := by
 unfold search_Run.f
 simp only [formula_Table_Not_neg.f, Option.bind_some, hb, chk, if_true, show (decide ((31 : Int) = 1)) = false from rfl, Bool.false_eq_true, if_false]
 have hloop := forE_find (b := fun (x : Nat) (s : Int × PFound) => search_Run.b0 (some M) (x : Int) s.1 s.2) (p := fun (j : Nat) => decide ((M.length : Int) ≤ (j : Int))) (r := fun _ => ((31 : Int), (⟨false, [], 0⟩ : PFound))) s.left.list (0, ⟨false, [], 0⟩) (by
  intro x _
  simp only [search_Run.b0, formula_Table_Len.f, Option.map_some, Option.bind_some]
  split <;> rfl)
 rw [hloop]
 have ha : (s.left.list.all fun j => decide (j < M.length)) = !(s.left.list.find? fun (j : Nat) => decide ((M.length : Int) ≤ (j : Int))).isSome := by
  rw [← any_find, List.all_eq_not_any_not]
  congr 2
  funext j
  by_cases hj : j < M.length
  ·have : ¬ (M.length : Int) ≤ j := by omega
   simp [hj, this]
  ·have : (M.length : Int) ≤ j := by omega
   simp [hj, this]
 cases hf : s.left.list.find? fun (j : Nat) => decide ((M.length : Int) ≤ (j : Int)) with
 | some j =>
  simp only [Option.bind_some, fin]
  exact ⟨_, _, _, rfl, fun h => absurd h (by decide), fun _ => ⟨rfl, rfl⟩⟩
 | none =>
  rw [hf] at ha
  simp only [Option.bind_some, fin, formula_Table_Len.f, Option.map_some]
  by_cases hg : inb s.goal M.length = true
  ·have hlk : lookV M s = true := by unfold lookV; rw [ha, hg]; rfl
   have h0 := inb_ex hg
   have g1 : decide (s.goal < 0) = false := decide_eq_false (by omega)
   have g2 : decide ((M.length : Int) ≤ s.goal) = false := decide_eq_false (by omega)
   simp only [g1, Bool.not_false, if_true, Option.bind_some, g2, Bool.false_or, Bool.false_eq_true, if_false]
   by_cases hbg : 1 ≤ bg ∧ bg ≤ 4096
   ·have b1 : (decide (bg < 1) || decide (4096 < bg)) = false := by
     rw [Bool.or_eq_false_iff, decide_eq_false_iff_not, decide_eq_false_iff_not]; omega
    simp only [b1, Bool.false_eq_true, if_false]
    have hsi : SI bg ⟨some M, [], [], bg, 0⟩ M := { t := rfl, wf := hw, bud := ⟨(by show 0 ≤ bg; omega), (by show bg + 0 = bg; omega), hbg.2, (by simp)⟩, c1 := fun i p h => (by simp at h), c2 := fun q v h => (by simp [Gw.look] at h), seq := fun p h => (by cases h), sem := fun p h => (by cases h), kids := fun i p h => (by simp at h), kl := fun p h => (by cases h) }
    obtain ⟨⟨y, v, e⟩, h1, h2, h3⟩ := decide_all (B := bg) k _ M s hsi hb hlk (by show bg.toNat < k; omega)
    rw [h1]
    simp only [Option.bind_some]
    by_cases he : e = 0
    ·subst he
     obtain ⟨M', hps⟩ := h2 rfl
     obtain ⟨i, p, e1, e2, e3⟩ := hps.at_
     simp only at e1 e2
     subst e1
     obtain ⟨a1, a2⟩ := at_of e2
     simp only [ne_eq, not_true_eq_false, decide_false, Bool.false_eq_true, if_false, a2, if_true, hps.si.t]
     exact ⟨_, _, _, rfl, fun _ => ⟨hlk, hbg.1, hbg.2, M', y, i, hps.si.t, rfl, hps⟩, fun h => absurd rfl h⟩
    ·obtain ⟨N, n1, n2, n3, n4⟩ := (h3 he).ex
     simp only at n1
     simp only [ne_eq, he, not_false_eq_true, decide_true, if_true, n1, cutP n2 n3 n4, Option.bind_some]
     exact ⟨_, _, _, rfl, fun h => absurd h he, fun _ => ⟨rfl, rfl⟩⟩
   ·have b1 : (decide (bg < 1) || decide (4096 < bg)) = true := by
     rw [Bool.or_eq_true, decide_eq_true_eq, decide_eq_true_eq]; omega
    simp only [b1, if_true]
    exact ⟨_, _, _, rfl, fun h => absurd h (by decide), fun _ => ⟨rfl, rfl⟩⟩
  ·have hg' : ¬ (0 ≤ s.goal ∧ s.goal < M.length) := fun q => hg (by simp only [inb, Bool.and_eq_true, decide_eq_true_eq]; exact q)
   by_cases h0 : s.goal < 0
   ·simp only [h0, decide_true, Bool.not_true, Bool.false_eq_true, if_false, Option.bind_some, Bool.true_or, if_true]
    exact ⟨_, _, _, rfl, fun h => absurd h (by decide), fun _ => ⟨rfl, rfl⟩⟩
   ·have g2 : (M.length : Int) ≤ s.goal := by omega
    simp only [h0, decide_false, Bool.not_false, if_true, Option.bind_some, g2, decide_true, Bool.false_or]
    exact ⟨_, _, _, rfl, fun h => absurd h (by decide), fun _ => ⟨rfl, rfl⟩⟩
end Go.Proofs.YtjjkhjieegmphaaDoor
end
section
namespace Go.Proofs.YtjjkhjieegmphaaDoor
open Gw
set_option maxRecDepth 100000
structure Sim (x : PFinder) (u : PRRun) : Prop where
 t : u.t = x.t
 st : u.steps = x.steps
 vi : u.visits = x.visits
 bg : u.budget = x.left + x.visits
theorem end_sim {z : PFinder} {u : PRRun} {p : PStep} {r : PFinder × Int × Int} (h : search_finder_end.f z p = some r) (hs : Sim z u) : ∃ u', ref11_run_end.f u p.seq p.proved p.rule p.main p.kids = some (u', r.2.1, r.2.2) ∧ Sim r.1 u' := by
 unfold search_finder_end.f at h
 obtain ⟨h1, h2⟩ := chk_ex h
 cases h2
 unfold ref11_run_end.f
 rw [hs.st, h1, chk, if_pos rfl]
 exact ⟨_, rfl, ⟨hs.t, rfl, hs.vi, hs.bg⟩⟩
def Fu (B : Int) (n : Nat) (x : PFinder) : Prop := B + x.steps.length - x.visits + 1 < n
theorem Fu.left {B : Int} {n : Nat} {x : PFinder} {M : List Nd} (h : Fu B n x) (s : SI B x M) : x.left.toNat < n := by
 unfold Fu at h
 have := s.bud
 omega
theorem Fu.ps {B : Int} {n : Nat} {x y : PFinder} {M M' : List Nd} {s : Sq} {v : Int} (h : Fu B n x) (k : Ps B x y M M' s v) : Fu B n y := by
 unfold Fu at h ⊢
 have := k.cnt
 omega
theorem Fu.mid {B : Int} {n : Nat} {x y z : PFinder} {M M' M2 : List Nd} {s : Sq} (h : Fu B n y) (k : Mid B x y M M' s) (k2 : Mid B x z M M2 s) : Fu B n z := by
 unfold Fu at h ⊢
 have := k.cnt
 have := k2.cnt
 omega
def RecOk2 (B : Int) (n : Nat) (rec : PFinder → Sq → Option (PFinder × Int × Int)) (rec' : PRRun → Sq → Option (PRRun × Int × Int)) : Prop :=
 ∀ (x : PFinder) (M : List Nd) (s : Sq) (u : PRRun), SI B x M → s.left.okB = true → lookV M s = true → Fu B n x → Sim x u → ∃ r u', rec x s = some r ∧ Out B x M s r ∧ rec' u s = some (u', r.2.1, r.2.2) ∧ Sim r.1 u'
theorem decide_step2 {B : Int} {n : Nat} {rec : PFinder → Sq → Option (PFinder × Int × Int)} {rec' : PRRun → Sq → Option (PRRun × Int × Int)} (hrec : RecOk2 B n rec rec') {x : PFinder} {M N : List Nd} {s : Sq} {r m : Int} {L : List Sq} (hx : SI B x M) (hs : Gw.look s x.at_ = none) (hb : s.left.okB = true) (hl : lookV M s = true) (hm : inb m M.length = true) (hP : PremR M s m r N L) (hr : r ≠ 11 ∧ r ≠ 12 ∧ r ≠ 13)
  {i : Nat} {kids : List Int} {y : PFinder} {M' : List Nd} {u : PRRun} (hu : Sim y u) (hiL : i < L.length) (hm' : Mid B x y M M' s) (hNM : TExt N M') (hleft : Fu B n y) (hkl : kids.length ≤ 4096) (hk : Kids y true kids) :
   ∃ q q2, search_finder_decide.b0 rec (some N, L, 0) s (r, m, 0) i ⟨s, true, r, m, kids⟩ y = some q ∧ ref11_run_decide.b0 rec' (some N, L, 0) s (r, m) i kids u = some q2 ∧
    ((∃ q' u', q = .ret q' ∧ Out B x M s q' ∧ q2 = .ret (u', q'.2.1, q'.2.2) ∧ Sim q'.1 u') ∨ ∃ a z M2 u', q = .go (⟨s, true, r, m, kids ++ [a]⟩, z) ∧ q2 = .go (kids ++ [a], u') ∧ Sim z u' ∧ Mid B x z M M2 s ∧ TExt M' M2 ∧ Fu B n z ∧ Kids z true (kids ++ [a]) ∧ Valid M2 L[i]) := by
 obtain ⟨wN, lN, qN, pN⟩ := prem_wf hx.wf hb hl hm hP
 have eN : TExt M N := ⟨lN, qN⟩
 have hlN := eN.look hl
 have hat : at_ Sq.z L (i : Int) = L[i] := by simp [at_, List.getD_eq_getElem?_getD, hiL]
 obtain ⟨bp, lp⟩ := pN L[i] (List.getElem_mem hiL)
 have lp' := hNM.look lp
 have hbel : Below M' L[i] s := (prem_below hx.wf hb hl hm hP L[i] (List.getElem_mem hiL)).ext wN hNM lp hlN
 obtain ⟨⟨z, v, e⟩, zu, h1, ⟨h2, h3⟩, h4, h5⟩ := hrec y M' L[i] u hm'.si bp lp' hleft hu
 simp only at h4 h5
 unfold search_finder_decide.b0 ref11_run_decide.b0
 simp only [hat, h1, h4, Option.bind_some]
 by_cases he : e = 0
 ·subst he
  obtain ⟨M2, hps⟩ := h2 rfl
  simp only [ne_eq, not_true_eq_false, decide_false, Bool.false_eq_true, if_false]
  obtain ⟨a, p, hva, hap, hpp⟩ := hps.at_
  simp only at hva hap
  subst hva
  obtain ⟨a1, a2⟩ := at_of hap
  simp only [h5.st, a1, a2, chk, if_true]
  have hmid := mid_step hm' hl lp' hbel hps
  have hNM2 := hNM.trans hps.ext
  obtain ⟨K, hK, _⟩ := hps.new
  have hsem := hps.si.sem p (List.mem_of_getElem? hap)
  rw [hpp] at hsem
  have hzl : Fu B n z := hleft.ps hps
  cases hpv : p.proved with
  | false =>
   have hR : Refd M2 s := (hNM2.refd wN hlN).2 (prem_refd hx.wf hb hl hm hP (List.getElem_mem hiL) ⟨hr.1, hr.2.1⟩ (fun q => absurd q hr.2.2) ((hNM2.refd wN lp).1 (hsem.2 hpv)))
   obtain ⟨q, q1, q2, q3⟩ := end_some (p := ⟨s, false, r, m, [(a : Int)]⟩) hx hs hmid hb hl rfl ⟨fun q => (by cases q), fun _ => hR⟩ (Kids.one hap hpv) (by simp)
   obtain ⟨u', w1, w2⟩ := end_sim q1 h5
   simp only at w1
   simp only [Bool.not_false, if_true, q1, w1, Option.bind_some]
   exact ⟨_, _, rfl, rfl, .inl ⟨_, u', rfl, ⟨fun _ => ⟨M2, q3⟩, fun h => absurd q2 h⟩, rfl, w2⟩⟩
  | true =>
   simp only [Bool.not_true, Bool.false_eq_true, if_false, chk_len (n := (a : Int)) hkl, if_true]
   exact ⟨_, _, rfl, rfl, .inr ⟨_, z, M2, zu, rfl, rfl, h5, hmid, hps.ext, hzl, (hk.ext hK).push hap hpv, hsem.1 hpv⟩⟩
 ·simp only [ne_eq, he, not_false_eq_true, decide_true, if_true]
  exact ⟨_, _, rfl, rfl, .inl ⟨_, zu, rfl, out_err (h3 he) hm'.ext he, rfl, h5⟩⟩
theorem decide_loop2 {B : Int} {n : Nat} {rec : PFinder → Sq → Option (PFinder × Int × Int)} {rec' : PRRun → Sq → Option (PRRun × Int × Int)} (hrec : RecOk2 B n rec rec') {x : PFinder} {M N : List Nd} {s : Sq} {r m : Int} {L : List Sq} (hx : SI B x M) (hs : Gw.look s x.at_ = none) (hb : s.left.okB = true) (hl : lookV M s = true) (hm : inb m M.length = true) (hP : PremR M s m r N L) (hr : r ≠ 11 ∧ r ≠ 12 ∧ r ≠ 13) :
  ∀ (c i : Nat) (kids : List Int) (y : PFinder) (M' : List Nd) (u : PRRun), Sim y u → i + c = L.length → Mid B x y M M' s → TExt N M' → Fu B n y → kids.length = i → Kids y true kids → (∀ (j : Nat) (p : Sq), j < i → L[j]? = some p → Valid M' p) →
   ∃ o o', forN (fun i (st : PStep × PFinder) => search_finder_decide.b0 rec (some N, L, 0) s (r, m, 0) i st.1 st.2) c i (⟨s, true, r, m, kids⟩, y) = some o ∧ forN (fun i (st : List Int × PRRun) => ref11_run_decide.b0 rec' (some N, L, 0) s (r, m) i st.1 st.2) c i (kids, u) = some o' ∧
    ((∃ kids' y' M2 u', o = .inl (⟨s, true, r, m, kids'⟩, y') ∧ o' = .inl (kids', u') ∧ Sim y' u' ∧ Mid B x y' M M2 s ∧ TExt N M2 ∧ Kids y' true kids' ∧ kids'.length ≤ 4096 ∧ ∀ p ∈ L, Valid M2 p) ∨ ∃ q u', o = .inr q ∧ Out B x M s q ∧ o' = .inr (u', q.2.1, q.2.2) ∧ Sim q.1 u') := by
 obtain ⟨wN, lN, qN, pN⟩ := prem_wf hx.wf hb hl hm hP
 intro c
 induction c with
 | zero =>
  intro i kids y M' u hu hi hm' hNM hleft hkl hk hv
  refine ⟨_, _, rfl, rfl, .inl ⟨kids, y, M', u, rfl, rfl, hu, hm', hNM, hk, by have := prem_len hP; omega, fun p hp => ?_⟩⟩
  obtain ⟨j, hj, e⟩ := List.getElem_of_mem hp
  exact hv j p (by omega) (by rw [List.getElem?_eq_getElem hj, e])
 | succ c ih =>
  intro i kids y M' u hu hi hm' hNM hleft hkl hk hv
  have hLl := prem_len hP
  obtain ⟨q, q2, h1, h1', h2⟩ := decide_step2 hrec hx hs hb hl hm hP hr (i := i) hu (by omega) hm' hNM hleft (by omega) hk
  rw [forN, forN]
  simp only [h1, h1', Option.bind_some]
  rcases h2 with ⟨q', u', rfl, ho, rfl, hs'⟩ | ⟨a, z, M2, u', rfl, rfl, hs', hmid, he, hzl, hk', hva⟩
  ·exact ⟨_, _, rfl, rfl, .inr ⟨_, u', rfl, ho, rfl, hs'⟩⟩
  ·obtain ⟨o, o', o1, o1', o2⟩ := ih (i + 1) (kids ++ [a]) z M2 u' hs' (by omega) hmid (hNM.trans he) hzl (by simp [hkl]) hk' (fun j p hj hp => by
    by_cases e : j = i
    ·subst e
     rw [List.getElem?_eq_getElem (by omega)] at hp
     rw [← Option.some.inj hp]; exact hva
    ·exact (he.valid hm'.si.wf (hNM.look (pN p (List.mem_of_getElem? hp)).2)).2 (hv j p (by omega) hp))
   exact ⟨o, o', by simpa using o1, by simpa using o1', o2⟩
theorem choose_step2 {B : Int} {n : Nat} {rec : PFinder → Sq → Option (PFinder × Int × Int)} {rec' : PRRun → Sq → Option (PRRun × Int × Int)} (hrec : RecOk2 B n rec rec') {x : PFinder} {M : List Nd} {s : Sq} (hx : SI B x M) (hs : Gw.look s x.at_ = none) (hb : s.left.okB = true) (hl : lookV M s = true)
  {i : Nat} {y : PFinder} {M' : List Nd} {u : PRRun} {ks : List Int} (hu : Sim y u) (hiO : i < (optsV M s).length) (hm' : Mid B x y M M' s) (hleft : Fu B n y) (hkl : ks.length ≤ 4096) {q : Stp (PStep × PFinder) (PFinder × Int × Int)}
  (hq : search_finder_choose.b0 ((optsV M s).map (·.1), (optsV M s).map (·.2), 0) s rec i ⟨s, false, 14, 0, ks⟩ y = some q) :
   ∃ q2, ref11_run_choose.b0 ((optsV M s).map (·.1), (optsV M s).map (·.2)) s rec' i ks u = some q2 ∧
    ((∃ q' u', q = .ret q' ∧ q2 = .ret (u', q'.2.1, q'.2.2) ∧ Sim q'.1 u') ∨ ∃ k2 z u' st, q = .go (st, z) ∧ st.kids = k2 ∧ q2 = .go (k2, u') ∧ Sim z u') := by
 generalize hO : optsV M s = O at hiO hq ⊢
 have hmem : O[i] ∈ optsV M s := by rw [hO]; exact List.getElem_mem hiO
 have hf := opts_facts hmem
 have a1 : at_ (0 : Int) (O.map (·.1)) (i : Int) = O[i].1 := by simp [at_, List.getD_eq_getElem?_getD, hiO]
 have a2 : at_ (0 : Int) (O.map (·.2)) (i : Int) = O[i].2 := by simp [at_, List.getD_eq_getElem?_getD, hiO]
 have hin : inb (i : Int) (O.map (·.2)).length = true := by rw [inb_nat]; simpa using hiO
 have hlM' := hm'.ext.look hl
 generalize O[i] = o at hf a1 a2 hmem ⊢
 obtain ⟨rl, mn⟩ := o
 simp only at hf a1 a2
 unfold search_finder_choose.b0 at hq
 unfold ref11_run_choose.b0
 simp only [hin, chk, if_true, a1, a2, hm'.si.t] at hq
 simp only [hin, chk, if_true, a1, a2, hu.t, hm'.si.t]
 obtain ⟨N0, L0, e0, g1, g2⟩ := prem_eq (r := rl) (i := mn) hm'.si.wf hlM' hb
 obtain ⟨N, L, e, h1, h2⟩ := Premises_rel rl mn hm'.si.wf hlM' hb
 rw [h1] at g1
 simp only [Option.some.injEq, Prod.mk.injEq] at g1
 obtain ⟨rfl, rfl, rfl⟩ := g1
 simp only [h1, Option.bind_some] at hq
 simp only [g2, Option.bind_some]
 by_cases he : e = 0
 ·subst he
  obtain ⟨hfit, hP⟩ := h2 rfl
  have hm := fits_inb hfit
  obtain ⟨wN, lN, qN, pN⟩ := prem_wf hm'.si.wf hb hlM' hm hP
  have eN : TExt M' N := ⟨lN, qN⟩
  have hlN := eN.look hlM'
  simp only [ne_eq, not_true_eq_false, decide_false, Bool.false_eq_true, if_false] at hq ⊢
  have hmid0 : Mid B x ⟨some N, y.steps, y.at_, y.left, y.visits⟩ M N s := hm'.next hl eN wN rfl rfl rfl rfl rfl
  have hu0 : Sim ⟨some N, y.steps, y.at_, y.left, y.visits⟩ ⟨some N, u.steps, u.visits, u.budget⟩ := ⟨rfl, hu.st, hu.vi, hu.bg⟩
  have hLl : (∃ p, L = [p]) ∨ (∃ p p2, L = [p, p2]) := by
   rcases hf with ⟨rfl, _⟩ | ⟨rfl, _⟩ | ⟨rfl, _⟩
   ·cases hP; exact .inl ⟨_, rfl⟩
   ·cases hP; exact .inl ⟨_, rfl⟩
   ·cases hP; exact .inr ⟨_, _, rfl⟩
  have e00 : (((L.length : Nat) : Int) - 0).toNat = L.length := by omega
  rw [e00] at hq
  have hL0 : ∃ p, L[0]? = some p ∧ p ∈ L ∧ inb 0 L.length = true ∧ at_ Sq.z L 0 = p := by
   rcases hLl with ⟨p, rfl⟩ | ⟨p, p2, rfl⟩ <;> exact ⟨p, rfl, by simp, rfl, rfl⟩
  obtain ⟨p, hp0, hpm, hpi, hpa⟩ := hL0
  obtain ⟨bp, lp⟩ := pN p hpm
  have hbel : Below N p s := prem_below hm'.si.wf hb hlM' hm hP p hpm
  obtain ⟨⟨z, v, e⟩, zu, r1, ⟨r2, r3⟩, r4, r5⟩ := hrec _ N p _ hmid0.si bp lp hleft hu0
  simp only at r4 r5
  simp only [hpi, if_true, hpa, r4, Option.bind_some]
  have hb1 : ∀ st : PStep, search_finder_choose.b1 rec (some N, L, 0) 0 ⟨s, true, rl, mn, []⟩ ⟨some N, y.steps, y.at_, y.left, y.visits⟩ st = (if decide (e ≠ 0) then some (.ret (.ret (z, 0, e))) else chk (decide ((([] : List Int).length + ([v]).length) * 8 ≤ 140737488355328)) (chk (inb v z.steps.length) (if (at_ PStep.z z.steps v).proved then some (.go (⟨s, true, rl, mn, [v]⟩, z, st)) else chk (decide ((st.kids.length + ([v]).length) * 8 ≤ 140737488355328)) (some (.brk (⟨s, false, rl, mn, [v]⟩, z, ⟨st.seq, st.proved, st.rule, st.main, st.kids ++ [v]⟩)))))) := by
   intro st
   unfold search_finder_choose.b1
   simp only [hpa, r1, Option.bind_some, decide_true, if_true, List.nil_append]
  by_cases he : e = 0
  ·subst he
   obtain ⟨M2, hps⟩ := r2 rfl
   obtain ⟨a, w, hva, hap, hpp⟩ := hps.at_
   simp only at hva hap
   subst hva
   obtain ⟨b1, b2⟩ := at_of hap
   have hmid := mid_step hmid0 hl lp hbel hps
   have hzl : Fu B n z := (show Fu B n ⟨some N, y.steps, y.at_, y.left, y.visits⟩ from hleft).ps hps
   simp only [ne_eq, not_true_eq_false, decide_false, Bool.false_eq_true, if_false, chk_len (l := []) (n := (a : Int)) (by simp), b1, b2, chk, if_true] at hb1
   simp only [ne_eq, not_true_eq_false, decide_false, Bool.false_eq_true, if_false, r5.st, b1, b2, if_true]
   cases hpv : w.proved with
   | false =>
    simp only [hpv, Bool.false_eq_true, if_false, chk_len (n := (a : Int)) hkl, if_true] at hb1
    have hlp : forN (fun i (st : PStep × PFinder × PStep) => search_finder_choose.b1 rec (some N, L, 0) i st.1 st.2.1 st.2.2) L.length 0 (⟨s, true, rl, mn, []⟩, ⟨some N, y.steps, y.at_, y.left, y.visits⟩, ⟨s, false, 14, 0, ks⟩) = some (.inl (⟨s, false, rl, mn, [(a : Int)]⟩, z, ⟨s, false, 14, 0, ks ++ [(a : Int)]⟩)) := by
     obtain ⟨c, hc⟩ : ∃ c, L.length = c + 1 := by rcases hLl with ⟨p, rfl⟩ | ⟨p, p2, rfl⟩ <;> exact ⟨_, rfl⟩
     have := hb1 ⟨s, false, 14, 0, ks⟩
     rw [if_pos (chk_len (n := (a : Int)) hkl)] at this
     rw [hc, forN]
     simp only [this, Option.bind_some]
    rw [hlp] at hq
    simp only [Option.bind_some, aft, Bool.false_eq_true, if_false] at hq
    cases Option.some.inj hq
    simp only [Bool.not_false, if_true, chk_len (n := (a : Int)) hkl]
    exact ⟨_, rfl, .inr ⟨_, z, zu, _, rfl, rfl, rfl, r5⟩⟩
   | true =>
    simp only [hpv, if_true] at hb1
    simp only [Bool.not_true, Bool.false_eq_true, if_false]
    rcases hLl with ⟨p', rfl⟩ | ⟨p', p2, rfl⟩
    ·have hlp : forN (fun i (st : PStep × PFinder × PStep) => search_finder_choose.b1 rec (some N, [p'], 0) i st.1 st.2.1 st.2.2) [p'].length 0 (⟨s, true, rl, mn, []⟩, ⟨some N, y.steps, y.at_, y.left, y.visits⟩, ⟨s, false, 14, 0, ks⟩) = some (.inl (⟨s, true, rl, mn, [(a : Int)]⟩, z, ⟨s, false, 14, 0, ks⟩)) := by
      rw [show [p'].length = 0 + 1 from rfl, forN]
      simp only [hb1, Option.bind_some]
      rfl
     rw [hlp] at hq
     simp only [Option.bind_some, aft, if_true] at hq
     obtain ⟨r, q1, q2⟩ := bind_ex hq
     cases Option.some.inj q2
     obtain ⟨u', w1, w2⟩ := end_sim q1 r5
     simp only at w1
     have e1 : decide ((([p'] : List Sq).length : Int) = 1) = true := rfl
     simp only [e1, if_true, w1, Option.bind_some]
     exact ⟨_, rfl, .inl ⟨_, u', rfl, rfl, w2⟩⟩
    ·have r13 : rl = 13 := by
      rcases hf with ⟨rfl, _⟩ | ⟨rfl, _⟩ | ⟨h, _⟩
      ·cases hP
      ·cases hP
      ·exact h
     have hp2m : p2 ∈ [p', p2] := by simp
     obtain ⟨bp2, lp2⟩ := pN p2 hp2m
     have lp2' := hps.ext.look lp2
     have hbel2 : Below M2 p2 s := (prem_below hm'.si.wf hb hlM' hm hP p2 hp2m).ext wN hps.ext lp2 hlN
     obtain ⟨⟨z2, v2, e2⟩, zu2, t1, ⟨t2, t3⟩, t4, t5⟩ := hrec z M2 p2 zu hps.si bp2 lp2' hzl r5
     simp only at t4 t5
     have e1 : decide ((([p', p2] : List Sq).length : Int) = 1) = false := rfl
     have e2' : inb 1 ([p', p2] : List Sq).length = true := rfl
     have e3 : at_ Sq.z [p', p2] 1 = p2 := rfl
     simp only [e1, Bool.false_eq_true, if_false, e2', if_true, e3, t4, Option.bind_some]
     have hc1 : ∀ st : PStep, search_finder_choose.b1 rec (some N, [p', p2], 0) (0 + 1) ⟨s, true, rl, mn, [(a : Int)]⟩ z st = (if decide (e2 ≠ 0) then some (.ret (.ret (z2, 0, e2))) else chk (decide ((([(a : Int)] : List Int).length + ([v2]).length) * 8 ≤ 140737488355328)) (chk (inb v2 z2.steps.length) (if (at_ PStep.z z2.steps v2).proved then some (.go (⟨s, true, rl, mn, [(a : Int), v2]⟩, z2, st)) else (search_finder_end.f z2 ⟨s, false, rl, mn, [v2]⟩).bind fun r92 => some (.ret (.ret (r92.1, r92.2.1, r92.2.2)))))) := by
      intro st
      unfold search_finder_choose.b1
      have e4 : decide (((0 : Int) + 1) = 0) = false := rfl
      have e5 : at_ Sq.z [p', p2] (0 + 1) = p2 := rfl
      simp only [e5, t1, Option.bind_some, e4, Bool.false_eq_true, if_false, List.singleton_append]
     have hlp : forN (fun i (st : PStep × PFinder × PStep) => search_finder_choose.b1 rec (some N, [p', p2], 0) i st.1 st.2.1 st.2.2) [p', p2].length 0 (⟨s, true, rl, mn, []⟩, ⟨some N, y.steps, y.at_, y.left, y.visits⟩, ⟨s, false, 14, 0, ks⟩) = (search_finder_choose.b1 rec (some N, [p', p2], 0) (0 + 1) ⟨s, true, rl, mn, [(a : Int)]⟩ z ⟨s, false, 14, 0, ks⟩).bind fun
       | .go s' => some (.inl s')
       | .brk s' => some (.inl s')
       | .ret r => some (.inr r) := by
      rw [show [p', p2].length = 1 + 1 from rfl, forN]
      simp only [hb1, Option.bind_some]
      rw [forN]
      refine congrArg (Option.bind _) (funext fun q => ?_)
      cases q <;> rfl
     rw [hlp, hc1] at hq
     by_cases he2 : e2 = 0
     ·subst he2
      obtain ⟨M3, hps2⟩ := t2 rfl
      obtain ⟨b, w2, hvb, hbp, hpp2⟩ := hps2.at_
      simp only at hvb hbp
      subst hvb
      obtain ⟨d1, d2⟩ := at_of hbp
      have hmid2 := mid_step hmid hl lp2' hbel2 hps2
      have cl : decide ((([(a : Int)] : List Int).length + ([(b : Int)]).length) * 8 ≤ 140737488355328) = true := chk_len (by simp)
      simp only [ne_eq, not_true_eq_false, decide_false, Bool.false_eq_true, if_false, cl, d1, d2, chk, if_true] at hq
      simp only [ne_eq, not_true_eq_false, decide_false, Bool.false_eq_true, if_false, t5.st, d1, d2, if_true]
      cases hpv2 : w2.proved with
      | true =>
       simp only [hpv2, if_true, Option.bind_some, aft] at hq
       obtain ⟨r, q1, q2⟩ := bind_ex hq
       cases Option.some.inj q2
       obtain ⟨u', w1, w3⟩ := end_sim q1 t5
       simp only at w1
       simp only [if_true, w1, Option.bind_some]
       exact ⟨_, rfl, .inl ⟨_, u', rfl, rfl, w3⟩⟩
      | false =>
       simp only [hpv2, Bool.false_eq_true, if_false] at hq
       obtain ⟨o, q1, q2⟩ := bind_ex hq
       obtain ⟨q3, q4, q5⟩ := bind_ex q1
       obtain ⟨r, q6, q7⟩ := bind_ex q4
       cases Option.some.inj q7
       cases Option.some.inj q5
       simp only [aft] at q2
       cases Option.some.inj q2
       obtain ⟨u', w1, w3⟩ := end_sim q6 t5
       simp only at w1
       simp only [Bool.false_eq_true, if_false, w1, Option.bind_some]
       exact ⟨_, rfl, .inl ⟨_, u', rfl, rfl, w3⟩⟩
     ·simp only [ne_eq, he2, not_false_eq_true, decide_true, if_true, Option.bind_some, aft] at hq ⊢
      cases Option.some.inj hq
      exact ⟨_, rfl, .inl ⟨_, zu2, rfl, rfl, t5⟩⟩
  ·simp only [ne_eq, he, not_false_eq_true, decide_true, if_true] at hb1 ⊢
   have hlp : forN (fun i (st : PStep × PFinder × PStep) => search_finder_choose.b1 rec (some N, L, 0) i st.1 st.2.1 st.2.2) L.length 0 (⟨s, true, rl, mn, []⟩, ⟨some N, y.steps, y.at_, y.left, y.visits⟩, ⟨s, false, 14, 0, ks⟩) = some (.inr (.ret (z, 0, e))) := by
    obtain ⟨c, hc⟩ : ∃ c, L.length = c + 1 := by rcases hLl with ⟨p, rfl⟩ | ⟨p, p2, rfl⟩ <;> exact ⟨_, rfl⟩
    rw [hc, forN]
    simp only [hb1, Option.bind_some]
   rw [hlp] at hq
   simp only [Option.bind_some, aft] at hq
   cases Option.some.inj hq
   exact ⟨_, rfl, .inl ⟨_, zu, rfl, rfl, r5⟩⟩
 ·simp only [ne_eq, he, not_false_eq_true, decide_true, if_true] at hq ⊢
  cases Option.some.inj hq
  exact ⟨_, rfl, .inl ⟨_, _, rfl, rfl, ⟨rfl, hu.st, hu.vi, hu.bg⟩⟩⟩
end Go.Proofs.YtjjkhjieegmphaaDoor
end
section
namespace Go.Proofs.YtjjkhjieegmphaaDoor
open Gw
set_option maxRecDepth 100000
theorem choose_ok2 {B : Int} {n : Nat} {rec : PFinder → Sq → Option (PFinder × Int × Int)} {rec' : PRRun → Sq → Option (PRRun × Int × Int)} (hrec0 : RecOk B n rec) (hrec : RecOk2 B n rec rec') {x : PFinder} {M : List Nd} {s : Sq} (hx : SI B x M) (hs : Gw.look s x.at_ = none) (hb : s.left.okB = true) (hl : lookV M s = true) (h14 : (applyV M s).1 = 14)
  {y : PFinder} {u : PRRun} (hu : Sim y u) (hm' : Mid B x y M M s) (hleft : Fu B n y) : ∃ q u', search_finder_choose.g rec y s = some q ∧ Out B x M s q ∧ ref11_run_choose.g rec' u s = some (u', q.2.1, q.2.2) ∧ Sim q.1 u' := by
 have hOl : (optsV M s).length ≤ 4096 := by
  have := (choices_len (M := M) (s := s) hx.wf.len).2
  rw [choices_opts h14] at this
  simpa using this
 have main : ∀ (c i : Nat) (ks : List Int) (y : PFinder) (M' : List Nd) (u : PRRun), Sim y u → i + c = (optsV M s).length → Mid B x y M M' s → Fu B n y → ks.length = i → Kids y false ks → (∀ (j : Nat) (o : Int × Int), j < i → (optsV M s)[j]? = some o → DoneC M M' s o) →
   ∃ o o', forN (fun i (st : PStep × PFinder) => search_finder_choose.b0 ((optsV M s).map (·.1), (optsV M s).map (·.2), 0) s rec i st.1 st.2) c i (⟨s, false, 14, 0, ks⟩, y) = some o ∧ forN (fun i (st : List Int × PRRun) => ref11_run_choose.b0 ((optsV M s).map (·.1), (optsV M s).map (·.2)) s rec' i st.1 st.2) c i (ks, u) = some o' ∧
    ((∃ ks' y' M2 u', o = .inl (⟨s, false, 14, 0, ks'⟩, y') ∧ o' = .inl (ks', u') ∧ Sim y' u' ∧ Mid B x y' M M2 s ∧ Kids y' false ks' ∧ ks'.length ≤ 4096 ∧ ∀ o ∈ optsV M s, DoneC M M2 s o) ∨ ∃ q u', o = .inr q ∧ Out B x M s q ∧ o' = .inr (u', q.2.1, q.2.2) ∧ Sim q.1 u') := by
  intro c
  induction c with
  | zero =>
   intro i ks y M' u hu hi hm' hleft hkl hk hd
   refine ⟨_, _, rfl, rfl, .inl ⟨ks, y, M', u, rfl, rfl, hu, hm', hk, by omega, fun o ho => ?_⟩⟩
   obtain ⟨j, hj, e⟩ := List.getElem_of_mem ho
   exact hd j o (by omega) (by rw [List.getElem?_eq_getElem hj, e])
  | succ c ih =>
   intro i ks y M' u hu hi hm' hleft hkl hk hd
   obtain ⟨q, h1, h2⟩ := choose_step hrec0 hx hs hb hl (i := i) (by omega) hm' (hleft.left hm'.si) (by omega) hk
   obtain ⟨q2, h3, h4⟩ := choose_step2 hrec hx hs hb hl (i := i) hu (by omega) hm' hleft (by omega) h1
   rw [forN, forN]
   simp only [h1, h3, Option.bind_some]
   rcases h2 with ⟨q', rfl, ho⟩ | ⟨a, z, M2, rfl, hmid, he, hzl, hk', hdo⟩
   ·rcases h4 with ⟨q'', u', e1, rfl, hsm⟩ | ⟨k2, z, u', st, e1, _⟩
    ·cases e1
     exact ⟨_, _, rfl, rfl, .inr ⟨_, u', rfl, ho, rfl, hsm⟩⟩
    ·cases e1
   ·rcases h4 with ⟨q'', u', e1, rfl, hsm⟩ | ⟨k2, z', u', st, e1, e2, rfl, hsm⟩
    ·cases e1
    ·cases e1
     subst e2
     obtain ⟨o, o', o1, o1', o2⟩ := ih (i + 1) (ks ++ [a]) z M2 u' hsm (by omega) hmid (hleft.mid hm' hmid) (by simp [hkl]) hk' (fun j p hj hp => by
      by_cases e : j = i
      ·subst e
       rw [List.getElem?_eq_getElem (by omega)] at hp
       rw [← Option.some.inj hp]; exact hdo
      ·exact (hd j p (by omega) hp).ext hx.wf hl hm'.ext hm'.si.wf he (List.mem_of_getElem? hp))
     exact ⟨o, o', by simpa using o1, by simpa using o1', o2⟩
 unfold search_finder_choose.g ref11_run_choose.g
 rw [hu.t, hm'.si.t, choices_some hx.wf.len hl hb, docChoices hx.wf (lookV_rt hb hl), choices_opts h14]
 simp only [Option.bind_some, ne_eq, not_true_eq_false, decide_false, Bool.false_eq_true, if_false]
 obtain ⟨o, o', o1, o1', o2⟩ := main (optsV M s).length 0 [] y M u hu (by omega) hm' hleft rfl Kids.nil (fun j o hj => by omega)
 have e0 : ((((optsV M s).map (·.1)).length : Int) - 0).toNat = (optsV M s).length := by simp
 change forN (fun i (st : PStep × PFinder) => search_finder_choose.b0 ((optsV M s).map (·.1), (optsV M s).map (·.2), 0) s rec i st.1 st.2) (optsV M s).length (0 : Int) (⟨s, false, 14, 0, []⟩, y) = some o at o1
 change forN (fun i (st : List Int × PRRun) => ref11_run_choose.b0 ((optsV M s).map (·.1), (optsV M s).map (·.2)) s rec' i st.1 st.2) (optsV M s).length (0 : Int) ([], u) = some o' at o1'
 rw [e0, o1, o1']
 simp only [Option.bind_some]
 rcases o2 with ⟨ks, y', M2, u', rfl, rfl, hsm, hmid, hk, hkk, hd⟩ | ⟨q, u', rfl, ho, rfl, hsm⟩
 ·have hR := stuck_done hx.wf hb hl h14 hmid.ext hmid.si.wf hd
  obtain ⟨q, q1, q2, q3⟩ := end_some (p := ⟨s, false, 14, 0, ks⟩) hx hs hmid hb hl rfl ⟨fun q => (by cases q), fun _ => hR⟩ hk hkk
  obtain ⟨u2, w1, w2⟩ := end_sim q1 hsm
  simp only at w1
  simp only [aft, q1, w1, Option.bind_some]
  exact ⟨_, u2, rfl, ⟨fun _ => ⟨M2, q3⟩, fun h => absurd q2 h⟩, rfl, w2⟩
 ·exact ⟨_, u', rfl, ho, rfl, hsm⟩
theorem find_sim {B : Int} {k : Nat} {x : PFinder} {u : PRRun} {M : List Nd} (hu : Sim x u) (hx : SI B x M) (hk : x.steps.length < k) (s : Sq) : ref11_run_find.f k u s = some (u, (Gw.look s x.at_).getD (-1)) := by
 have hbud := hx.bud
 have key : ∀ (c i f : Nat), i + c = x.steps.length → c < f → (∀ (j : Nat) (p : PStep), j < i → x.steps[j]? = some p → p.seq ≠ s) →
   iter (fun t => ref11_run_find.b0 u s t) f (i : Int) = some (match Gw.look s x.at_ with | some v => .inr (u, v) | none => .inl (x.steps.length : Int)) := by
  intro c
  induction c with
  | zero =>
   intro i f hi hf hno
   obtain ⟨f, rfl⟩ : ∃ g, f = g + 1 := ⟨f - 1, by omega⟩
   have hnone : Gw.look s x.at_ = none := by
    cases hv : Gw.look s x.at_ with
    | none => rfl
    | some v =>
     exfalso
     obtain ⟨j, p, _, h1, h2⟩ := hx.c2 s v hv
     exact hno j p (by have := (List.getElem?_eq_some_iff.1 h1).1; omega) h1 h2
   have hi' : i = x.steps.length := by omega
   rw [iter]
   unfold ref11_run_find.b0
   simp only [hu.st, hi', Int.lt_irrefl, decide_false, Bool.false_eq_true, if_false, Option.bind_some, hnone]
  | succ c ih =>
   intro i f hi hf hno
   obtain ⟨f, rfl⟩ : ∃ g, f = g + 1 := ⟨f - 1, by omega⟩
   have hil : i < x.steps.length := by omega
   have hq : x.steps[i]? = some x.steps[i] := List.getElem?_eq_getElem hil
   obtain ⟨a1, a2⟩ := at_of hq
   have c1 : decide ((i : Int) < (x.steps.length : Int)) = true := decide_eq_true (by omega)
   have c5 : IntKind.i64.wrap ((i : Int) + 1) = ((i + 1 : Nat) : Int) := by rw [wrap_small (by omega)]; omega
   rw [iter]
   by_cases he : x.steps[i].seq = s
   ·have hv := hx.c1 i _ hq
    rw [he] at hv
    have hstep : ref11_run_find.b0 u s (i : Int) = some (.ret (u, (i : Int))) := by
     unfold ref11_run_find.b0
     simp only [hu.st, c1, if_true, chk, a1, a2, he, decide_true]
    simp only [hstep, Option.bind_some, hv]
   ·have hstep : ref11_run_find.b0 u s (i : Int) = some (.go ((i + 1 : Nat) : Int)) := by
     unfold ref11_run_find.b0
     simp only [hu.st, c1, if_true, chk, a1, a2, he, decide_false, Bool.false_eq_true, if_false, c5]
    simp only [hstep, Option.bind_some]
    exact ih (i + 1) f (by omega) (by omega) fun j p hj hp => by
     by_cases e : j = i
     ·subst e
      rw [hq] at hp
      rw [← Option.some.inj hp]; exact he
     ·exact hno j p (by omega) hp
 have h0 := key x.steps.length 0 k (by omega) hk (fun j p hj => by omega)
 unfold ref11_run_find.f
 change iter (fun t => ref11_run_find.b0 u s t) k (0 : Int) = _ at h0
 rw [h0]
 cases hv : Gw.look s x.at_ with
 | none => rfl
 | some v => rfl
theorem decide_ok2 {B : Int} {n : Nat} {rec : PFinder → Sq → Option (PFinder × Int × Int)} {rec' : PRRun → Sq → Option (PRRun × Int × Int)} (hrec0 : RecOk B n rec) (hrec : RecOk2 B n rec rec') : RecOk2 B (n + 1) (search_finder_decide.g rec) (ref11_run_decide.g rec' n) := by
 intro x M s u hx hb hl hfu hu
 have hbud := hx.bud
 have hfu' := hfu
 unfold Fu at hfu'
 unfold search_finder_decide.g ref11_run_decide.g
 rw [find_sim hu hx (by omega) s]
 cases hs : Gw.look s x.at_ with
 | some v =>
  obtain ⟨i, p, h1, h2, h3⟩ := hx.c2 s v hs
  have h0 : decide ((0 : Int) ≤ v) = true := decide_eq_true (by omega)
  simp only [Option.isSome_some, if_true, Option.getD_some, Option.bind_some, h0]
  exact ⟨_, u, rfl, ⟨fun _ => ⟨M, hx, TExt.refl M, ⟨[], by simp, fun p hp => by cases hp⟩, Int.le_refl _, rfl, ⟨i, p, h1, h2, h3⟩, .inl rfl⟩, fun h => absurd rfl h⟩, rfl, hu⟩
 | none =>
  have g0 : decide ((0 : Int) ≤ -1) = false := rfl
  simp only [Option.isSome_none, Bool.false_eq_true, if_false, Option.getD_none, Option.bind_some, g0]
  have hbg := hu.bg
  have hvi := hu.vi
  by_cases h0 : x.left = 0
  ·have g1 : decide (u.budget ≤ u.visits) = true := decide_eq_true (by omega)
   simp only [h0, decide_true, g1, if_true]
   exact ⟨_, u, rfl, out_err (hx.er (TExt.refl M)) (TExt.refl M) (by decide), rfl, hu⟩
  have g1 : decide (u.budget ≤ u.visits) = false := decide_eq_false (by omega)
  rw [if_neg (by simpa using h0), hu.t, hx.t, Apply_some hx.wf.len hb, hl, docApply hx.wf (lookV_rt hb hl)]
  simp only [g1, if_true, Option.bind_some, ne_eq, not_true_eq_false, decide_false, Bool.false_eq_true, if_false]
  rw [wrap_small (n := x.left - 1) (by omega), wrap_small (n := x.visits + 1) (by omega), wrap_small (n := u.visits + 1) (by omega)]
  have hmid : ∀ N, TExt M N → Wf N → Mid B x ⟨some N, x.steps, x.at_, x.left - 1, x.visits + 1⟩ M N s := fun N eN wN =>
   ⟨hx.next eN wN rfl rfl rfl ⟨by show 0 ≤ x.left - 1; omega, by show x.left - 1 + (x.visits + 1) = B; omega, by show x.visits ≤ x.visits + 1; omega⟩, eN, ⟨[], by simp, fun p hp => by cases hp⟩, Int.le_refl _, rfl⟩
  have hsim : ∀ N : List Nd, Sim ⟨some N, x.steps, x.at_, x.left - 1, x.visits + 1⟩ ⟨some N, u.steps, u.visits + 1, u.budget⟩ := fun N => ⟨rfl, hu.st, by show u.visits + 1 = x.visits + 1; omega, by show u.budget = x.left - 1 + (x.visits + 1); omega⟩
  have hfuN : ∀ N : List Nd, Fu B n ⟨some N, x.steps, x.at_, x.left - 1, x.visits + 1⟩ := fun N => by
   unfold Fu
   show B + x.steps.length - (x.visits + 1) + 1 < n
   omega
  by_cases h14 : (applyV M s).1 = 14
  ·have g2 : decide ((applyV M s).1 = 14) = true := decide_eq_true h14
   simp only [g2, if_true]
   obtain ⟨q, u', q1, q2, q3, q4⟩ := choose_ok2 hrec0 hrec hx hs hb hl h14 (hsim M) (hmid M (TExt.refl M) hx.wf) (hfuN M)
   rw [q1, q3]
   exact ⟨_, u', rfl, q2, rfl, q4⟩
  ·have g2 : decide ((applyV M s).1 = 14) = false := decide_eq_false h14
   simp only [g2, Bool.false_eq_true, if_false]
   obtain ⟨N0, L0, e0, f1, f2⟩ := prem_eq (r := (applyV M s).1) (i := (applyV M s).2) hx.wf hl hb
   obtain ⟨N, L, e, h1, h2⟩ := Premises_rel (applyV M s).1 (applyV M s).2 hx.wf hl hb
   rw [h1] at f1
   simp only [Option.some.injEq, Prod.mk.injEq] at f1
   obtain ⟨rfl, rfl, rfl⟩ := f1
   rw [h1, f2]
   simp only [Option.bind_some]
   by_cases he : e = 0
   ·subst he
    obtain ⟨hfit, hP⟩ := h2 rfl
    have hm := fits_inb hfit
    obtain ⟨wN, lN, qN, pN⟩ := prem_wf hx.wf hb hl hm hP
    have eN : TExt M N := ⟨lN, qN⟩
    simp only [not_true_eq_false, decide_false, Bool.false_eq_true, if_false]
    obtain ⟨o, o', o1, o1', o2⟩ := decide_loop2 hrec hx hs hb hl hm hP (apply_rule h14) L.length 0 [] ⟨some N, x.steps, x.at_, x.left - 1, x.visits + 1⟩ N _ (hsim N) (by omega) (hmid N eN wN) (TExt.refl N) (hfuN N) rfl Kids.nil (fun j p hj => by omega)
    have e0 : (((L.length : Nat) : Int) - 0).toNat = L.length := by omega
    change forN (fun i (st : PStep × PFinder) => search_finder_decide.b0 rec (some N, L, 0) s ((applyV M s).1, (applyV M s).2, 0) i st.1 st.2) L.length (0 : Int) (⟨s, true, (applyV M s).1, (applyV M s).2, []⟩, ⟨some N, x.steps, x.at_, x.left - 1, x.visits + 1⟩) = some o at o1
    change forN (fun i (st : List Int × PRRun) => ref11_run_decide.b0 rec' (some N, L, 0) s ((applyV M s).1, (applyV M s).2) i st.1 st.2) L.length (0 : Int) ([], ⟨some N, u.steps, u.visits + 1, u.budget⟩) = some o' at o1'
    have o1'' : forN (fun i (st : List Int × PRRun) => ref11_run_decide.b0 rec' (some N, L, 0) s (applyV M s) i st.1 st.2) L.length (0 : Int) ([], ⟨some N, u.steps, u.visits + 1, u.budget⟩) = some o' := o1'
    rw [e0, o1, o1'']
    simp only [Option.bind_some]
    rcases o2 with ⟨ks, y', M2, u', rfl, rfl, hsm, hmid', hNM, hk, hkk, hv⟩ | ⟨q, u', rfl, ho, rfl, hsm⟩
    ·have hV : Valid M2 s := (hNM.valid wN (eN.look hl)).2 (prem_valid hx.wf hb hl hm hP fun p hp => (hNM.valid wN (pN p hp).2).1 (hv p hp))
     obtain ⟨q, q1, q2, q3⟩ := end_some (p := ⟨s, true, (applyV M s).1, (applyV M s).2, ks⟩) hx hs hmid' hb hl rfl ⟨fun _ => hV, fun q => (by cases q)⟩ hk hkk
     obtain ⟨u2, w1, w2⟩ := end_sim q1 hsm
     simp only at w1
     simp only [aft, q1, w1, Option.bind_some]
     exact ⟨_, u2, rfl, ⟨fun _ => ⟨M2, q3⟩, fun h => absurd q2 h⟩, rfl, w2⟩
    ·exact ⟨_, u', rfl, ho, rfl, hsm⟩
   ·have hNM := Premises_err hx.wf hl hb h1 he
    subst hNM
    simp only [he, not_false_eq_true, decide_true, if_true]
    exact ⟨_, _, rfl, out_err (M' := N) ⟨N, rfl, by simp, hx.wf.nodup, Nat.le_refl _⟩ (TExt.refl N) he, rfl, hsim N⟩
theorem decide_all2 {B : Int} : ∀ n : Nat, RecOk2 B n (search_finder_decide.f n) (ref11_run_decide.f n)
 | 0 => fun x M s u hx _ _ hfu _ => by
  unfold Fu at hfu
  have := hx.bud
  omega
 | n + 1 => decide_ok2 (decide_all n) (decide_all2 n)
end Go.Proofs.YtjjkhjieegmphaaDoor
end
section
namespace Go.Proofs.YtjjkhjieegmphaaDoor
open Gw
set_option maxRecDepth 100000
theorem run_eq {k : Nat} {M : List Nd} {s : Sq} (bg : Int) (hb : s.left.okB = true) :
  search_Run.f k (some M) s bg = if lookV M s then (if decide (bg < 1) || decide (4096 < bg) then some (some M, ⟨false, [], 0⟩, 2) else (search_finder_decide.f k (⟨some M, [], [], bg, 0⟩ : PFinder) s).bind fun r45 => if decide (r45.2.2 ≠ 0) then (formula_Table_Cut.f r45.1.t (M.length : Int)).bind fun r53 => some (r53.1, (⟨false, ([] : List PStep), 0⟩ : PFound), r45.2.2) else chk (inb r45.2.1 r45.1.steps.length) (some (r45.1.t, (⟨(at_ PStep.z r45.1.steps r45.2.1).proved, r45.1.steps, r45.1.visits⟩ : PFound), 0))) else some (some M, ⟨false, [], 0⟩, 31) := by
 unfold search_Run.f
 simp only [formula_Table_Not_neg.f, Option.bind_some, hb, chk, if_true, show (decide ((31 : Int) = 1)) = false from rfl, Bool.false_eq_true, if_false]
 have hloop := forE_find (b := fun (x : Nat) (s : Int × PFound) => search_Run.b0 (some M) (x : Int) s.1 s.2) (p := fun (j : Nat) => decide ((M.length : Int) ≤ (j : Int))) (r := fun _ => ((31 : Int), (⟨false, [], 0⟩ : PFound))) s.left.list (0, ⟨false, [], 0⟩) (by
  intro x _
  simp only [search_Run.b0, formula_Table_Len.f, Option.map_some, Option.bind_some]
  split <;> rfl)
 rw [hloop]
 have ha : (s.left.list.all fun j => decide (j < M.length)) = !(s.left.list.find? fun (j : Nat) => decide ((M.length : Int) ≤ (j : Int))).isSome := by
  rw [← any_find, List.all_eq_not_any_not]
  congr 2
  funext j
  by_cases hj : j < M.length
  ·have : ¬ (M.length : Int) ≤ j := by omega
   simp [hj, this]
  ·have : (M.length : Int) ≤ j := by omega
   simp [hj, this]
 cases hf : s.left.list.find? fun (j : Nat) => decide ((M.length : Int) ≤ (j : Int)) with
 | some j =>
  rw [hf] at ha
  have hlk : lookV M s = false := by unfold lookV; rw [ha]; rfl
  simp only [Option.bind_some, fin, hlk, Bool.false_eq_true, if_false]
 | none =>
  rw [hf] at ha
  simp only [Option.bind_some, fin, formula_Table_Len.f, Option.map_some]
  by_cases hg : inb s.goal M.length = true
  ·have hlk : lookV M s = true := by unfold lookV; rw [ha, hg]; rfl
   have h0 := inb_ex hg
   have g1 : decide (s.goal < 0) = false := decide_eq_false (by omega)
   have g2 : decide ((M.length : Int) ≤ s.goal) = false := decide_eq_false (by omega)
   simp only [g1, Bool.not_false, if_true, Option.bind_some, g2, Bool.false_or, Bool.false_eq_true, if_false, hlk]
  ·have hg' : ¬ (0 ≤ s.goal ∧ s.goal < M.length) := fun q => hg (by simp only [inb, Bool.and_eq_true, decide_eq_true_eq]; exact q)
   have hlk : lookV M s = false := by unfold lookV; rw [ha, Bool.eq_false_iff.2 hg]; rfl
   simp only [hlk, Bool.false_eq_true, if_false]
   by_cases h0 : s.goal < 0
   ·simp only [h0, decide_true, Bool.not_true, Bool.false_eq_true, if_false, Option.bind_some, Bool.true_or, if_true]
   ·have g2 : (M.length : Int) ≤ s.goal := by omega
    simp only [h0, decide_false, Bool.not_false, if_true, Option.bind_some, g2, decide_true, Bool.false_or]
theorem run_same {k : Nat} (hk : 4098 ≤ k) {M : List Nd} {s : Sq} (bg : Int) (hw : Wf M) (hb : s.left.okB = true) : ref11_Run.f k (some M) s bg = search_Run.f k (some M) s bg := by
 rw [run_eq bg hb]
 unfold ref11_Run.f
 rw [docRight hb]
 simp only [Option.bind_some]
 cases hl : lookV M s with
 | false => simp
 | true =>
  simp only [Bool.not_true, Bool.false_eq_true, if_false, if_true]
  by_cases hbg : 1 ≤ bg ∧ bg ≤ 4096
  ·have b1 : (decide (bg < 1) || decide (4096 < bg)) = false := by
    rw [Bool.or_eq_false_iff, decide_eq_false_iff_not, decide_eq_false_iff_not]; omega
   simp only [b1, Bool.false_eq_true, if_false, Option.isSome_some, Option.getD_some]
   have hsi : SI bg ⟨some M, [], [], bg, 0⟩ M := { t := rfl, wf := hw, bud := ⟨(by show 0 ≤ bg; omega), (by show bg + 0 = bg; omega), hbg.2, (by simp)⟩, c1 := fun i p h => (by simp at h), c2 := fun q v h => (by simp [Gw.look] at h), seq := fun p h => (by cases h), sem := fun p h => (by cases h), kids := fun i p h => (by simp at h), kl := fun p h => (by cases h) }
   obtain ⟨⟨y, v, e⟩, ⟨t, st, vi, bd⟩, h1, ⟨h2, h3⟩, h4, h5⟩ := decide_all2 (B := bg) k ⟨some M, [], [], bg, 0⟩ M s ⟨some M, [], 0, bg⟩ hsi hb hl (by unfold Fu; show bg + (0 : Nat) - 0 + 1 < k; omega) ⟨rfl, rfl, rfl, by show bg = bg + 0; omega⟩
   simp only at h4
   rw [h1, h4]
   have e1 := h5.t
   have e2 := h5.st
   have e3 := h5.vi
   simp only at e1 e2 e3
   subst e1 e2 e3
   simp only [chk, if_true, Option.bind_some]
   by_cases he : e = 0
   ·subst he
    simp only [ne_eq, not_true_eq_false, decide_false, Bool.false_eq_true, if_false]
   ·obtain ⟨N, n1, n2, n3, n4⟩ := (h3 he).ex
    simp only at n1
    simp only [ne_eq, he, not_false_eq_true, decide_true, if_true, n1, cutP n2 n3 n4, cutD n2 n4, Option.bind_some]
  ·have b1 : (decide (bg < 1) || decide (4096 < bg)) = true := by
    rw [Bool.or_eq_true, decide_eq_true_eq, decide_eq_true_eq]; omega
   simp only [b1, if_true]
theorem steps_self (l : List PStep) : ref11_Steps.f l l = some true := by
 unfold ref11_Steps.f
 have h := forN_go (b := fun i s => ref11_Steps.b0 l l i) (x := ()) l.length 0 (fun j _ hj => by
  have hin : inb (j : Int) l.length = true := by rw [inb_nat]; simpa using hj
  unfold ref11_Steps.b0
  simp [hin, chk, ints_self])
 change forN (fun i s => ref11_Steps.b0 l l i) l.length (0 : Int) () = _ at h
 have e0 : ((l.length : Int) - 0).toNat = l.length := by omega
 rw [e0, h]
 simp [aft]
theorem same_found (x : PFound) : ref11_Same.f x x = some true := by
 unfold ref11_Same.f
 simp [steps_self]
def Shape (n : Nat) (l : List PStep) : Prop := l.length = n ∧ ∀ p ∈ l, p.kids.length ≤ 4096
theorem set_shape {n : Nat} {l : List PStep} (h : Shape n l) (i : Nat) (p : PStep) (hp : p.kids.length ≤ 4096) : Shape n (l.set i p) :=
 ⟨by rw [List.length_set]; exact h.1, fun q hq => by
  rcases List.mem_or_eq_of_mem_set hq with hq | hq
  ·exact h.2 q hq
  ·rw [hq]; exact hp⟩
theorem at_shape {n : Nat} {l : List PStep} (h : Shape n l) {i : Nat} (hi : i < n) : (at_ PStep.z l (i : Int)).kids.length ≤ 4096 ∧ inb (i : Int) l.length = true := by
 have hl : i < l.length := by have := h.1; omega
 obtain ⟨a1, a2⟩ := at_of (List.getElem?_eq_getElem hl)
 rw [a1]
 exact ⟨h.2 _ (List.getElem_mem hl), a2⟩
theorem at_set {l : List PStep} {i : Nat} (hi : i < l.length) (p : PStep) : at_ PStep.z (l.set i p) (i : Int) = p := by
 refine (at_of (p := p) ?_).1
 rw [List.getElem?_set_self hi]
theorem kids_loop {n i : Nat} (hi : i < n) : ∀ (c j f : Nat) (l : List PStep), Shape n l → j + c = (at_ PStep.z l (i : Int)).kids.length → c < f → ∃ j' l', iter (fun s => law11_SearchRuns.b1 (i : Int) s.1 s.2) f ((j : Int), l) = some (.inl (j', l')) ∧ Shape n l' := by
 intro c
 induction c with
 | zero =>
  intro j f l hs hj hf
  obtain ⟨f, rfl⟩ : ∃ g, f = g + 1 := ⟨f - 1, by omega⟩
  obtain ⟨a1, a2⟩ := at_shape hs hi
  have hj' : j = (at_ PStep.z l (i : Int)).kids.length := by omega
  refine ⟨((at_ PStep.z l (i : Int)).kids.length : Int), l, ?_, hs⟩
  rw [iter]
  unfold law11_SearchRuns.b1
  simp only [a2, chk, if_true, hj', Int.lt_irrefl, decide_false, Bool.false_eq_true, if_false, Option.bind_some]
 | succ c ih =>
  intro j f l hs hj hf
  obtain ⟨f, rfl⟩ : ∃ g, f = g + 1 := ⟨f - 1, by omega⟩
  obtain ⟨a1, a2⟩ := at_shape hs hi
  have c1 : decide ((j : Int) < ((at_ PStep.z l (i : Int)).kids.length : Int)) = true := decide_eq_true (by omega)
  have c2 : inb (j : Int) (at_ PStep.z l (i : Int)).kids.length = true := by rw [inb_nat]; exact decide_eq_true (by omega)
  have c5 : IntKind.i64.wrap ((j : Int) + 1) = ((j + 1 : Nat) : Int) := by rw [wrap_small (by omega)]; omega
  have hil : i < l.length := by have := hs.1; omega
  have hstep : law11_SearchRuns.b1 (i : Int) (j : Int) l = some (.go (((j + 1 : Nat) : Int), setKids l (i : Int) (((at_ PStep.z l (i : Int)).kids).set ((j : Int)).toNat (-7)))) := by
   unfold law11_SearchRuns.b1
   simp only [a2, chk, if_true, c1, c2, c5]
  rw [iter]
  simp only [hstep, Option.bind_some]
  refine ih (j + 1) f _ (set_shape hs _ _ (by simpa using a1)) ?_ (by omega)
  unfold setKids
  rw [Int.toNat_natCast, at_set hil]
  simp only [List.length_set]
  omega
theorem main_loop {k n : Nat} (hk : 4097 ≤ k) (hn : n ≤ 4096) : ∀ (c i f : Nat) (l : List PStep), Shape n l → i + c = n → c < f → ∃ j' l', iter (fun s => law11_SearchRuns.b0 k s.1 s.2) f ((i : Int), l) = some (.inl (j', l')) := by
 intro c
 induction c with
 | zero =>
  intro i f l hs hi hf
  obtain ⟨f, rfl⟩ : ∃ g, f = g + 1 := ⟨f - 1, by omega⟩
  have hi' : i = l.length := by have := hs.1; omega
  refine ⟨(l.length : Int), l, ?_⟩
  rw [iter]
  unfold law11_SearchRuns.b0
  simp only [hi', Int.lt_irrefl, decide_false, Bool.false_eq_true, if_false, Option.bind_some]
 | succ c ih =>
  intro i f l hs hi hf
  obtain ⟨f, rfl⟩ : ∃ g, f = g + 1 := ⟨f - 1, by omega⟩
  have hil : i < n := by omega
  obtain ⟨a1, a2⟩ := at_shape hs hil
  obtain ⟨j', l', h1, h2⟩ := kids_loop hil (at_ PStep.z l (i : Int)).kids.length 0 k l hs (by omega) (by omega)
  change iter (fun s => law11_SearchRuns.b1 (i : Int) s.1 s.2) k ((0 : Int), l) = _ at h1
  obtain ⟨b1, b2⟩ := at_shape h2 hil
  have c1 : decide ((i : Int) < (l.length : Int)) = true := decide_eq_true (by have := hs.1; omega)
  have c5 : IntKind.i64.wrap ((i : Int) + 1) = ((i + 1 : Nat) : Int) := by rw [wrap_small (by omega)]; omega
  have hstep : law11_SearchRuns.b0 k (i : Int) l = some (.go (((i + 1 : Nat) : Int), setMain l' (i : Int) (-7))) := by
   unfold law11_SearchRuns.b0
   rw [c1, if_pos rfl, h1]
   simp only [Option.bind_some, aft, b2, chk, if_true, c5]
  rw [iter]
  simp only [hstep, Option.bind_some]
  exact ih (i + 1) f _ (set_shape h2 _ _ b1) (by omega) (by omega)
theorem SearchRuns_true {k : Nat} (hk0 : 4098 ≤ k) (hh : law11_heads.f k = some true) {rows : List Nd} {s : Sq} {bg : Int} (hn : ∀ n ∈ rows, n.name.size < 9223372036854775808) (hl : rows.length * 40 ≤ 140737488355328) (hb : s.left.okB = true) : law11_SearchRuns.f k rows s bg = some true := by
 unfold law11_SearchRuns.f
 rw [hh]
 rcases both_some hn hl with h | ⟨h, hw⟩
 ·rw [h]; simp
 ·rw [h]
  obtain ⟨T, F, e, h1, h2, h3⟩ := run_some (k := k) (s := s) (by omega) bg hw hb
  obtain ⟨M', rfl, wM', hF⟩ : ∃ M', T = some M' ∧ Wf M' ∧ (F.steps.length ≤ 4096 ∧ Shape F.steps.length F.steps) := by
   by_cases he : e = 0
   ·obtain ⟨_, hb1, hb2, M', y, v, rfl, rfl, hps⟩ := h2 he
    have hbud := hps.si.bud
    exact ⟨M', rfl, hps.si.wf, by show y.steps.length ≤ 4096; omega, rfl, hps.si.kl⟩
   ·obtain ⟨rfl, rfl⟩ := h3 he
    exact ⟨rows, rfl, hw, by simp, rfl, fun p hp => by cases hp⟩
  obtain ⟨T2, F2, e2, h4, h5, h6⟩ := run_some (k := k) (s := s) (by omega) bg wM' hb
  obtain ⟨M2, rfl⟩ : ∃ M2, T2 = some M2 := by
   by_cases he : e2 = 0
   ·obtain ⟨_, hb1, hb2, M', y, v, rfl, rfl, hps⟩ := h5 he
    exact ⟨M', rfl⟩
   ·obtain ⟨rfl, rfl⟩ := h6 he
    exact ⟨_, rfl⟩
  obtain ⟨j', l', m1⟩ := main_loop (k := k) (by omega) hF.1 F.steps.length 0 k F.steps hF.2 (by omega) (by omega)
  change iter (fun s => law11_SearchRuns.b0 k s.1 s.2) k ((0 : Int), F.steps) = _ at m1
  simp only [Option.bind_some, Bool.not_true, Bool.false_eq_true, if_false, h1, run_same hk0 bg hw hb, same_found, like_self, ne_eq, not_true_eq_false, decide_false, Bool.or_self, Bool.not_false, if_true, m1, aft, h4, run_same hk0 bg wM' hb, decide_true, Bool.and_self]
end Go.Proofs.YtjjkhjieegmphaaDoor
end
section
namespace Go.Proofs.YtjjkhjieegmphaaDoor
open Gw Go.ChangeShapes Go.WideShapes Go.ChangeAt Go.RowKit
set_option maxRecDepth 100000
theorem ownKnob_none : ownKnob PP.godebug = none := by kernel_rfl
theorem laidOut_PP : laidOutB PP = true := by kernel_rfl
theorem gTab : PP.globalNamed "math/bits.deBruijn64tab" = some 0 := by kernel_rfl
theorem trodAll_stays {H : Type} {enc : TypeId × Value → H} {W W' : World} {sp : Nat → Bool} : ∀ {ts : List TypeId} {vs : List Value} {ds : List (DataW H)} {ps : List MemPlace}, (∀ t ∈ ts, PP.readableRec t = true ∧ t < PP.types.size) →
  DataW.TrodAll enc PP W 0 (fun _ => true) true ts vs ds ps → (∀ p ∈ ps, W.sameAt W' p) → (∀ p ∈ ps, sp p.block = true) → DataW.TrodAll enc PP W' 0 sp true ts vs ds ps
 | [], vs, ds, ps, _, h, _, _ => by
  obtain ⟨rfl, rfl, rfl⟩ := trodAll_nil h
  exact trodAll_mk0
 | t :: ts, vs, ds, ps, hr, h, h1, h2 => by
  obtain ⟨v, vs, d, ds, p, q, rfl, rfl, rfl, h0, h3⟩ := trodAll_cons h
  have ht := hr t (by simp)
  exact trodAll_cons_mk (WideElems.Trod_stays laidOut_PP ht.1 ht.2 h0 (fun x hx => h1 x (by simp [hx])) (fun x hx => h2 x (by simp [hx])))
   (trodAll_stays (fun t ht => hr t (by simp [ht])) h3 (fun x hx => h1 x (by simp [hx])) (fun x hx => h2 x (by simp [hx])))
def oth0 : Oth := ⟨fun _ => False, [], fun _ h => by cases h⟩
def tzs : List Int := Lib.deBruijn64tab.map fun (z : Nat) => (z : Int)
theorem tz_of {W : World} (h : laidMetH PP Rows.ruleNobodyRow.laid W) : Tz W := by
 have ht : Lib.TabIs PP W "math/bits.deBruijn64tab" .u8 tzs := Lib.tabIs_of_head (rest := []) gTab (t := T_64_uint8) (e := T_uint8) (n := 64) (by kernel_rfl) ar_64_uint8.1 (by kernel_rfl) (by kernel_rfl) (by kernel_rfl) h
 intro i v hv
 have hi : i < Lib.deBruijn64tab.length := by
  have := (List.getElem?_eq_some_iff.1 hv).1
  simpa using this
 have h1 := ht.cell gTab i (by simpa [tzs] using hi)
 rw [List.getElem?_map, List.getElem?_eq_getElem hi] at hv
 cases hv
 rw [Nat.zero_add, h1]
 simp [tzs, List.getD, hi]
section
variable {P : Program} {W : World} {b t : Nat} {k : IntKind} {v : Value}
theorem cell_int (ht : P.underlying t = some (.int k)) (h : Cell.okWide P W .any b t v) : ∃ n, v = .int k n ∧ k.has n := by
 simp only [Cell.okWide, ht] at h
 cases v <;> simp_all [Cell.ok]
theorem agg_of {n : Nat} {ts : List TypeId} (ht : AggT P t n) (h : Value.okWide P W .any b t v) (hts : P.cellTypes P.depth t = some ts) (hc : P.cellsOf t = n) (hn : ts.length = n) :
  ∃ cs : List Value, v = .agg cs.toArray ∧ cs.length = n ∧ ∀ (i : Nat) (v : Value) (u : TypeId), cs[i]? = some v → ts[i]? = some u → Cell.okWide P W .any b u v := by
 obtain ⟨⟨d, ht, hk⟩, -⟩ := ht
 have h : ∃ cs, v = .agg cs ∧ cs.size = P.cellsOf t ∧ Row.okWide P W .any b t cs := by
  unfold Value.okWide at h
  rw [ht] at h
  cases d <;> first | exact h | cases hk
 obtain ⟨cs, rfl, hsz, ts', hts', -, hcell⟩ := h
 obtain rfl := Option.some.inj (hts'.symm.trans hts)
 refine ⟨cs.toList, rfl, by simpa using hsz.trans hc, fun i v u hv hu => ?_⟩
 obtain ⟨u', hu', h1⟩ := hcell i v (by simpa using hv)
 rw [Nat.mod_eq_of_lt (List.getElem?_eq_some_iff.1 hu).1] at hu'
 rw [hu'] at hu; cases hu
 exact h1
theorem int_of (ht : P.underlying t = some (.int k)) (h : Value.okWide P W .any b t v) : ∃ n, v = .int k n ∧ k.has n := by
 unfold Value.okWide at h
 rw [ht] at h
 exact cell_int ht h
end
def intOf : Value → Int | .int _ n => n | _ => 0
def ts_Sq : List TypeId := List.replicate 16 T_uint64 ++ [T_int]
theorem ct_Sq : PP.cellTypes PP.depth T_Sq = some ts_Sq := by kernel_rfl
theorem co_Sq : PP.cellsOf T_Sq = 17 := by kernel_rfl
def bitsOf (l : List Value) : Bits := Vector.ofFn fun i : Fin 16 => intOf (l.getD i .nilFunc)
theorem sq_of {W : World} {b : Nat} {v : Value} (h : Value.okWide PP W .any b T_Sq v) : ∃ a : Sq, v = .agg (Sq.C a).toArray ∧ a.left.okB = true ∧ IntKind.i64.has a.goal := by
 obtain ⟨cs, rfl, hl, hc⟩ := agg_of (P := PP) (t := T_Sq) (ts := ts_Sq) ag_Sq h ct_Sq co_Sq rfl
 have hl : cs.length = 17 := hl
 have h16 : ∀ i, i < 16 → ∃ n, cs[i]? = some (.int .u64 n) ∧ IntKind.u64.has n := fun i hi => by
  obtain ⟨n, e, hn⟩ := cell_int un_uint64 (hc i cs[i] T_uint64 (List.getElem?_eq_getElem (by omega)) (by rw [ts_Sq, List.getElem?_append_left (by simpa using hi), List.getElem?_replicate, if_pos hi]))
  exact ⟨n, by rw [List.getElem?_eq_getElem (by omega), e], hn⟩
 obtain ⟨g, e, hg⟩ := cell_int un_int (hc 16 cs[16] T_int (List.getElem?_eq_getElem (by omega)) rfl)
 refine ⟨⟨bitsOf cs, g⟩, ?_, ?_, hg⟩
 ·congr 2
  refine List.ext_getElem? fun i => ?_
  by_cases hi : i < 16
  ·obtain ⟨n, hn, _⟩ := h16 i hi
   rw [hn, Sq.C, List.getElem?_append_left (by rw [Bits.len]; exact hi), Bits.get _ _ hi]
   simp [bitsOf, hn, intOf, List.getD]
  ·by_cases h2 : i = 16
   ·subst h2; rw [Sq.get_goal, List.getElem?_eq_getElem (by omega), e]
   ·rw [List.getElem?_eq_none (by omega), List.getElem?_eq_none (by rw [Sq.len]; omega)]
 ·unfold Bits.okB
  rw [List.all_eq_true]
  intro x hx
  obtain ⟨i, hi⟩ := List.getElem?_of_mem hx
  have hi16 : i < 16 := by have := (List.getElem?_eq_some_iff.1 hi).1; simpa using this
  obtain ⟨n, hn, hh⟩ := h16 i hi16
  have hxn : x = n := by
   have := (List.getElem?_eq_some_iff.1 hi).2
   rw [← this]; simp [bitsOf, hn, intOf, List.getD]
  subst hxn
  have h2 : 0 ≤ x ∧ x ≤ 18446744073709551615 := hh
  simp only [Bool.and_eq_true, decide_eq_true_eq]
  omega
end Go.Proofs.YtjjkhjieegmphaaDoor
end
section
namespace Go.Proofs.YtjjkhjieegmphaaDoor
open Gw Go.ChangeShapes Go.WideShapes Go.ChangeAt Go.RowKit
set_option maxRecDepth 100000
section
variable {H : Type} {enc : TypeId × Value → H} {P : Program} {W : World} {t : TypeId} {fuel : Nat} {cs : List Value} {x : DataW H × List MemPlace} {sp : Nat → Bool} {hd : Bool} {b0 : Nat}
theorem take_one {l : List Value} {o : Nat} {v : Value} (h : (l.drop o).take 1 = [v]) : l[o]? = some v := by
 have : ((l.drop o).take 1)[0]? = some v := by rw [h]; rfl
 rw [List.getElem?_take] at this
 simpa using this
theorem fld_int {i off ft : Nat} {k : IntKind} (hf : FieldV P t i off ft) (hk : P.underlying ft = some (.int k)) (hc : P.cellsOf ft = 1) (h : DataW.trod enc P W b0 sp hd fuel t cs = some x) : ∃ n, cs[off]? = some (.int k n) := by
 obtain ⟨fs, fd, hu, hi, rfl, rfl⟩ := hf
 obtain ⟨xs, n, _, _, hl, hx, hall⟩ := DataW.trod_struct hu h
 have h1 := hall i fd hi
 have h2 : i < xs.length := by rw [hx]; exact (Array.getElem?_eq_some_iff.1 hi).1
 rw [List.getElem?_eq_getElem h2, hc] at h1
 obtain ⟨n, e, _⟩ := DataW.trod_int hk h1
 exact ⟨n, take_one e⟩
theorem fld_str {i off ft : Nat} (hf : FieldV P t i off ft) (hk : P.underlying ft = some .string) (hc : P.cellsOf ft = 1) (h : DataW.trod enc P W b0 sp hd fuel t cs = some x) : ∃ s : ByteArray, cs[off]? = some (.string s) ∧ s.size ≤ maxLen := by
 obtain ⟨fs, fd, hu, hi, rfl, rfl⟩ := hf
 obtain ⟨xs, n, _, _, hl, hx, hall⟩ := DataW.trod_struct hu h
 have h1 := hall i fd hi
 have h2 : i < xs.length := by rw [hx]; exact (Array.getElem?_eq_some_iff.1 hi).1
 rw [List.getElem?_eq_getElem h2, hc] at h1
 obtain ⟨s, e, _, hs⟩ := DataW.trod_string hk h1
 exact ⟨s, take_one e, hs⟩
theorem slice_of {α : Type} [Inhabited α] {e k : Nat} {C : α → List Value} {Q : α → Prop} {base : Nat} {v : Value} {d : DataW H} {ps : List MemPlace} (ht : P.underlying t = some (.slice e)) (hk : P.cellsOf e = k) (hC : ∀ a, (C a).length = k) (hk0 : 0 < k)
  (hel : ∀ (n : Nat) (cs : List Value) (x : DataW H × List MemPlace), DataW.trod enc P W 0 (fun _ => true) true n e cs = some x → ∃ a, cs = C a ∧ Q a)
  (hval : Value.okWide P W .any base t v) (h : DataW.Trod enc P W 0 (fun _ => true) true t v d ps) :
  ∃ (l : List α) (s : SlV), v = s.v ∧ Rd W k s (l.map C) ∧ (∀ a ∈ l, Q a) ∧ (l = [] ∨ ∃ elems spare, d = .slice elems spare ∧ elems.length = l.length) := by
 obtain ⟨a0, len0, cap0, rfl⟩ := okWide_slice ht hval
 obtain ⟨fuel, hf⟩ := h
 rcases Deep.open_slice ht hf with ⟨h1, h2⟩ | ⟨a, len, cap, m, n, D, Pl, h1, _, hlc, hcm, hm, h2, hx⟩
 ·simp [Value.cells] at h1
  obtain ⟨rfl, rfl, rfl⟩ := h1
  exact ⟨[], SlV.nil, SlV.nil_eq, Rd.nil W k, by simp, .inl rfl⟩
 ·simp [Value.cells] at h1
  obtain ⟨rfl, rfl, rfl⟩ := h1
  have hval2 := hval
  simp only [Value.okWide, ht, Cell.okWide, Cell.ok] at hval2
  obtain ⟨_, _, _, hspot, row, cells, hshape, _⟩ := hval2
  obtain ⟨ab, ao, asp⟩ := a
  obtain rfl : asp = none := hspot
  simp only at hshape
  have hlt : ab < W.heap.size := by
   unfold World.shape? at hshape
   cases hh : W.heap[ab]? with
   | none => rw [hh] at hshape; cases hshape
   | some o => exact (Array.getElem?_eq_some_iff.1 hh).1
  have hmc : m = cap0 := by rw [hm]; rfl
  obtain ⟨f, hfx⟩ := Deep.choose_lt (α := α) (n := len0) (p := fun i y => W.cells? 0 ((⟨ab, ao, none⟩ : Addr).add (i * P.cellsOf e)) (P.cellsOf e) = some (C y) ∧ Q y) (fun i hi => by
   obtain ⟨cs', hc, ht'⟩ := hx i (by omega)
   obtain ⟨y, rfl, hq⟩ := hel _ _ _ ht'
   exact ⟨y, hc, hq⟩)
  refine ⟨(List.range len0).map f, ⟨some ⟨ab, ao, none⟩, len0, cap0⟩, by rw [SlV.eq], ⟨⟨by simp, ?_, ?_⟩, ?_, hlc⟩, ?_, .inr ⟨_, _, by simpa using congrArg Prod.fst h2, by simp⟩⟩
  ·intro r hr
   obtain ⟨y, _, rfl⟩ := List.mem_map.1 hr
   exact hC y
  ·intro i r hr
   rw [List.getElem?_map, List.getElem?_map] at hr
   have hi : i < len0 := by
    refine Nat.lt_of_not_le fun q => ?_
    rw [List.getElem?_eq_none (by simpa using q)] at hr; cases hr
   rw [List.getElem?_eq_getElem (by simpa using hi)] at hr
   simp only [List.getElem_range, Option.map_some, Option.some.injEq] at hr
   subst hr
   obtain ⟨h3, _⟩ := hfx i hi
   obtain ⟨_, hl, hc⟩ := World.cells?_some h3
   refine ⟨rfl, fun j v hv => ?_⟩
   have hj : j < k := by have := (List.getElem?_eq_some_iff.1 hv).1; rw [hC] at this; exact this
   have h4 := hc j (by rw [hk]; exact hj)
   rw [hv] at h4
   have hadd : ((⟨ab, ao, none⟩ : Addr).add (i * P.cellsOf e)).add j = ⟨ab, ao + i * k + j, none⟩ := by
    rw [hk]
    unfold Addr.add
    by_cases h5 : i * k = 0
    ·by_cases h6 : j = 0
     ·simp [h5, h6]
     ·simp [h5, h6]
    ·by_cases h6 : j = 0
     ·simp [h5, h6]
     ·simp [h5, h6]
   rw [hadd] at h4
   exact h4
  ·rintro i ⟨_, rfl⟩
   exact hlt
  ·intro y hy
   obtain ⟨i, hi, rfl⟩ := List.mem_map.1 hy
   exact (hfx i (List.mem_range.1 hi)).2
end
instance : Inhabited Nd := ⟨Nd.z⟩
theorem nds_of {H : Type} {enc : TypeId × Value → H} {W : World} {base : Nat} {v : Value} {d : DataW H} {ps : List MemPlace} (hval : Value.okWide PP W .any base T_L_api_Node v) (h : DataW.Trod enc PP W 0 (fun _ => true) true T_L_api_Node v d ps) :
  ∃ (l : List Nd) (s : SlV), v = s.v ∧ Rd W 4 s (l.map Nd.C) ∧ (∀ a ∈ l, a.name.size < 9223372036854775808) ∧ (l = [] ∨ ∃ elems spare, d = .slice elems spare ∧ elems.length = l.length) := by
 refine slice_of sl_L_api_Node.1 (by kernel_rfl) Nd.len (by decide) (fun n cs x hx => ?_) hval h
 obtain ⟨a, ha⟩ := fld_int fv_Nd_kind un_api_Kind (by kernel_rfl) hx
 obtain ⟨b, hb, hbs⟩ := fld_str fv_Nd_name un_string (by kernel_rfl) hx
 obtain ⟨c, hc⟩ := fld_int fv_Nd_l un_int (by kernel_rfl) hx
 obtain ⟨d, hd⟩ := fld_int fv_Nd_r un_int (by kernel_rfl) hx
 obtain ⟨fs, fd, hu, _⟩ := fv_Nd_kind
 obtain ⟨xs, n', _, _, hl, _⟩ := DataW.trod_struct hu hx
 have hl : cs.length = 4 := hl.trans (by kernel_rfl)
 refine ⟨⟨a, b, c, d⟩, ?_, by have : maxLen = 9223372036854775807 := rfl; show b.size < _; omega⟩
 match cs, hl with
 | [v0, v1, v2, v3], _ =>
  simp at ha hb hc hd
  subst ha hb hc hd
  rfl
theorem bulk_one {H : Type} (d : DataW H) : 1 ≤ Rows.uptoBulk d := by
 cases d with
 | lit l => cases l <;> simp [Rows.uptoBulk]
 | nil => simp [Rows.uptoBulk]
 | ptr d => simp [Rows.uptoBulk]
 | slice elems spare => simp [Rows.uptoBulk]
 | agg parts => simp [Rows.uptoBulk]
 | iface t d => simp [Rows.uptoBulk]
 | map entries => simp [Rows.uptoBulk]
 | held h => simp [Rows.uptoBulk]
theorem bulk_part {H : Type} {d : DataW H} {l : List (DataW H)} (h : d ∈ l) : Rows.uptoBulk d ≤ Rows.uptoBulkAll l := by
 induction l with
 | nil => cases h
 | cons x r ih =>
  simp only [Rows.uptoBulkAll]
  cases List.mem_cons.1 h with
  | inl e => subst e; omega
  | inr e => have := ih e; omega
theorem bulk_len {H : Type} (l : List (DataW H)) : l.length ≤ Rows.uptoBulkAll l := by
 induction l with
 | nil => simp [Rows.uptoBulkAll]
 | cons x r ih => have := bulk_one x; simp only [Rows.uptoBulkAll, List.length_cons]; omega
theorem small_len {H : Type} {α : Type} {l : List α} {d : DataW H} {ds : List (DataW H)} (hk : Rows.uptoSmall H ds = true) (hd : d ∈ ds) (h : l = [] ∨ ∃ elems spare, d = .slice elems spare ∧ elems.length = l.length) : l.length ≤ 1048576 := by
 rcases h with rfl | ⟨elems, spare, rfl, he⟩
 ·simp
 ·have h1 := bulk_part hd
  have h2 := bulk_len elems
  have h3 : Rows.uptoBulkAll ds ≤ 1048576 := by simpa [Rows.uptoSmall] using hk
  simp only [Rows.uptoBulk] at h1
  omega
end Go.Proofs.YtjjkhjieegmphaaDoor
end
section
namespace Go.Proofs.YtjjkhjieegmphaaDoor
open Gw Go.ChangeShapes Go.WideShapes Go.ChangeAt Go.RowKit
set_option maxRecDepth 100000
def Held (W : World) (Z : List OA) : Prop := ∀ z ∈ Z, ∃ F, z.holds W F
theorem Held.nil {W : World} : Held W [] := fun _ h => by cases h
theorem Held.cons {W : World} {z : OA} {Z : List OA} (h : ∃ F, z.holds W F) (hz : Held W Z) : Held W (z :: Z) := fun x hx => by
 rcases List.mem_cons.1 hx with rfl | hx
 ·exact h
 ·exact hz x hx
theorem Held.s {W : World} {Z : List OA} {k : Nat} {α : Type} {C : α → List Value} {s : SlV} {l : List α} (hr : Rd W k s (l.map C)) (hl : l.length ≤ 140737488355328) (hz : Held W Z) : Held W (fS k C s l :: Z) :=
 .cons ⟨s.fp, ⟨hr, hl⟩, fun _ => Iff.rfl⟩ hz
theorem Held.tz {W : World} {Z : List OA} (h : Tz W) (hz : Held W Z) : Held W (oTz :: Z) := .cons ⟨fun i => i = 0, ⟨h, fun _ => Iff.rfl⟩⟩ hz
theorem stheld {W : World} {Z : List OA} (h : Held W Z) : St (fun _ => False) oth0 W W [] Z :=
 ⟨fun _ => False, fun _ h => h.elim, fun _ h => h.elim, Chg.refl _ _, trivial, fun z hz => by
  obtain ⟨F, hF⟩ := h z hz
  exact ⟨F, hF, fun i _ q => q.elim (fun x => x) (fun x => x)⟩, fun d hd => absurd hd (by simp [oth0])⟩
end Go.Proofs.YtjjkhjieegmphaaDoor
end
section
namespace Go.Proofs.YtjjkhjieegmphaaDoor
open Gw Go.ChangeShapes Go.WideShapes Go.ChangeAt Go.RowKit
set_option maxRecDepth 100000
namespace LawSearchRuns
theorem contract (H : Type) (enc : TypeId × Value → H) (W : World) (base : Nat) (args : Array Value) (ds gs : List (DataW H)) (before : List MemPlace)
  (hval : ∀ (j : Nat) t v, D_law11_SearchRuns.params[j]? = some t → args[j]? = some v → Value.okWide PP W .any base t v)
  (hW : DataW.Whole enc PP D_law11_SearchRuns.params.toList Rows.searchRunsSpec.vars false W args.toList ds gs before) (hL : laidMetH PP Rows.searchRunsUptoRow.laid W) (hsm : Rows.uptoSmall H (ds ++ gs) = true) :
  Calls PP F_law11_SearchRuns args W fun e W' => ∃ v, e = .returned v ∧ Rows.searchRunsSpec.post enc PP D_law11_SearchRuns false true false false W args v W' := by
 have hW' := hW
 have hlt := hW.lt
 obtain ⟨p, q, hA0, hV, rfl, hfz, hnd⟩ := hW
 have hA : DataW.TrodAll enc PP W 0 (fun _ => true) true D_law11_SearchRuns.params.toList args.toList ds p := hA0
 have hpar : D_law11_SearchRuns.params = #[T_L_api_Node, T_Sq, T_int] := by kernel_rfl
 rw [hpar] at hA hval
 obtain ⟨v0, v1, v2, d0, d1, d2, p0, p1, p2, rfl, rfl, rfl, h0, h1, h2⟩ := trodAll_three hA
 obtain ⟨rfl, rfl⟩ := trodVars_none hV
 obtain ⟨a0, s0, rfl, hrd0, hnm0, hsl0⟩ := nds_of (hval 0 _ _ rfl rfl) h0
 have hln0 := small_len hsm (by simp) hsl0
 obtain ⟨a1, rfl, hb1, hg1⟩ := sq_of (hval 1 _ _ rfl rfl)
 obtain ⟨a2, rfl, hr2⟩ := int_of (k := .i64) un_int (hval 2 _ _ rfl rfl)
 have S := stheld (W := W) (.s hrd0 (by omega) (.tz (tz_of hL) .nil))
 refine (law11_SearchRuns_st S (SearchRuns_true (k := 5000) (by omega) heads11 (bg := a2) hnm0 (by omega) hb1)).mono fun e W' ⟨v, he, hv, hS⟩ => ?_
 subst hv
 have hx := hS.frame
 refine ⟨_, he, post_of_same (pa := p0 ++ p1 ++ p2) (pv := []) hW' (fun _ _ _ => trodAll_cons_mk (shut_bool un_bool _) trodAll_mk0) (fun sp hsp => ?_) (fun _ _ => rfl) (by simp) ((Ext.below hx).frame _) hx.froz (ok_one (by kernel_rfl) rfl (okWide_bool_mk un_bool _))⟩
 rw [hpar]
 refine trodAll_stays (ts := [T_L_api_Node, T_Sq, T_int]) (fun t ht => ?_) hA (fun p hp => (Ext.below hx).same (hlt p (by simpa using hp))) (fun p hp => hsp p (by simpa using hp))
 simp only [List.mem_cons, List.not_mem_nil, or_false] at ht
 rcases ht with rfl | rfl | rfl <;> exact ⟨by kernel_rfl, of_decide_eq_true (by kernel_rfl)⟩
noncomputable def laidWorld (os : Os) : World :=
 { World.holding PP os ⟨#[], #[], []⟩ with heap := (World.holding PP os ⟨#[], #[], []⟩).heap.modify 0 fun
   | .cells _ t frozen => .cells (tzs.map (Value.int .u8)).toArray t frozen
   | o => o }
def argsN : Array Value := #[.slice none 0 0, .agg (Sq.C Sq.z).toArray, .int .i64 0]
theorem laid_met (os : Os) : laidMet PP Rows.searchRunsUptoRow.laid ((laidWorld os).forCall (fun _ _ => 0) ⟨#[], argsN, []⟩).memory :=
 laidMet_of_run' 8 (by kernel_rfl) (by kernel_rfl)
def ddN (H : Type) : List (DataW H) := [.nil, .agg [.agg (List.replicate 16 (.lit (.int .u64 0))), .lit (.int .i64 0)], .lit (.int .i64 0)]
theorem reads (os : Os) {H : Type} (enc : TypeId × Value → H) : ∃ places, DataW.whole enc PP ((laidWorld os).forCall (fun _ _ => 0) ⟨#[], argsN, []⟩).memory D_law11_SearchRuns.params.toList Rows.searchRunsSpec.vars false argsN.toList 8 = some (ddN H, [], places) :=
 ⟨[], by kernel_rfl⟩
theorem lifted (os : Os) (started : os.Started) (H : Type) (enc : TypeId × Value → H) (F : Stop.Interp) :
  ReturnsInHanded {} Tryd.checked os F_law11_SearchRuns .any ((Rows.OpenSpec.upto Rows.searchRunsSpec).preRow enc PP D_law11_SearchRuns Rows.searchRunsUptoRow.domain false Rows.searchRunsUptoRow.laid) (((Rows.OpenSpec.upto Rows.searchRunsSpec).at F).post enc PP D_law11_SearchRuns false true false false) := by
 obtain ⟨places, hx⟩ := reads os enc
 refine returnsInHanded_of_row (C := Tryd.checked) (s := Rows.OpenSpec.upto Rows.searchRunsSpec) ownKnob_none started (by kernel_rfl) fn_law11_SearchRuns
  (witness_row_at (enc := enc) (C := Tryd.checked) false (laidWorld os) argsN rfl (by kernel_rfl) (by kernel_rfl) (by kernel_rfl)
   (OpenSpec.preRow_of_cond 8 hx (by kernel_rfl) (fun k hk => by cases hk; kernel_rfl) (by kernel_rfl) (laid_met os))) ?_
 intro W base args ds gs before hval hW _ hcond _ hL _ _
 exact contract H enc W base args ds gs before hval hW hL (hcond _ rfl)
theorem said : Rows.SearchRunsUptoSaid :=
 OpenClaim.holds_of_cond F_law11_SearchRuns D_law11_SearchRuns rfl rfl rfl rfl rfl rfl rfl ⟨rfl, rfl, rfl, rfl, rfl⟩ rfl rfl rfl rfl rfl (by kernel_rfl) fn_law11_SearchRuns (by kernel_rfl)
  (of_decide_eq_true (by kernel_rfl)) (by unfold Func.isWrapper; first | (rw [if_pos (by decide +kernel)]; kernel_rfl) | (rw [if_neg (by decide +kernel)]; exact ⟨rfl, rfl⟩))
  (fun os started H enc _ F => by rw [OpenClaim.pre_eq_preRow]; exact lifted os started H enc F)
theorem plain (f : FuncId) (fn : Func) (hf : Tryd.pinned.checked.prog.funcNamed "dictum/dictumlaw11.SearchRuns" = some f) (hfn : Tryd.pinned.checked.prog.funcs[f]? = some fn) :
  false = Tryd.pinned.checked.prog.looks [] ∧ ∀ (j : Nat) t, fn.params[j]? = some t → Tryd.pinned.checked.prog.wantsStandIn t = false := by
 obtain rfl : f = F_law11_SearchRuns := Option.some.inj ((show PP.funcNamed "dictum/dictumlaw11.SearchRuns" = some F_law11_SearchRuns by kernel_rfl).symm.trans hf) |>.symm
 obtain rfl : fn = D_law11_SearchRuns := (Option.some.inj (fn_law11_SearchRuns.symm.trans hfn)).symm
 refine ⟨by kernel_rfl, fun j t ht => ?_⟩
 rw [show D_law11_SearchRuns.params = #[T_L_api_Node, T_Sq, T_int] by kernel_rfl] at ht
 have hm : t ∈ [T_L_api_Node, T_Sq, T_int] := by simpa using Array.mem_of_getElem? ht
 simp only [List.mem_cons, List.not_mem_nil, or_false] at hm
 rcases hm with rfl | rfl | rfl
 ·exact (show PP.wantsStandIn T_L_api_Node = false by kernel_rfl)
 ·exact (show PP.wantsStandIn T_Sq = false by kernel_rfl)
 ·exact (show PP.wantsStandIn T_int = false by kernel_rfl)
theorem card : Rows.SearchRunsUptoCardSaid :=
 Claim7.holds_tied_plain_at .later [] _ _ _ _ said (fun _ h => by cases h) (by kernel_rfl) (fun _ h => by cases h) searchRunsUpto_row_tie rfl ⟨rfl, rfl⟩ (by kernel_rfl) rfl plain (by kernel_rfl)
end LawSearchRuns
end Go.Proofs.YtjjkhjieegmphaaDoor
end
