/- TypesOne, where what it reads is of the bulk that the row names: the row's statement and its card. The variable errors.errorType reads as the program lays it. Printed by card13.py, a program of mine. -/
import Derived.Test.YtjebgcoknpcadaaDoorMO3
import Derived.Test.YtjebgcoknpcadaaDoorCards
import Derived.Test.YtjebgcoknpcadaaDoorTie
import Derived.WalkKit
import Derived.ProofKit
import Derived.OpenShut
import Derived.Deep.DeepHandedRow
import Derived.Deep.Slices
import Derived.LaidHandle
set_option linter.unusedVariables false
set_option linter.unusedSimpArgs false
section
namespace Go.Proofs.YtjebgcoknpcadaaDoor
end Go.Proofs.YtjebgcoknpcadaaDoor
end
section
namespace Go.Proofs.YtjebgcoknpcadaaDoor
open Gw
-- terms: nodes, levels, what is right
mutual
def depT : PTerm → Nat
 | .mk _ _ _ _ s => 1 + depL s
def depL : List PTerm → Nat
 | [] => 0
 | x :: l => max (depT x) (depL l)
end
def partsS (k : Int) : Int := if k = 1 then 0 else if k = 9 then 3 else if k = 3 ∨ k = 4 ∨ k = 12 then 2 else if k = 2 ∨ k = 5 ∨ k = 6 ∨ k = 7 ∨ k = 8 ∨ k = 10 ∨ k = 11 then 1 else -1
def nodeR (x : PTerm) : Bool :=
 decide (partsS x.kind = x.sub.length) && (if x.kind = 1 ∨ x.kind = 2 ∨ x.kind = 9 ∨ x.kind = 12 then decide (isWord x.name) else decide (x.name = ⟨#[]⟩)) &&
  (if x.kind = 9 then decide (isWord x.other) else decide (x.other = ⟨#[]⟩)) && (if x.kind = 11 then decide (0 ≤ x.form) && decide (x.form < 1024) else decide (x.form = 0))
mutual
def rightT : PTerm → Bool
 | .mk k n o f s => nodeR (.mk k n o f s) && rightL s
def rightL : List PTerm → Bool
 | [] => true
 | x :: l => rightT x && rightL l
end
mutual
def nmT : PTerm → Prop
 | .mk _ n o _ s => n.size < 9223372036854775808 ∧ o.size < 9223372036854775808 ∧ nmL s
def nmL : List PTerm → Prop
 | [] => True
 | x :: l => nmT x ∧ nmL l
end
theorem depT_eq (x : PTerm) : depT x = 1 + depL x.sub := by cases x; simp [depT, PTerm.sub]
theorem rightT_eq (x : PTerm) : rightT x = (nodeR x && rightL x.sub) := by cases x; simp [rightT, PTerm.sub]
theorem nmT_eq (x : PTerm) : nmT x ↔ x.name.size < 9223372036854775808 ∧ x.other.size < 9223372036854775808 ∧ nmL x.sub := by cases x; simp [nmT, PTerm.sub, PTerm.name, PTerm.other]
theorem rightL_mem : ∀ {l : List PTerm}, rightL l = true → ∀ x ∈ l, rightT x = true
 | [], _, _, h => by simp at h
 | y :: l, h, x, hx => by
  simp only [rightL, Bool.and_eq_true] at h
  rcases List.mem_cons.1 hx with rfl | hx
  ·exact h.1
  ·exact rightL_mem h.2 x hx
theorem nmL_mem : ∀ {l : List PTerm}, nmL l → ∀ x ∈ l, nmT x
 | [], _, _, h => by simp at h
 | y :: l, h, x, hx => by
  simp only [nmL] at h
  rcases List.mem_cons.1 hx with rfl | hx
  ·exact h.1
  ·exact nmL_mem h.2 x hx
theorem depL_mem : ∀ {l : List PTerm}, ∀ x ∈ l, depT x ≤ depL l
 | [], _, h => by simp at h
 | y :: l, x, hx => by
  simp only [depL]
  rcases List.mem_cons.1 hx with rfl | hx
  ·omega
  ·have := depL_mem x hx; omega
theorem at_mem {l : List PTerm} {i : Int} (h : 0 ≤ i ∧ i < l.length) : at_ PTerm.z l i ∈ l := List.mem_of_getElem? (at_some PTerm.z h)
inductive TR where
 | ok (f : Int)
 | no (c : Int) (way : List Int)
 deriving DecidableEq
namespace TR
def at_ (i : Int) : TR → TR
 | ok f => ok f
 | no c w => no c (i :: w)
def bind (r : TR) (k : Int → TR) : TR := match r with
 | ok f => k f
 | no c w => no c w
def code : TR → Int
 | ok _ => 0
 | no c _ => c
def way : TR → List Int
 | ok _ => []
 | no _ w => w
def form : TR → Int
 | ok f => f
 | no _ _ => 0
end TR
abbrev Sc := List (ByteArray × Int)
def ofK (M : List Nd) (f k : Int) (g : Nd → TR) : TR := if (nd M f).kind = k then g (nd M f) else .no 130 []
def toldS (M : List Nd) (P : Int → Sc → Option Int → TR) (s : Sc) (x : PTerm) : TR :=
 if x.kind = 1 then (match s.find? (fun q => decide (q.1 = x.name)) with | some q => .ok q.2 | none => .no 131 [])
 else if x.kind = 3 then (P 0 s none).bind fun f => ofK M f 5 fun n => (P 1 s (some n.l)).bind fun _ => .ok n.r
 else if x.kind = 5 then (P 0 s none).bind fun f => ofK M f 3 fun n => .ok n.l
 else if x.kind = 6 then (P 0 s none).bind fun f => ofK M f 3 fun n => .ok n.r
 else if x.kind = 11 then (if inb x.form M.length then (P 0 s (some x.form)).bind fun _ => .ok x.form else .no 31 [])
 else if x.kind = 12 then (P 0 s none).bind fun f => P 1 ((x.name, f) :: s) none
 else if x.kind = 9 then (P 0 s none).bind fun f => ofK M f 4 fun n => (P 1 ((x.name, n.l) :: s) none).bind fun a => (P 2 ((x.other, n.r) :: s) none).bind fun b => if a = b then .ok a else .no 130 []
 else .no 132 []
def chkdS (M : List Nd) (P : Int → Sc → Option Int → TR) (s : Sc) (x : PTerm) (id : Int) : TR :=
 if x.kind = 2 then ofK M id 5 fun n => P 0 ((x.name, n.l) :: s) (some n.r)
 else if x.kind = 4 then ofK M id 3 fun n => (P 0 s (some n.l)).bind fun _ => P 1 s (some n.r)
 else if x.kind = 7 then ofK M id 4 fun n => P 0 s (some n.l)
 else if x.kind = 8 then ofK M id 4 fun n => P 0 s (some n.r)
 else if x.kind = 9 then (P 0 s none).bind fun f => ofK M f 4 fun n => (P 1 ((x.name, n.l) :: s) (some id)).bind fun _ => P 2 ((x.other, n.r) :: s) (some id)
 else if x.kind = 10 then (P 0 s none).bind fun f => ofK M f 2 fun _ => .ok id
 else if x.kind = 12 then (P 0 s none).bind fun f => P 1 ((x.name, f) :: s) (some id)
 else (toldS M P s x).bind fun f => if f = id then .ok id else .no 130 []
def tyS (M : List Nd) : Nat → PTerm → Sc → Option Int → TR
 | 0, _, _, _ => .no 132 []
 | k + 1, x, s, want =>
  let P : Int → Sc → Option Int → TR := fun i s' w => (tyS M k (at_ PTerm.z x.sub i) s' w).at_ i
  match want with
  | none => toldS M P s x
  | some id => chkdS M P s x id
theorem tyS_told (M : List Nd) (k : Nat) (x : PTerm) (s : Sc) : tyS M (k + 1) x s none = toldS M (fun i s' w => (tyS M k (at_ PTerm.z x.sub i) s' w).at_ i) s x := rfl
theorem tyS_chkd (M : List Nd) (k : Nat) (x : PTerm) (s : Sc) (id : Int) : tyS M (k + 1) x s (some id) = chkdS M (fun i s' w => (tyS M k (at_ PTerm.z x.sub i) s' w).at_ i) s x id := rfl
-- the way is no longer than the term is deep
theorem TR.way_at (i : Int) (r : TR) : (r.at_ i).way.length ≤ r.way.length + 1 := by cases r <;> simp [TR.at_, TR.way]
theorem TR.way_bind {r : TR} {g : Int → TR} {n : Nat} (h : r.way.length ≤ n) (hg : ∀ f, (g f).way.length ≤ n) : (r.bind g).way.length ≤ n := by
 cases r with
 | ok f => exact hg f
 | no c w => exact h
theorem ofK_way {M : List Nd} {f k : Int} {g : Nd → TR} {n : Nat} (hg : ∀ m, (g m).way.length ≤ n) : (ofK M f k g).way.length ≤ n := by
 unfold ofK
 split
 ·exact hg _
 ·exact Nat.zero_le _
theorem toldS_way {M : List Nd} {P : Int → Sc → Option Int → TR} {n : Nat} (hP : ∀ i s w, (P i s w).way.length ≤ n) (s : Sc) (x : PTerm) : (toldS M P s x).way.length ≤ n := by
 have h0 : ∀ f, (TR.ok f).way.length ≤ n := fun f => Nat.zero_le _
 have h1 : ∀ c, (TR.no c []).way.length ≤ n := fun f => Nat.zero_le _
 unfold toldS
 repeat' split
 all_goals first
  | exact h0 _
  | exact h1 _
  | skip
 all_goals refine TR.way_bind (hP ..) fun f => ?_
 all_goals first
  | exact h0 _
  | exact hP ..
  | refine ofK_way fun m => ?_
 all_goals first
  | exact h0 _
  | refine TR.way_bind (hP ..) fun a => ?_
 all_goals first
  | exact h0 _
  | refine TR.way_bind (hP ..) fun b => ?_
 all_goals split
 all_goals first
  | exact h0 _
  | exact h1 _
theorem chkdS_way {M : List Nd} {P : Int → Sc → Option Int → TR} {n : Nat} (hP : ∀ i s w, (P i s w).way.length ≤ n) (s : Sc) (x : PTerm) (id : Int) : (chkdS M P s x id).way.length ≤ n := by
 have h0 : ∀ f, (TR.ok f).way.length ≤ n := fun f => Nat.zero_le _
 have h1 : ∀ c, (TR.no c []).way.length ≤ n := fun f => Nat.zero_le _
 unfold chkdS
 split
 ·exact ofK_way fun m => hP ..
 split
 ·exact ofK_way fun m => TR.way_bind (hP ..) fun _ => hP ..
 split
 ·exact ofK_way fun m => hP ..
 split
 ·exact ofK_way fun m => hP ..
 split
 ·exact TR.way_bind (hP ..) fun f => ofK_way fun m => TR.way_bind (hP ..) fun _ => hP ..
 split
 ·exact TR.way_bind (hP ..) fun f => ofK_way fun m => h0 _
 split
 ·exact TR.way_bind (hP ..) fun f => hP ..
 ·refine TR.way_bind (toldS_way hP s x) fun f => ?_
  split
  ·exact h0 _
  ·exact h1 _
theorem tyS_way {M : List Nd} : ∀ (k : Nat) (x : PTerm) (s : Sc) (w : Option Int), (tyS M k x s w).way.length ≤ k
 | 0, _, _, _ => by simp [tyS, TR.way]
 | k + 1, x, s, w => by
  have hP : ∀ i s' w', ((tyS M k (at_ PTerm.z x.sub i) s' w').at_ i).way.length ≤ k + 1 := fun i s' w' => Nat.le_trans (TR.way_at _ _) (Nat.add_le_add_right (tyS_way k _ _ _) 1)
  cases w with
  | none => exact toldS_way hP s x
  | some id => exact chkdS_way hP s x id
-- what is refused has a number
def Cd : TR → Prop
 | .ok _ => True
 | .no c _ => c = 31 ∨ c = 130 ∨ c = 131 ∨ c = 132
theorem Cd.at_ {r : TR} (h : Cd r) (i : Int) : Cd (r.at_ i) := by cases r <;> exact h
theorem Cd.bind {r : TR} {g : Int → TR} (h : Cd r) (hg : ∀ f, Cd (g f)) : Cd (r.bind g) := by
 cases r with
 | ok f => exact hg f
 | no c w => exact h
theorem Cd.ofK {M : List Nd} {f k : Int} {g : Nd → TR} (hg : ∀ m, Cd (g m)) : Cd (ofK M f k g) := by
 unfold Go.Proofs.YtjebgcoknpcadaaDoor.ofK
 split
 ·exact hg _
 ·exact .inr (.inl rfl)
theorem toldS_cd {M : List Nd} {P : Int → Sc → Option Int → TR} (hP : ∀ i s w, Cd (P i s w)) (s : Sc) (x : PTerm) : Cd (toldS M P s x) := by
 unfold toldS
 split
 ·split
  ·trivial
  ·exact .inr (.inr (.inl rfl))
 split
 ·exact (hP ..).bind fun f => Cd.ofK fun n => (hP ..).bind fun _ => trivial
 split
 ·exact (hP ..).bind fun f => Cd.ofK fun n => trivial
 split
 ·exact (hP ..).bind fun f => Cd.ofK fun n => trivial
 split
 ·split
  ·exact (hP ..).bind fun f => trivial
  ·exact .inl rfl
 split
 ·exact (hP ..).bind fun f => hP ..
 split
 ·refine (hP ..).bind fun f => Cd.ofK fun n => (hP ..).bind fun a => (hP ..).bind fun b => ?_
  split
  ·trivial
  ·exact .inr (.inl rfl)
 ·exact .inr (.inr (.inr rfl))
theorem chkdS_cd {M : List Nd} {P : Int → Sc → Option Int → TR} (hP : ∀ i s w, Cd (P i s w)) (s : Sc) (x : PTerm) (id : Int) : Cd (chkdS M P s x id) := by
 unfold chkdS
 split
 ·exact Cd.ofK fun n => hP ..
 split
 ·exact Cd.ofK fun n => (hP ..).bind fun _ => hP ..
 split
 ·exact Cd.ofK fun n => hP ..
 split
 ·exact Cd.ofK fun n => hP ..
 split
 ·exact (hP ..).bind fun f => Cd.ofK fun n => (hP ..).bind fun _ => hP ..
 split
 ·exact (hP ..).bind fun f => Cd.ofK fun n => trivial
 split
 ·exact (hP ..).bind fun f => hP ..
 ·refine (toldS_cd hP s x).bind fun f => ?_
  split
  ·trivial
  ·exact .inr (.inl rfl)
theorem tyS_cd {M : List Nd} : ∀ (k : Nat) (x : PTerm) (s : Sc) (w : Option Int), Cd (tyS M k x s w)
 | 0, _, _, _ => .inr (.inr (.inr rfl))
 | k + 1, x, s, w => by
  have hP : ∀ i s' w', Cd ((tyS M k (at_ PTerm.z x.sub i) s' w').at_ i) := fun i s' w' => (tyS_cd k _ _ _).at_ i
  cases w with
  | none => exact toldS_cd (P := fun i s' w' => (tyS M k (at_ PTerm.z x.sub i) s' w').at_ i) hP s x
  | some id => exact chkdS_cd (P := fun i s' w' => (tyS M k (at_ PTerm.z x.sub i) s' w').at_ i) hP s x id
-- what is told is what alone it is checked against
theorem TR.at_ok {i : Int} {r : TR} {f : Int} : r.at_ i = .ok f ↔ r = .ok f := by cases r <;> simp [TR.at_]
theorem TR.bind_ok {r : TR} {g : Int → TR} {b : Int} : r.bind g = .ok b ↔ ∃ f, r = .ok f ∧ g f = .ok b := by cases r <;> simp [TR.bind]
theorem ofK_ok {M : List Nd} {f k : Int} {g : Nd → TR} {b : Int} : ofK M f k g = .ok b ↔ (nd M f).kind = k ∧ g (nd M f) = .ok b := by
 unfold ofK
 split <;> simp_all
theorem tyS_one {M : List Nd} : ∀ (k : Nat) (x : PTerm) (s : Sc) (a : Int), tyS M k x s none = .ok a → tyS M k x s (some a) = .ok a ∧ ∀ id b, tyS M k x s (some id) = .ok b → id = a
 | 0, x, s, a, h => by simp [tyS] at h
 | k + 1, x, s, a, h => by
  rw [tyS_told] at h
  have ih := fun i s' b (hb : (tyS M k (at_ PTerm.z x.sub i) s' none).at_ i = .ok b) => tyS_one k (at_ PTerm.z x.sub i) s' b (TR.at_ok.1 hb)
  generalize hP : (fun i s' w => (tyS M k (at_ PTerm.z x.sub i) s' w).at_ i) = P at h
  have ih' : ∀ i s' b, P i s' none = .ok b → P i s' (some b) = .ok b ∧ ∀ id c, P i s' (some id) = .ok c → id = b := by
   intro i s' b hb
   subst hP
   obtain ⟨h1, h2⟩ := ih i s' b hb
   exact ⟨TR.at_ok.2 h1, fun id c hc => h2 id c (TR.at_ok.1 hc)⟩
  have hdef : ∀ id, tyS M (k + 1) x s (some id) = chkdS M P s x id := fun id => by rw [tyS_chkd, hP]
  rw [hdef]
  have hend : (toldS M P s x).bind (fun f => if f = a then .ok a else .no 130 []) = .ok a ∧ ∀ id b, (toldS M P s x).bind (fun f => if f = id then .ok id else .no 130 []) = .ok b → id = a := by
   rw [h]
   refine ⟨by simp [TR.bind], fun id b hb => ?_⟩
   simp only [TR.bind] at hb
   split at hb
   ·omega
   ·cases hb
  by_cases k2 : x.kind = 2
  ·simp [toldS, k2] at h
  by_cases k4 : x.kind = 4
  ·simp [toldS, k4] at h
  by_cases k7 : x.kind = 7
  ·simp [toldS, k7] at h
  by_cases k8 : x.kind = 8
  ·simp [toldS, k8] at h
  by_cases k10 : x.kind = 10
  ·simp [toldS, k10] at h
  by_cases k9 : x.kind = 9
  ·have h' : (P 0 s none).bind (fun f => ofK M f 4 fun n => (P 1 ((x.name, n.l) :: s) none).bind fun a => (P 2 ((x.other, n.r) :: s) none).bind fun b => if a = b then .ok a else .no 130 []) = .ok a := by
    rw [← h]; simp [toldS, k9]
   obtain ⟨f, hf, h'⟩ := TR.bind_ok.1 h'
   obtain ⟨hk, h'⟩ := ofK_ok.1 h'
   obtain ⟨a1, ha1, h'⟩ := TR.bind_ok.1 h'
   obtain ⟨b1, hb1, h'⟩ := TR.bind_ok.1 h'
   split at h'
   ·rename_i he
    cases h'
    subst he
    obtain ⟨u1, u2⟩ := ih' _ _ _ ha1
    obtain ⟨v1, v2⟩ := ih' _ _ _ hb1
    have hc : ∀ id, chkdS M P s x id = (P 0 s none).bind (fun f => ofK M f 4 fun n => (P 1 ((x.name, n.l) :: s) (some id)).bind fun _ => P 2 ((x.other, n.r) :: s) (some id)) := fun id => by simp [chkdS, k9]
    refine ⟨?_, fun id b hb => ?_⟩
    ·rw [hc, hf]; simp only [TR.bind, ofK, hk, if_true, u1, v1]
    ·rw [hdef, hc, hf] at hb
     simp only [TR.bind, ofK, hk, if_true] at hb
     cases hq : P 1 ((x.name, (nd M f).l) :: s) (some id) with
     | ok c => exact u2 id c hq
     | no c w => rw [hq] at hb; simp at hb
   ·cases h'
  by_cases k12 : x.kind = 12
  ·have h' : (P 0 s none).bind (fun f => P 1 ((x.name, f) :: s) none) = .ok a := by
    rw [← h]; simp [toldS, k12]
   obtain ⟨f, hf, h'⟩ := TR.bind_ok.1 h'
   obtain ⟨u1, u2⟩ := ih' _ _ _ h'
   have hc : ∀ id, chkdS M P s x id = (P 0 s none).bind (fun f => P 1 ((x.name, f) :: s) (some id)) := fun id => by simp [chkdS, k12]
   refine ⟨by rw [hc, hf]; exact u1, fun id b hb => ?_⟩
   rw [hdef, hc, hf] at hb
   exact u2 id b hb
  have hc : ∀ id, chkdS M P s x id = (toldS M P s x).bind (fun f => if f = id then .ok id else .no 130 []) := fun id => by simp [chkdS, k2, k4, k7, k8, k9, k10, k12]
  exact ⟨by rw [hc]; exact hend.1, fun id b hb => hend.2 id b (by rw [← hc, ← hdef]; exact hb)⟩
-- a name more, behind the others
def Wk (r r' : TR) : Prop := r' = r ∨ ∃ w, r = .no 131 w
theorem Wk.refl (r : TR) : Wk r r := .inl rfl
theorem Wk.at_ {r r' : TR} (h : Wk r r') (i : Int) : Wk (r.at_ i) (r'.at_ i) := by
 rcases h with rfl | ⟨w, rfl⟩
 ·exact .inl rfl
 ·exact .inr ⟨_, rfl⟩
theorem Wk.bind {r r' : TR} {g g' : Int → TR} (h : Wk r r') (hg : ∀ f, Wk (g f) (g' f)) : Wk (r.bind g) (r'.bind g') := by
 rcases h with rfl | ⟨w, rfl⟩
 ·cases r' with
  | ok f => exact hg f
  | no c w => exact .inl rfl
 ·exact .inr ⟨_, rfl⟩
theorem Wk.ofK {M : List Nd} {f k : Int} {g g' : Nd → TR} (hg : ∀ n, Wk (g n) (g' n)) : Wk (ofK M f k g) (ofK M f k g') := by
 unfold Go.Proofs.YtjebgcoknpcadaaDoor.ofK
 split
 ·exact hg _
 ·exact .inl rfl
theorem toldS_wk {M : List Nd} {P P' : Int → Sc → Option Int → TR} {m : ByteArray × Int} (hP : ∀ i s w, Wk (P i s w) (P' i (s ++ [m]) w)) (s : Sc) (x : PTerm) : Wk (toldS M P s x) (toldS M P' (s ++ [m]) x) := by
 have hc : ∀ i q s w, Wk (P i (q :: s) w) (P' i (q :: (s ++ [m])) w) := fun i q s w => hP i (q :: s) w
 unfold toldS
 split
 ·rw [List.find?_append]
  cases s.find? (fun q => decide (q.1 = x.name)) with
  | some q => exact .inl rfl
  | none => exact .inr ⟨[], rfl⟩
 split
 ·exact (hP ..).bind fun f => Wk.ofK fun n => (hP ..).bind fun _ => Wk.refl _
 split
 ·exact (hP ..).bind fun f => Wk.ofK fun n => Wk.refl _
 split
 ·exact (hP ..).bind fun f => Wk.ofK fun n => Wk.refl _
 split
 ·split
  ·exact (hP ..).bind fun f => Wk.refl _
  ·exact Wk.refl _
 split
 ·exact (hP ..).bind fun f => hc ..
 split
 ·exact (hP ..).bind fun f => Wk.ofK fun n => (hc ..).bind fun a => (hc ..).bind fun b => Wk.refl _
 ·exact Wk.refl _
theorem chkdS_wk {M : List Nd} {P P' : Int → Sc → Option Int → TR} {m : ByteArray × Int} (hP : ∀ i s w, Wk (P i s w) (P' i (s ++ [m]) w)) (s : Sc) (x : PTerm) (id : Int) : Wk (chkdS M P s x id) (chkdS M P' (s ++ [m]) x id) := by
 have hc : ∀ i q s w, Wk (P i (q :: s) w) (P' i (q :: (s ++ [m])) w) := fun i q s w => hP i (q :: s) w
 unfold chkdS
 split
 ·exact Wk.ofK fun n => hc ..
 split
 ·exact Wk.ofK fun n => (hP ..).bind fun _ => hP ..
 split
 ·exact Wk.ofK fun n => hP ..
 split
 ·exact Wk.ofK fun n => hP ..
 split
 ·exact (hP ..).bind fun f => Wk.ofK fun n => (hc ..).bind fun _ => hc ..
 split
 ·exact (hP ..).bind fun f => Wk.ofK fun n => Wk.refl _
 split
 ·exact (hP ..).bind fun f => hc ..
 ·exact (toldS_wk hP s x).bind fun f => Wk.refl _
theorem tyS_wk {M : List Nd} (m : ByteArray × Int) : ∀ (k : Nat) (x : PTerm) (s : Sc) (w : Option Int), Wk (tyS M k x s w) (tyS M k x (s ++ [m]) w)
 | 0, _, _, _ => Wk.refl _
 | k + 1, x, s, w => by
  have hP : ∀ i s' w', Wk ((tyS M k (at_ PTerm.z x.sub i) s' w').at_ i) ((tyS M k (at_ PTerm.z x.sub i) (s' ++ [m]) w').at_ i) := fun i s' w' => (tyS_wk m k _ _ _).at_ i
  cases w with
  | none => exact toldS_wk (P := fun i s' w' => (tyS M k (at_ PTerm.z x.sub i) s' w').at_ i) (P' := fun i s' w' => (tyS M k (at_ PTerm.z x.sub i) s' w').at_ i) (m := m) hP s x
  | some id => exact chkdS_wk (P := fun i s' w' => (tyS M k (at_ PTerm.z x.sub i) s' w').at_ i) (P' := fun i s' w' => (tyS M k (at_ PTerm.z x.sub i) s' w').at_ i) (m := m) hP s x id
end Go.Proofs.YtjebgcoknpcadaaDoor
end
section
namespace Go.Proofs.YtjebgcoknpcadaaDoor
open Gw
theorem chk_t {α : Type} {b : Bool} {x : Option α} (h : b = true) : chk b x = x := by rw [chk, if_pos h]
theorem wrap_nat {n : Nat} (h : n < 9223372036854775808) : IntKind.i64.wrap (n : Int) = n := wrap_small ⟨by omega, by omega⟩
theorem iter_count {τ ρ : Type} {b : τ × Int → Option (Stp (τ × Int) ρ)} (g : Nat → τ) (n : Nat)
  (h : ∀ i, i < n → b (g i, (i : Int)) = some (.go (g (i + 1), ((i + 1 : Nat) : Int))) ∨ (b (g i, (i : Int)) = some (.brk (g i, (i : Int))) ∧ g i = g n)) (he : b (g n, (n : Int)) = some (.brk (g n, (n : Int)))) :
  ∀ (k i : Nat), i ≤ n → n - i < k → ∃ j : Int, iter b k (g i, (i : Int)) = some (.inl (g n, j))
 | 0, i, _, hk => by omega
 | k + 1, i, hi, hk => by
  by_cases hin : i = n
  ·subst hin; exact ⟨(i : Int), by simp only [iter, he, Option.bind_some]⟩
  ·rcases h i (by omega) with h1 | ⟨h1, h2⟩
   ·obtain ⟨j, hj⟩ := iter_count g n h he k (i + 1) (by omega) (by omega)
    exact ⟨j, by simp only [iter, h1, Option.bind_some]; exact hj⟩
   ·exact ⟨(i : Int), by rw [iter, h1]; simp only [Option.bind_some, h2]⟩
theorem depL_take : ∀ {l : List PTerm} {i : Nat} {x : PTerm}, l[i]? = some x → depL (l.take (i + 1)) = max (depL (l.take i)) (depT x)
 | [], _, _, h => by simp at h
 | y :: l, 0, x, h => by simp at h; subst h; simp [depL]
 | y :: l, i + 1, x, h => by
  have := depL_take (l := l) (i := i) (by simpa using h)
  simp only [List.take_succ_cons, depL]; omega
theorem depL_le : ∀ {l : List PTerm} (i : Nat), depL (l.take i) ≤ depL l
 | [], i => by simp
 | y :: l, 0 => by simp [depL]
 | y :: l, i + 1 => by have := depL_le (l := l) i; simp only [List.take_succ_cons, depL]; omega
theorem len_sizeL : ∀ (l : List PTerm), l.length ≤ sizeL l
 | [] => by simp
 | y :: l => by have := len_sizeL l; have := sizeT_pos y; simp only [List.length_cons, sizeL]; omega
theorem sizeL_mem : ∀ {l : List PTerm} {x : PTerm}, x ∈ l → sizeT x ≤ sizeL l
 | [], _, h => by simp at h
 | y :: l, x, h => by
  simp only [sizeL]
  rcases List.mem_cons.1 h with rfl | h
  ·omega
  ·have := sizeL_mem h; omega
theorem at_nat {l : List PTerm} {i : Nat} (h : i < l.length) : at_ PTerm.z l (i : Int) = l[i] := by
 unfold at_; rw [Int.toNat_natCast, List.getD_eq_getElem?_getD, List.getElem?_eq_getElem h]; rfl
theorem depT_pos (x : PTerm) : 1 ≤ depT x := by rw [depT_eq]; omega
-- levels, as the program counts them
theorem deep_some : ∀ (K : Nat) (x : PTerm) (most : Nat), 1 ≤ most → most ≤ 1025 → sizeT x ≤ 65536 → sizeT x + most < K → term_deep.f K x (most : Int) = some ((min (depT x) most : Nat) : Int)
 | 0, _, _, _, _, _, h => by omega
 | K + 1, x, most, h1, h2, h3, hK => by
  show term_deep.g (term_deep.f K) K x most = _
  unfold term_deep.g
  by_cases hm : most = 1
  ·subst hm
   rw [if_pos (by decide)]
   have := depT_pos x
   rw [show min (depT x) 1 = 1 by omega]
  rw [if_neg (by simp; omega)]
  have hw : IntKind.i64.wrap ((most : Int) - 1) = ((most - 1 : Nat) : Int) := by
   rw [show ((most : Int) - 1) = ((most - 1 : Nat) : Int) by omega]; exact wrap_nat (by omega)
  have hs := sizeT_eq x
  have hls := len_sizeL x.sub
  obtain ⟨j, hj⟩ := iter_count (b := fun s => term_deep.b0 x most (term_deep.f K) s.1 s.2) (g := fun i => ((min (depL (x.sub.take i)) (most - 1) : Nat) : Int)) x.sub.length (fun i hi => by
   have he := List.getElem?_eq_getElem hi
   have hd := depL_take he
   have hle := depL_le (l := x.sub) i
   simp only [term_deep.b0, hw]
   by_cases hc : min (depL (x.sub.take i)) (most - 1) < most - 1
   ·left
    rw [if_pos (by simp; omega), chk_t (by rw [inb_nat]; exact decide_eq_true hi), at_nat hi, deep_some K _ (most - 1) (by omega) (by omega) (by have := sizeL_mem (List.getElem_mem hi); omega) (by have := sizeL_mem (List.getElem_mem hi); omega)]
    simp only [Option.bind_some]
    rw [show (i : Int) + 1 = ((i + 1 : Nat) : Int) by omega, wrap_nat (by omega)]
    congr 3
    rw [hd]
    split <;> omega
   ·right
    rw [if_neg (by simp; omega)]
    refine ⟨rfl, ?_⟩
    rw [List.take_length]
    congr 1
    omega) (by
   simp only [term_deep.b0, hw]
   rw [if_neg (by simp)]) K 0 (by omega) (by omega)
  simp only [List.take_zero, depL, Nat.zero_min, List.take_length] at hj
  rw [show ((0 : Nat) : Int) = 0 from rfl] at hj
  rw [hj]
  simp only [Option.bind_some, aft]
  rw [show ((min (depL x.sub) (most - 1) : Nat) : Int) + 1 = ((min (depL x.sub) (most - 1) + 1 : Nat) : Int) by omega, wrap_nat (by omega), depT_eq]
  congr 2
  omega
-- what is right, as the program tells it
theorem shape_some (k : Int) : term_shape.f k = some (if partsS k = -1 then (0, false, false, false) else (partsS k, decide (k = 1 ∨ k = 2 ∨ k = 9 ∨ k = 12), decide (k = 9), true)) := by
 by_cases h : k = 1 ∨ k = 2 ∨ k = 3 ∨ k = 4 ∨ k = 5 ∨ k = 6 ∨ k = 7 ∨ k = 8 ∨ k = 9 ∨ k = 10 ∨ k = 11 ∨ k = 12
 ·rcases h with rfl | rfl | rfl | rfl | rfl | rfl | rfl | rfl | rfl | rfl | rfl | rfl <;> decide
 ·simp only [not_or] at h
  obtain ⟨h1, h2, h3, h4, h5, h6, h7, h8, h9, h10, h11, h12⟩ := h
  simp [term_shape.f, partsS, h1, h2, h3, h4, h5, h6, h7, h8, h9, h10, h11, h12]
theorem named_some {s : ByteArray} (hs : s.size < 9223372036854775808) (b : Bool) : term_named.f s b = some (if b then decide (isWord s) else decide (s = ⟨#[]⟩)) := by
 unfold term_named.f formula_Word.f
 rw [chk_t (decide_eq_true hs)]
 cases b <;> simp
theorem rightL_all : ∀ (l : List PTerm), rightL l = l.all rightT
 | [] => rfl
 | x :: l => by simp [rightL, rightL_all l]
theorem contains_some {rec : PTerm → Option Bool} {l : List PTerm} (h : ∀ x ∈ l, rec x = some (rightT x)) : slices_ContainsFunc_api_Term_api_Term__term_right_1.g rec l = some (!rightL l) := by
 unfold slices_ContainsFunc_api_Term_api_Term__term_right_1.g slices_IndexFunc_api_Term_api_Term__term_right_1.g
 have h1 := forN_find (b := fun i s => slices_IndexFunc_api_Term_api_Term__term_right_1.b0 rec l i) (p := fun k => !rightT (l.getD k PTerm.z)) (r := fun k => (k : Int)) l.length 0 () (by
  intro k _ hk
  unfold slices_IndexFunc_api_Term_api_Term__term_right_1.b0 term_right_1.g
  have hk' : k < l.length := by omega
  rw [at_nat hk', h _ (List.getElem_mem hk')]
  simp only [Option.bind_some, List.getD_eq_getElem?_getD, List.getElem?_eq_getElem hk', Option.getD_some]
  cases rightT l[k] <;> rfl)
 have e0 : (((l.length : Nat) : Int) - 0).toNat = l.length := by omega
 rw [e0, show (0 : Int) = ((0 : Nat) : Int) from rfl, h1]
 have h2 : rightL l = !((List.range' 0 l.length).find? fun k => !rightT (l.getD k PTerm.z)).isSome := by
  rw [rightL_all, ← any_find]
  rw [Bool.eq_iff_iff]
  simp only [List.all_eq_true, Bool.not_eq_true', List.any_eq_false, Bool.not_eq_true, Bool.not_eq_false', List.mem_range'_1]
  constructor
  ·intro hh k hk
   have hk' : k < l.length := by omega
   simp only [List.getD_eq_getElem?_getD, List.getElem?_eq_getElem hk', Option.getD_some]
   simpa using hh _ (List.getElem_mem hk')
  ·intro hh x hx
   obtain ⟨k, hk, rfl⟩ := List.getElem_of_mem hx
   have := hh k ⟨by omega, by omega⟩
   simp only [List.getD_eq_getElem?_getD, List.getElem?_eq_getElem hk, Option.getD_some] at this
   simpa using this
 rw [h2]
 cases (List.range' 0 l.length).find? fun k => !rightT (l.getD k PTerm.z) with
 | none => simp [aft]
 | some k => simp [aft]
theorem right_some : ∀ (K : Nat) (x : PTerm), nmT x → depT x ≤ K → term_right.f K x = some (rightT x)
 | 0, x, _, h => by have := depT_pos x; omega
 | K + 1, x, hn, hK => by
  have hd := depT_eq x
  obtain ⟨n1, n2, n3⟩ := (nmT_eq x).1 hn
  show term_right.g (term_right.f K) x = _
  unfold term_right.g
  rw [shape_some, contains_some (l := x.sub) fun y hy => right_some K y (nmL_mem n3 y hy) (by have := depL_mem y hy; omega)]
  rw [rightT_eq]
  unfold nodeR
  by_cases hp : partsS x.kind = -1
  ·have : ¬ (-1 : Int) = (x.sub.length : Int) := by omega
   simp [hp, this]
  ·simp only [hp, if_false, Option.bind_some, named_some n1, named_some n2]
   generalize partsS x.kind = p at hp
   by_cases hl : p = (x.sub.length : Int)
   ·by_cases hk : x.kind = 1 ∨ x.kind = 2 ∨ x.kind = 9 ∨ x.kind = 12
    ·simp only [if_pos hk, decide_eq_true hk]
     by_cases hw : isWord x.name
     ·by_cases h9 : x.kind = 9
      ·simp only [if_pos h9, decide_eq_true h9]
       by_cases ho : isWord x.other
       ·by_cases hf : x.form = 0
        ·simp [hl, h9, hw, ho, hf]
        ·simp [hl, h9, hw, ho, hf]
       ·simp [hl, h9, hw, ho]
      ·simp only [if_neg h9, decide_eq_false h9]
       by_cases ho : x.other = ⟨#[]⟩
       ·by_cases h11 : x.kind = 11
        ·omega
        ·by_cases hf : x.form = 0
         ·simp [hl, h11, hw, ho, hf]
         ·simp [hl, h11, hw, ho, hf]
       ·simp [hl, hw, ho]
     ·simp [hl, hw]
    ·have h9 : ¬ x.kind = 9 := fun e => hk (.inr (.inr (.inl e)))
     simp only [if_neg hk, decide_eq_false hk, if_neg h9, decide_eq_false h9]
     by_cases hw : x.name = ⟨#[]⟩
     ·by_cases ho : x.other = ⟨#[]⟩
      ·by_cases h11 : x.kind = 11
       ·by_cases hf : 0 ≤ x.form
        ·by_cases hg : x.form < 1024
         ·have q1 : ¬ x.form < 0 := by omega
          have q2 : ¬ 1024 ≤ x.form := by omega
          simp [hl, h11, hw, ho, hf, hg, q1, q2]
         ·have q2 : 1024 ≤ x.form := by omega
          simp [hl, h11, hw, ho, hf, hg, q2]
        ·have q1 : x.form < 0 := by omega
         simp [hl, h11, hw, ho, hf, q1]
       ·by_cases hf : x.form = 0
        ·simp [hl, h11, hw, ho, hf]
        ·simp [hl, h11, hw, ho, hf]
      ·simp [hl, hw, ho]
     ·simp [hl, hw]
   ·have hl' : ¬ (x.sub.length : Int) = p := fun e => hl e.symm
    simp [hl, hl']
def checkT (x : PTerm) : Int := if 65536 < sizeT x ∨ 1024 < depT x then 121 else if rightT x then 0 else 120
theorem Check_some {K : Nat} {x : PTerm} (hK : 66562 ≤ K) (hn : nmT x) : term_Check.f K x = some (checkT x) := by
 unfold term_Check.f term_Size.f term_Deep.f checkT
 simp only [Option.bind_some]
 by_cases hs : 65536 < sizeT x
 ·have h1 : min (sizeT x) 65537 = 65537 := by omega
  simp [h1, hs]
 ·have h1 : min (sizeT x) 65537 = sizeT x := by omega
  have h2 : ¬ (65536 : Int) < (sizeT x : Int) := by omega
  rw [h1, show (1025 : Int) = ((1025 : Nat) : Int) from rfl]
  simp only [h2, decide_false, Bool.not_false, if_true, deep_some K x 1025 (by omega) (by omega) (by omega) (by omega), Option.bind_some, Bool.false_or, decide_eq_true_eq, hs, false_or]
  by_cases hd : 1024 < depT x
  ·have h3 : (1024 : Int) < ((min (depT x) 1025 : Nat) : Int) := by omega
   simp [h3, hd]
  ·have h3 : ¬ (1024 : Int) < ((min (depT x) 1025 : Nat) : Int) := by omega
   rw [if_neg h3, if_neg hd, right_some K x hn (by omega)]
   cases rightT x <;> rfl
end Go.Proofs.YtjebgcoknpcadaaDoor
end
section
namespace Go.Proofs.YtjebgcoknpcadaaDoor
open Gw
def err : TR → Option (Int × List Int)
 | .ok _ => none
 | .no c w => some (c, w.reverse)
abbrev Tc : Type := PChecker → PTerm → List (ByteArray × Int) → Option (Int × Option (Int × List Int))
abbrev Cc : Type := PChecker → PTerm → List (ByteArray × Int) → Int → Option (Option (Int × List Int))
def Sok (M : List Nd) (s : Sc) : Prop := ∀ q ∈ s, inb q.2 M.length = true
theorem Sok.cons {M : List Nd} {s : Sc} {n : ByteArray} {f : Int} (h : Sok M s) (hf : inb f M.length = true) : Sok M ((n, f) :: s) := fun q hq => by
 rcases List.mem_cons.1 hq with rfl | hq
 ·exact hf
 ·exact h q hq
abbrev PS (M : List Nd) (k : Nat) (x : PTerm) : Int → Sc → Option Int → TR := fun i s' w => (tyS M k (at_ PTerm.z x.sub i) s' w).at_ i
def Tells (M : List Nd) (r : Option (Int × Option (Int × List Int))) (t : TR) : Prop := ∃ i, r = some (i, err t) ∧ ∀ f, t = .ok f → i = f ∧ inb f M.length = true
theorem at_err {r : TR} {i : Int} (h : r.way.length ≤ 2000) : types_at.f i (err r) = some (err (r.at_ i)) := by
 cases r with
 | ok f => rfl
 | no c w =>
  simp only [TR.way] at h
  simp only [err, types_at.f, TR.at_, List.reverse_cons, List.length_reverse]
  rw [chk_t (decide_eq_true (by omega))]
theorem TR.ok_at {r : TR} {i f : Int} (h : r.at_ i = .ok f) : r = .ok f := TR.at_ok.1 h
theorem node_tab {M : List Nd} {i k : Int} (hi : inb i M.length = true) : types_checker_node.f ⟨some M⟩ i k = some (nd M i, if (nd M i).kind = k then none else some (130, [])) := by
 simp only [types_checker_node.f, formula_Table_Node.f, Option.map_some, Option.bind_some]
 by_cases h : (nd M i).kind = k
 ·simp [nd, h] at h ⊢ <;> simp [h]
 ·simp [nd] at h ⊢ <;> simp [h]
section
variable {M : List Nd} {x : PTerm} {k : Nat} {T : Tc} {C : Cc}
theorem part_tells (hk : k ≤ 1999) {i : Int} (hi : inb i x.sub.length = true) {s : Sc} (h : Tells M (T ⟨some M⟩ (at_ PTerm.z x.sub i) s) (tyS M k (at_ PTerm.z x.sub i) s none)) : Tells M (types_checker_part.g T ⟨some M⟩ x i s) (PS M k x i s none) := by
 obtain ⟨j, h1, h2⟩ := h
 refine ⟨j, ?_, fun f hf => h2 f (TR.ok_at hf)⟩
 unfold types_checker_part.g
 rw [chk_t hi, h1]
 simp only [Option.bind_some]
 rw [at_err (Nat.le_trans (tyS_way k _ _ _) (by omega))]
 rfl
theorem check_tells (hk : k ≤ 1999) {i id : Int} (hi : inb i x.sub.length = true) {s : Sc} (h : C ⟨some M⟩ (at_ PTerm.z x.sub i) s id = some (err (tyS M k (at_ PTerm.z x.sub i) s (some id)))) : types_checker_check.g C ⟨some M⟩ x i s id = some (err (PS M k x i s (some id))) := by
 unfold types_checker_check.g
 rw [chk_t hi, h]
 simp only [Option.bind_some]
 rw [at_err (Nat.le_trans (tyS_way k _ _ _) (by omega))]
 rfl
def hdS (M : List Nd) (P : Int → Sc → Option Int → TR) (s : Sc) (kd : Int) : TR := (P 0 s none).bind fun f => if (nd M f).kind = kd then .ok f else .no 130 []
theorem hdS_eq (P : Int → Sc → Option Int → TR) (s : Sc) (kd : Int) (g : Nd → TR) : ((P 0 s none).bind fun f => ofK M f kd g) = (hdS M P s kd).bind fun f => g (nd M f) := by
 unfold hdS
 cases P 0 s none with
 | ok f =>
  simp only [TR.bind, ofK]
  split <;> rfl
 | no c w => rfl
theorem head_tells (hk : k ≤ 1999) (hi : inb 0 x.sub.length = true) {s : Sc} {kd : Int} (h : Tells M (T ⟨some M⟩ (at_ PTerm.z x.sub 0) s) (tyS M k (at_ PTerm.z x.sub 0) s none)) :
  ∃ n, types_checker_head.g T ⟨some M⟩ x s kd = some (n, err (hdS M (PS M k x) s kd)) ∧ ∀ f, hdS M (PS M k x) s kd = .ok f → n = nd M f ∧ inb f M.length = true ∧ (nd M f).kind = kd := by
 obtain ⟨j, h1, h2⟩ := part_tells hk hi h
 unfold types_checker_head.g hdS
 rw [h1]
 simp only [Option.bind_some]
 cases hp : PS M k x 0 s none with
 | no c w => exact ⟨Nd.z, rfl, fun f hf => by cases hf⟩
 | ok f =>
  obtain ⟨rfl, hb⟩ := h2 f hp
  simp only [err, Option.isSome_none, Bool.false_eq_true, if_false, node_tab hb, Option.bind_some, TR.bind]
  by_cases hkd : (nd M j).kind = kd
  ·simp only [hkd, if_true]
   exact ⟨_, rfl, fun f hf => by cases hf; exact ⟨rfl, hb, hkd⟩⟩
  ·simp only [hkd, if_false]
   exact ⟨_, rfl, fun f hf => by cases hf⟩
structure Parts (M : List Nd) (k : Nat) (x : PTerm) (T : Tc) (C : Cc) : Prop where
 told : ∀ i, inb i x.sub.length = true → ∀ s, Sok M s → Tells M (T ⟨some M⟩ (at_ PTerm.z x.sub i) s) (tyS M k (at_ PTerm.z x.sub i) s none)
 chkd : ∀ i, inb i x.sub.length = true → ∀ s, Sok M s → ∀ id, inb id M.length = true → C ⟨some M⟩ (at_ PTerm.z x.sub i) s id = some (err (tyS M k (at_ PTerm.z x.sub i) s (some id)))
theorem inb_len {i : Int} {n : Nat} (h : (0 ≤ i ∧ i < n) ) : inb i n = true := by simp [inb, h.1, h.2]
theorem rt_len (hr : rightT x = true) : partsS x.kind = (x.sub.length : Int) := by
 rw [rightT_eq] at hr
 simp only [nodeR, Bool.and_eq_true, decide_eq_true_eq] at hr
 exact hr.1.1.1.1
theorem find_tab {s : Sc} (hs : Sok M s) (n : ByteArray) {q : ByteArray × Int} (h : s.find? (fun q => decide (q.1 = n)) = some q) : inb q.2 M.length = true := hs q (List.mem_of_find?_eq_some h)
theorem told_tells (hM : Wf M) (hk : k ≤ 1999) (hr : rightT x = true) (hP : Parts M k x T C) {s : Sc} (hs : Sok M s) : Tells M (types_checker_told.g T C ⟨some M⟩ x s) (toldS M (PS M k x) s x) := by
 have hl := rt_len hr
 have hno : ∀ c, Tells M (some (0, some (c, []))) (.no c []) := fun c => ⟨0, rfl, fun f hf => by cases hf⟩
 by_cases k1 : x.kind = 1
 ·simp only [types_checker_told.g, toldS, k1, decide_true, if_true, types_scope_find.f, Option.bind_some]
  cases hf : s.find? (fun q => decide (q.1 = x.name)) with
  | none => exact hno 131
  | some q => exact ⟨q.2, rfl, fun f hf' => by cases hf'; exact ⟨rfl, find_tab hs _ hf⟩⟩
 by_cases k3 : x.kind = 3
 ·simp only [k3, partsS] at hl
  have h0 := inb_len (i := 0) (n := x.sub.length) (by omega)
  have h1 := inb_len (i := 1) (n := x.sub.length) (by omega)
  have e : toldS M (PS M k x) s x = (hdS M (PS M k x) s 5).bind fun f => (PS M k x 1 s (some (nd M f).l)).bind fun _ => .ok (nd M f).r := by
   rw [← hdS_eq (g := fun n => (PS M k x 1 s (some n.l)).bind fun _ => .ok n.r)]
   simp [toldS, k3]
  obtain ⟨n, e1, e2⟩ := head_tells (kd := 5) hk h0 (hP.told 0 h0 s hs)
  rw [e]
  simp only [types_checker_told.g, k3, Int.reduceEq, decide_false, decide_true, Bool.false_eq_true, if_false, if_true, e1, Option.bind_some]
  cases hh : hdS M (PS M k x) s 5 with
  | no c w => exact ⟨0, rfl, fun f hf => by cases hf⟩
  | ok f =>
   obtain ⟨rfl, hb, hkd⟩ := e2 f hh
   have hl := hM.left hb (.inr (.inr hkd))
   have hrr := hM.right hb (.inr (.inr hkd))
   simp only [err, Option.isSome_none, Bool.false_eq_true, if_false, check_tells hk h1 (hP.chkd 1 h1 s hs _ hl), Option.bind_some, TR.bind]
   cases PS M k x 1 s (some (nd M f).l) with
   | ok g => exact ⟨_, rfl, fun f' hf => by cases hf; exact ⟨rfl, hrr⟩⟩
   | no c w => exact ⟨_, rfl, fun f' hf => by cases hf⟩
 by_cases k5 : x.kind = 5
 ·simp only [k5, partsS] at hl
  have h0 := inb_len (i := 0) (n := x.sub.length) (by omega)
  have e : toldS M (PS M k x) s x = (hdS M (PS M k x) s 3).bind fun f => .ok (nd M f).l := by
   rw [← hdS_eq (g := fun n => .ok n.l)]
   simp [toldS, k5]
  obtain ⟨n, e1, e2⟩ := head_tells (kd := 3) hk h0 (hP.told 0 h0 s hs)
  rw [e]
  simp only [types_checker_told.g, k5, Int.reduceEq, decide_false, decide_true, Bool.false_eq_true, if_false, if_true, e1, Option.bind_some]
  cases hh : hdS M (PS M k x) s 3 with
  | no c w => exact ⟨_, rfl, fun f hf => by cases hf⟩
  | ok f =>
   obtain ⟨rfl, hb, hkd⟩ := e2 f hh
   exact ⟨_, rfl, fun f' hf => by cases hf; exact ⟨rfl, hM.left hb (.inl hkd)⟩⟩
 by_cases k6 : x.kind = 6
 ·simp only [k6, partsS] at hl
  have h0 := inb_len (i := 0) (n := x.sub.length) (by omega)
  have e : toldS M (PS M k x) s x = (hdS M (PS M k x) s 3).bind fun f => .ok (nd M f).r := by
   rw [← hdS_eq (g := fun n => .ok n.r)]
   simp [toldS, k6]
  obtain ⟨n, e1, e2⟩ := head_tells (kd := 3) hk h0 (hP.told 0 h0 s hs)
  rw [e]
  simp only [types_checker_told.g, k6, Int.reduceEq, decide_false, decide_true, Bool.false_eq_true, if_false, if_true, e1, Option.bind_some]
  cases hh : hdS M (PS M k x) s 3 with
  | no c w => exact ⟨_, rfl, fun f hf => by cases hf⟩
  | ok f =>
   obtain ⟨rfl, hb, hkd⟩ := e2 f hh
   exact ⟨_, rfl, fun f' hf => by cases hf; exact ⟨rfl, hM.right hb (.inl hkd)⟩⟩
 by_cases k11 : x.kind = 11
 ·simp only [k11, partsS] at hl
  have h0 := inb_len (i := 0) (n := x.sub.length) (by omega)
  simp only [types_checker_told.g, toldS, k11, Int.reduceEq, decide_false, decide_true, Bool.false_eq_true, if_false, if_true, formula_Table_Node.f, Option.map_some, Option.bind_some]
  by_cases hf : inb x.form M.length = true
  ·have hf' : (nodeS M x.form).2 = true := by
    have := inb_ex hf
    simp [nodeS, hasRow, this.1, this.2]
   simp only [hf, hf', if_true, Bool.not_true, Bool.false_eq_true, if_false, check_tells hk h0 (hP.chkd 0 h0 s hs _ hf), Option.bind_some]
   cases PS M k x 0 s (some x.form) with
   | ok g => exact ⟨_, rfl, fun f' hf2 => by cases hf2; exact ⟨rfl, hf⟩⟩
   | no c w => exact ⟨_, rfl, fun f' hf2 => by cases hf2⟩
  ·have hf' : (nodeS M x.form).2 = false := by
    have h2 : ¬ hasRow M x.form = true := fun e => hf (by
     simp only [hasRow, Bool.and_eq_true, decide_eq_true_eq] at e
     exact inb_len e)
    simp [nodeS, h2]
   simp only [hf, hf', Bool.not_false, if_true, Bool.false_eq_true, if_false]
   exact hno 31
 by_cases k12 : x.kind = 12
 ·simp only [k12, partsS] at hl
  have h0 := inb_len (i := 0) (n := x.sub.length) (by omega)
  have h1 := inb_len (i := 1) (n := x.sub.length) (by omega)
  obtain ⟨j, e1, e2⟩ := part_tells hk h0 (hP.told 0 h0 s hs)
  simp only [types_checker_told.g, toldS, k12, Int.reduceEq, decide_false, decide_true, Bool.false_eq_true, if_false, if_true, e1, Option.bind_some]
  cases hh : PS M k x 0 s none with
  | no c w => exact ⟨0, rfl, fun f hf => by cases hf⟩
  | ok f =>
   obtain ⟨rfl, hb⟩ := e2 f hh
   simp only [err, Option.isSome_none, Bool.false_eq_true, if_false, TR.bind]
   obtain ⟨j2, e3, e4⟩ := part_tells hk h1 (hP.told 1 h1 ((x.name, j) :: s) (hs.cons hb))
   rw [e3]
   exact ⟨j2, rfl, e4⟩
 by_cases k9 : x.kind = 9
 ·simp only [k9, partsS] at hl
  have h0 := inb_len (i := 0) (n := x.sub.length) (by omega)
  have h1 := inb_len (i := 1) (n := x.sub.length) (by omega)
  have h2 := inb_len (i := 2) (n := x.sub.length) (by omega)
  have e : toldS M (PS M k x) s x = (hdS M (PS M k x) s 4).bind fun f => (PS M k x 1 ((x.name, (nd M f).l) :: s) none).bind fun a => (PS M k x 2 ((x.other, (nd M f).r) :: s) none).bind fun b => if a = b then .ok a else .no 130 [] := by
   rw [← hdS_eq (g := fun n => (PS M k x 1 ((x.name, n.l) :: s) none).bind fun a => (PS M k x 2 ((x.other, n.r) :: s) none).bind fun b => if a = b then .ok a else .no 130 [])]
   simp [toldS, k9]
  obtain ⟨n, e1, e2⟩ := head_tells (kd := 4) hk h0 (hP.told 0 h0 s hs)
  rw [e]
  simp only [types_checker_told.g, k9, Int.reduceEq, decide_false, decide_true, Bool.false_eq_true, if_false, if_true, e1, Option.bind_some]
  cases hh : hdS M (PS M k x) s 4 with
  | no c w => exact ⟨0, rfl, fun f hf => by cases hf⟩
  | ok f =>
   obtain ⟨rfl, hb, hkd⟩ := e2 f hh
   have hl := hM.left hb (.inr (.inl hkd))
   have hrr := hM.right hb (.inr (.inl hkd))
   obtain ⟨j2, e3, e4⟩ := part_tells hk h1 (hP.told 1 h1 ((x.name, (nd M f).l) :: s) (hs.cons hl))
   simp only [err, Option.isSome_none, Bool.false_eq_true, if_false, TR.bind, e3, Option.bind_some]
   cases hh2 : PS M k x 1 ((x.name, (nd M f).l) :: s) none with
   | no c w => exact ⟨0, rfl, fun f hf => by cases hf⟩
   | ok a =>
    obtain ⟨rfl, hb2⟩ := e4 a hh2
    obtain ⟨j3, e5, e6⟩ := part_tells hk h2 (hP.told 2 h2 ((x.other, (nd M f).r) :: s) (hs.cons hrr))
    simp only [err, Option.isSome_none, Bool.false_eq_true, if_false, TR.bind, e5, Option.bind_some]
    cases hh3 : PS M k x 2 ((x.other, (nd M f).r) :: s) none with
    | no c w => exact ⟨_, rfl, fun f hf => by cases hf⟩
    | ok b =>
     obtain ⟨rfl, hb3⟩ := e6 b hh3
     by_cases hab : j2 = j3
     ·subst hab
      simp only [err, TR.bind, if_true]
      exact ⟨j2, by simp [err], fun f' hf => by cases hf; exact ⟨rfl, hb2⟩⟩
     ·have hba : ¬ j3 = j2 := fun e => hab e.symm
      simp only [err, TR.bind, hab, if_false]
      exact ⟨j2, by simp [err, hba], fun f' hf => by cases hf⟩
 simp only [types_checker_told.g, toldS, k1, k3, k5, k6, k9, k11, k12, decide_false, Bool.false_eq_true, if_false]
 exact hno 132
theorem err_bind_none {t : TR} {y : Option (Option (Int × List Int))} {z : TR} (h : ∀ f, t = .ok f → y = some (err z)) : (if (err t).isSome = true then some (err t) else y) = some (err (t.bind fun _ => z)) := by
 cases t with
 | ok f => simpa [err, TR.bind] using h f rfl
 | no c w => simp [err, TR.bind]
theorem chkd_tells (hM : Wf M) (hk : k ≤ 1999) (hr : rightT x = true) (hP : Parts M k x T C) {s : Sc} (hs : Sok M s) {id : Int} (hid : inb id M.length = true) (hT : Tells M (T ⟨some M⟩ x s) (toldS M (PS M k x) s x)) : types_checker_checked.g T C ⟨some M⟩ x s id = some (err (chkdS M (PS M k x) s x id)) := by
 have hl := rt_len hr
 have hnode : ∀ (kd : Int) (g : Nd → TR) (y : Nd → Option (Option (Int × List Int))), ((nd M id).kind = kd → y (nd M id) = some (err (g (nd M id)))) → ((types_checker_node.f ⟨some M⟩ id kd).bind fun r => if r.2.isSome = true then some r.2 else y r.1) = some (err (ofK M id kd g)) := by
  intro kd g y hy
  rw [node_tab hid]
  simp only [Option.bind_some, ofK]
  by_cases h : (nd M id).kind = kd
  ·simp only [h, if_true, Option.isSome_none, Bool.false_eq_true, if_false]; exact hy h
  ·simp only [h, if_false, Option.isSome_some, if_true]; rfl
 have hsome : ∀ {y : Option (Option (Int × List Int))}, (y.bind fun r => some r) = y := fun {y} => by cases y <;> rfl
 by_cases k2 : x.kind = 2
 ·simp only [k2, partsS] at hl
  have h0 := inb_len (i := 0) (n := x.sub.length) (by omega)
  simp only [types_checker_checked.g, chkdS, k2, decide_true, if_true, hsome]
  exact hnode 5 (fun n => PS M k x 0 ((x.name, n.l) :: s) (some n.r)) (fun n => types_checker_check.g C ⟨some M⟩ x 0 ((x.name, n.l) :: s) n.r) fun hkd => check_tells hk h0 (hP.chkd 0 h0 _ (hs.cons (hM.left hid (.inr (.inr hkd)))) _ (hM.right hid (.inr (.inr hkd))))
 by_cases k4 : x.kind = 4
 ·simp only [k4, partsS] at hl
  have h0 := inb_len (i := 0) (n := x.sub.length) (by omega)
  have h1 := inb_len (i := 1) (n := x.sub.length) (by omega)
  simp only [types_checker_checked.g, chkdS, k4, Int.reduceEq, decide_false, decide_true, Bool.false_eq_true, if_false, if_true, hsome]
  refine hnode 3 (fun n => (PS M k x 0 s (some n.l)).bind fun _ => PS M k x 1 s (some n.r)) (fun n => (types_checker_check.g C ⟨some M⟩ x 0 s n.l).bind fun r30 => if r30.isSome = true then some r30 else types_checker_check.g C ⟨some M⟩ x 1 s n.r) fun hkd => ?_
  rw [check_tells hk h0 (hP.chkd 0 h0 s hs _ (hM.left hid (.inl hkd)))]
  simp only [Option.bind_some]
  exact err_bind_none fun f _ => check_tells hk h1 (hP.chkd 1 h1 s hs _ (hM.right hid (.inl hkd)))
 by_cases k7 : x.kind = 7
 ·simp only [k7, partsS] at hl
  have h0 := inb_len (i := 0) (n := x.sub.length) (by omega)
  simp only [types_checker_checked.g, chkdS, k7, Int.reduceEq, decide_false, decide_true, Bool.false_eq_true, if_false, if_true, hsome, Option.bind_some]
  exact hnode 4 (fun n => PS M k x 0 s (some n.l)) (fun n => types_checker_check.g C ⟨some M⟩ x 0 s n.l) fun hkd => check_tells hk h0 (hP.chkd 0 h0 s hs _ (hM.left hid (.inr (.inl hkd))))
 by_cases k8 : x.kind = 8
 ·simp only [k8, partsS] at hl
  have h0 := inb_len (i := 0) (n := x.sub.length) (by omega)
  simp only [types_checker_checked.g, chkdS, k8, Int.reduceEq, decide_false, decide_true, Bool.false_eq_true, if_false, if_true, hsome, Option.bind_some]
  exact hnode 4 (fun n => PS M k x 0 s (some n.r)) (fun n => types_checker_check.g C ⟨some M⟩ x 0 s n.r) fun hkd => check_tells hk h0 (hP.chkd 0 h0 s hs _ (hM.right hid (.inr (.inl hkd))))
 by_cases k9 : x.kind = 9
 ·simp only [k9, partsS] at hl
  have h0 := inb_len (i := 0) (n := x.sub.length) (by omega)
  have h1 := inb_len (i := 1) (n := x.sub.length) (by omega)
  have h2 := inb_len (i := 2) (n := x.sub.length) (by omega)
  have e : chkdS M (PS M k x) s x id = (hdS M (PS M k x) s 4).bind fun f => (PS M k x 1 ((x.name, (nd M f).l) :: s) (some id)).bind fun _ => PS M k x 2 ((x.other, (nd M f).r) :: s) (some id) := by
   rw [← hdS_eq (g := fun n => (PS M k x 1 ((x.name, n.l) :: s) (some id)).bind fun _ => PS M k x 2 ((x.other, n.r) :: s) (some id))]
   simp [chkdS, k9]
  obtain ⟨n, e1, e2⟩ := head_tells (kd := 4) hk h0 (hP.told 0 h0 s hs)
  rw [e]
  simp only [types_checker_checked.g, k9, Int.reduceEq, decide_false, decide_true, Bool.false_eq_true, if_false, if_true, hsome, Option.bind_some, e1]
  cases hh : hdS M (PS M k x) s 4 with
  | no c w => rfl
  | ok f =>
   obtain ⟨rfl, hb, hkd⟩ := e2 f hh
   simp only [err, Option.isSome_none, Bool.false_eq_true, if_false, TR.bind]
   rw [check_tells hk h1 (hP.chkd 1 h1 _ (hs.cons (hM.left hb (.inr (.inl hkd)))) _ hid)]
   simp only [Option.bind_some]
   exact err_bind_none fun f' _ => check_tells hk h2 (hP.chkd 2 h2 _ (hs.cons (hM.right hb (.inr (.inl hkd)))) _ hid)
 by_cases k10 : x.kind = 10
 ·simp only [k10, partsS] at hl
  have h0 := inb_len (i := 0) (n := x.sub.length) (by omega)
  have e : chkdS M (PS M k x) s x id = (hdS M (PS M k x) s 2).bind fun f => .ok id := by
   rw [← hdS_eq (g := fun n => .ok id)]
   simp [chkdS, k10]
  obtain ⟨n, e1, e2⟩ := head_tells (kd := 2) hk h0 (hP.told 0 h0 s hs)
  rw [e]
  simp only [types_checker_checked.g, k10, Int.reduceEq, decide_false, decide_true, Bool.false_eq_true, if_false, if_true, hsome, Option.bind_some, e1]
  cases hh : hdS M (PS M k x) s 2 with
  | no c w => rfl
  | ok f => rfl
 by_cases k12 : x.kind = 12
 ·simp only [k12, partsS] at hl
  have h0 := inb_len (i := 0) (n := x.sub.length) (by omega)
  have h1 := inb_len (i := 1) (n := x.sub.length) (by omega)
  obtain ⟨j, e1, e2⟩ := part_tells hk h0 (hP.told 0 h0 s hs)
  simp only [types_checker_checked.g, chkdS, k12, Int.reduceEq, decide_false, decide_true, Bool.false_eq_true, if_false, if_true, hsome, Option.bind_some, e1]
  cases hh : PS M k x 0 s none with
  | no c w => rfl
  | ok f =>
   obtain ⟨rfl, hb⟩ := e2 f hh
   simp only [err, Option.isSome_none, Bool.false_eq_true, if_false, TR.bind]
   exact check_tells hk h1 (hP.chkd 1 h1 _ (hs.cons hb) _ hid)
 obtain ⟨j, e1, e2⟩ := hT
 simp only [types_checker_checked.g, chkdS, k2, k4, k7, k8, k9, k10, k12, decide_false, Bool.false_eq_true, if_false, Option.bind_some, e1]
 cases hh : toldS M (PS M k x) s x with
 | no c w => simp [err, TR.bind]
 | ok f =>
  obtain ⟨rfl, hb⟩ := e2 f hh
  by_cases hj : j = id
  ·subst hj; simp [err, TR.bind]
  ·simp [err, TR.bind, hj]
end
theorem tc_prog {M : List Nd} (hM : Wf M) : ∀ (k : Nat), k ≤ 1999 → ∀ (x : PTerm), rightT x = true → depT x ≤ k →
  (∀ (s : Sc), Sok M s → ∀ K, 2 * k ≤ K → Tells M (types_checker_told.f K ⟨some M⟩ x s) (tyS M k x s none)) ∧
  (∀ (s : Sc), Sok M s → ∀ id, inb id M.length = true → ∀ K, 2 * k + 1 ≤ K → types_checker_checked.f K ⟨some M⟩ x s id = some (err (tyS M k x s (some id))))
 | 0, _, x, _, h => by have := depT_pos x; omega
 | k + 1, hk, x, hr, hd => by
  have hde := depT_eq x
  have hsub : ∀ i, inb i x.sub.length = true → rightT (at_ PTerm.z x.sub i) = true ∧ depT (at_ PTerm.z x.sub i) ≤ k := fun i hi => by
   have hm := at_mem (inb_ex hi)
   rw [rightT_eq, Bool.and_eq_true] at hr
   exact ⟨rightL_mem hr.2 _ hm, by have := depL_mem _ hm; omega⟩
  have hP : ∀ K, 2 * k + 1 ≤ K → Parts M k x (types_checker_told.f K) (types_checker_checked.f K) := fun K hK =>
   ⟨fun i hi s hs => (tc_prog hM k (by omega) _ (hsub i hi).1 (hsub i hi).2).1 s hs K (by omega), fun i hi s hs id hid => (tc_prog hM k (by omega) _ (hsub i hi).1 (hsub i hi).2).2 s hs id hid K (by omega)⟩
  have h1 : ∀ (s : Sc), Sok M s → ∀ K, 2 * (k + 1) ≤ K → Tells M (types_checker_told.f K ⟨some M⟩ x s) (tyS M (k + 1) x s none) := fun s hs K hK => by
   obtain ⟨K', rfl⟩ : ∃ K', K = K' + 1 := ⟨K - 1, by omega⟩
   exact told_tells hM (by omega) hr (hP K' (by omega)) hs
  refine ⟨h1, fun s hs id hid K hK => ?_⟩
  obtain ⟨K', rfl⟩ : ∃ K', K = K' + 1 := ⟨K - 1, by omega⟩
  exact chkd_tells hM (by omega) hr (hP K' (by omega)) hs hid (h1 s hs K' (by omega))
end Go.Proofs.YtjebgcoknpcadaaDoor
end
section
namespace Go.Proofs.YtjebgcoknpcadaaDoor
open Gw
end Go.Proofs.YtjebgcoknpcadaaDoor
end
section
namespace Go.Proofs.YtjebgcoknpcadaaDoor
open Gw
def scS (l : List Hyp) : Sc := (l.map fun h => (h.name, h.form)).reverse
def hypsOk (M : List Nd) (l : List Hyp) : Bool := l.all fun h => inb h.form M.length
theorem scS_ok {M : List Nd} {l : List Hyp} (h : hypsOk M l = true) : Sok M (scS l) := fun q hq => by
 obtain ⟨a, ha, rfl⟩ := List.mem_map.1 (List.mem_reverse.1 hq)
 exact List.all_eq_true.1 h a ha
theorem ahead_loop (l : List Hyp) : ∀ (n i : Nat) (ids : List Int) (s : Sc), i + n = l.length → (ids.length + n) * 8 ≤ 140737488355328 →
  forS (fun i s => types_ahead.b0 l i s.1 s.2) n (i : Int) (ids, s) = some (ids ++ (l.drop i).map (·.form), ((l.drop i).map fun h => (h.name, h.form)).reverse ++ s)
 | 0, i, ids, s, hi, _ => by
  rw [List.drop_eq_nil_of_le (by omega)]; simp [forS]
 | n + 1, i, ids, s, hi, hb => by
  have hil : i < l.length := by omega
  have he : at_ Hyp.z l (i : Int) = l[i] := by
   unfold at_; rw [Int.toNat_natCast, List.getD_eq_getElem?_getD, List.getElem?_eq_getElem hil]; rfl
  have hb0 : types_ahead.b0 l (i : Int) ids s = some (ids ++ [l[i].form], (l[i].name, l[i].form) :: s) := by
   simp only [types_ahead.b0, types_scope_with.f, Option.bind_some, he]
   rw [chk_t (decide_eq_true (by simp only [List.length_singleton]; omega))]
  rw [forS]
  show (types_ahead.b0 l (i : Int) ids s).bind _ = _
  rw [hb0]
  simp only [Option.bind_some]
  have := ahead_loop l n (i + 1) (ids ++ [l[i].form]) ((l[i].name, l[i].form) :: s) (by omega) (by simp only [List.length_append, List.length_singleton]; omega)
  rw [show ((i : Int) + 1) = ((i + 1 : Nat) : Int) by omega, this, List.drop_eq_getElem_cons hil]
  simp only [List.map_cons, List.reverse_cons, List.append_assoc, List.cons_append, List.nil_append, List.singleton_append]
theorem has_inb {M : List Nd} (i : Int) : (nodeS M i).2 = inb i M.length := by
 unfold nodeS hasRow inb
 split <;> simp_all
theorem ahead_some {K : Nat} {M : List Nd} {l : List Hyp} {x : PTerm} {ids : List Int} (hK : 66562 ≤ K) (hn : nmT x) (hb : (ids.length + l.length) * 8 ≤ 140737488355328) :
  types_ahead.f K (some M) l x ids = some (if (ids.all fun i => inb i M.length) && hypsOk M l then (scS l, checkT x) else ([], 31)) := by
 unfold types_ahead.f
 have h1 := ahead_loop l l.length 0 ids [] (by omega) (by omega)
 have e0 : (((l.length : Nat) : Int) - 0).toNat = l.length := by omega
 simp only [formula_Table_Not_neg.f, Option.bind_some, show decide ((31 : Int) = 1) = false from rfl, Bool.false_eq_true, if_false, e0]
 rw [show (0 : Int) = ((0 : Nat) : Int) from rfl, h1]
 simp only [Option.bind_some, List.drop_zero, List.append_nil]
 generalize hids : ids ++ l.map (·.form) = js
 have h2 := forN_find (b := fun i s => types_ahead.b1 (some M) (js, (l.map fun h => (h.name, h.form)).reverse) i) (p := fun k => !inb (js.getD k 0) M.length) (r := fun _ => (([] : List (ByteArray × Int)), (31 : Int))) js.length 0 () (by
  intro k _ hk
  unfold types_ahead.b1 at_
  simp only [formula_Table_Node.f, Option.map_some, Option.bind_some, Int.toNat_natCast, has_inb]
  cases inb (js.getD k 0) M.length <;> rfl)
 have e1 : (((js.length : Nat) : Int) - ((0 : Nat) : Int)).toNat = js.length := by omega
 rw [e1, h2]
 have h3 : ((ids.all fun i => inb i M.length) && hypsOk M l) = !((List.range' 0 js.length).find? fun k => !inb (js.getD k 0) M.length).isSome := by
  have h4 : ((ids.all fun i => inb i M.length) && hypsOk M l) = js.all fun i => inb i M.length := by
   rw [← hids, List.all_append, hypsOk, List.all_map]; rfl
  rw [h4, ← any_find, Bool.eq_iff_iff]
  simp only [List.all_eq_true, Bool.not_eq_true', List.any_eq_false, Bool.not_eq_true, Bool.not_eq_false', List.mem_range'_1]
  constructor
  ·intro hh k hk
   have hk' : k < js.length := by omega
   simp only [List.getD_eq_getElem?_getD, List.getElem?_eq_getElem hk', Option.getD_some]
   simpa using hh _ (List.getElem_mem hk')
  ·intro hh x hx
   obtain ⟨k, hk, rfl⟩ := List.getElem_of_mem hx
   have := hh k ⟨by omega, by omega⟩
   simp only [List.getD_eq_getElem?_getD, List.getElem?_eq_getElem hk, Option.getD_some] at this
   simpa using this
 rw [h3]
 cases (List.range' 0 js.length).find? fun k => !inb (js.getD k 0) M.length with
 | none => simp [aft, Check_some hK hn, scS]
 | some k => simp [aft]
def inferS (M : List Nd) (l : List Hyp) (x : PTerm) : Int × Int := if hypsOk M l then (if checkT x ≠ 0 then (0, checkT x) else ((tyS M (depT x) x (scS l) none).form, (tyS M (depT x) x (scS l) none).code)) else (0, 31)
def whereS (M : List Nd) (l : List Hyp) (x : PTerm) (id : Int) : List Int × Int := if inb id M.length && hypsOk M l then (if checkT x ≠ 0 then ([], checkT x) else ((tyS M (depT x) x (scS l) (some id)).way, (tyS M (depT x) x (scS l) (some id)).code)) else ([], 31)
theorem checkT_ok {x : PTerm} (h : ¬ checkT x ≠ 0) : sizeT x ≤ 65536 ∧ depT x ≤ 1024 ∧ rightT x = true := by
 unfold checkT at h
 split at h
 ·simp at h
 ·split at h
  ·rename_i h1 h2; exact ⟨by omega, by omega, h2⟩
  ·simp at h
theorem code_err (t : TR) : types_code.f (err t) = some (t.way, t.code) := by
 cases t <;> simp [types_code.f, err, TR.way, TR.code, slices_Reverse_int_int.f]
theorem cd_pos {t : TR} (h : Cd t) : (∀ f, t ≠ .ok f) → t.code ≠ 0 := by
 cases t with
 | ok f => intro q; exact absurd rfl (q f)
 | no c w => intro _ q; simp only [TR.code] at q; subst q; simp [Cd] at h
theorem Infer_some {K : Nat} {M : List Nd} {l : List Hyp} {x : PTerm} (hM : Wf M) (hK : 66562 ≤ K) (hn : nmT x) (hb : l.length * 8 ≤ 140737488355328) : types_Infer.f K (some M) l x = some (inferS M l x) := by
 unfold types_Infer.f inferS
 rw [ahead_some hK hn (by simpa using hb)]
 simp only [List.all_nil, Bool.true_and, Option.bind_some]
 by_cases hl : hypsOk M l = true
 ·simp only [hl, if_true]
  by_cases hc : checkT x ≠ 0
  ·simp [hc]
  ·obtain ⟨h1, h2, h3⟩ := checkT_ok hc
   obtain ⟨i, e1, e2⟩ := (tc_prog hM (depT x) (by omega) x h3 (Nat.le_refl _)).1 (scS l) (scS_ok hl) K (by omega)
   have hcd := tyS_cd (M := M) (depT x) x (scS l) none
   simp only [hc, decide_false, Bool.false_eq_true, if_false, e1, Option.bind_some, code_err]
   cases ht : tyS M (depT x) x (scS l) none with
   | ok f =>
    obtain ⟨rfl, _⟩ := e2 f ht
    simp [TR.code, TR.form]
   | no c w =>
    rw [ht] at hcd
    have := cd_pos hcd (by intro f; simp)
    simp only [TR.code] at this
    simp [TR.code, TR.form, this]
 ·simp [hl]
theorem Where_some {K : Nat} {M : List Nd} {l : List Hyp} {x : PTerm} {id : Int} (hM : Wf M) (hK : 66562 ≤ K) (hn : nmT x) (hb : (1 + l.length) * 8 ≤ 140737488355328) : types_Where.f K (some M) l x id = some (whereS M l x id) := by
 unfold types_Where.f whereS
 rw [ahead_some hK hn (by simpa using hb)]
 simp only [List.all_cons, List.all_nil, Bool.and_true, Option.bind_some]
 by_cases hl : (inb id M.length && hypsOk M l) = true
 ·simp only [hl, if_true]
  rw [Bool.and_eq_true] at hl
  by_cases hc : checkT x ≠ 0
  ·simp [hc]
  ·obtain ⟨h1, h2, h3⟩ := checkT_ok hc
   have e1 := (tc_prog hM (depT x) (by omega) x h3 (Nat.le_refl _)).2 (scS l) (scS_ok hl.2) id hl.1 K (by omega)
   simp only [hc, decide_false, Bool.false_eq_true, if_false, e1, Option.bind_some, code_err]
 ·simp [hl]
theorem CheckF_some {K : Nat} {M : List Nd} {l : List Hyp} {x : PTerm} {id : Int} (hM : Wf M) (hK : 66562 ≤ K) (hn : nmT x) (hb : (1 + l.length) * 8 ≤ 140737488355328) : types_Check.f K (some M) l x id = some (whereS M l x id).2 := by
 unfold types_Check.f
 rw [Where_some hM hK hn hb]; rfl
theorem has_some (M : List Nd) (i : Int) : ref03_T_Has.f (some M) i = some (inb i M.length) := by
 simp [ref03_T_Has.f, chk, inb]
theorem TypesOne_true {k : Nat} (hk : 66562 ≤ k) (hh : law13_heads.f k = some true) {rows : List Nd} {l : List Hyp} {x : PTerm} {id : Int} {more : Hyp} (hnm : ∀ n ∈ rows, n.name.size < 9223372036854775808) (hrl : rows.length * 40 ≤ 140737488355328) (hn : nmT x) (hb : (1 + l.length) * 24 ≤ 140737488355328) :
  law13_TypesOne.f k rows l x id more = some true := by
 unfold law13_TypesOne.f
 rcases both_some hnm hrl with h | ⟨h, hw⟩
 ·rw [h]; simp [hh]
 rw [h]
 simp only [Option.bind_some, Bool.not_true, Bool.not_false, if_true, has_some, Bool.false_or]
 cases hid : inb id rows.length with
 | false => simp [hh]
 | true =>
  simp only [Bool.not_true, Bool.not_false, if_true, has_some, Option.bind_some, Bool.false_or]
  cases hmo : inb more.form rows.length with
  | false => simp [hh]
  | true =>
   have hi := Infer_some (K := k) hw hk hn (l := l) (x := x) (by omega)
   have hc : ∀ id, types_Check.f k (some rows) l x id = some (whereS rows l x id).2 := fun id => CheckF_some hw hk hn (by omega)
   have hc2 : ∀ id, types_Check.f k (some rows) ([more] ++ l) x id = some (whereS rows (more :: l) x id).2 := fun id => CheckF_some hw hk hn (by simp; omega)
   simp only [Bool.not_true, Bool.false_eq_true, if_false, hi, hc, hc2, Option.bind_some]
   have hsc : scS (more :: l) = scS l ++ [(more.name, more.form)] := by simp [scS]
   have hho : hypsOk rows (more :: l) = hypsOk rows l := by simp [hypsOk, hmo]
   -- one formula alone
   have key1 : (inferS rows l x).2 = 0 → (whereS rows l x (inferS rows l x).1).2 = 0 ∧ ((whereS rows l x id).2 = 0 ↔ id = (inferS rows l x).1) := by
    intro h0
    unfold inferS at h0 ⊢
    cases hl : hypsOk rows l with
    | false => rw [hl] at h0; simp at h0
    | true =>
     rw [hl] at h0
     simp only [if_true] at h0 ⊢
     by_cases hck : checkT x ≠ 0
     ·rw [if_pos hck] at h0; exact absurd h0 hck
     ·rw [if_neg hck] at h0 ⊢
      obtain ⟨q1, q2, q3⟩ := checkT_ok hck
      obtain ⟨i, e1, e2⟩ := (tc_prog hw (depT x) (by omega) x q3 (Nat.le_refl _)).1 (scS l) (scS_ok hl) (2 * depT x) (Nat.le_refl _)
      have hcd := tyS_cd (M := rows) (depT x) x (scS l) none
      cases ht : tyS rows (depT x) x (scS l) none with
      | no c w =>
       rw [ht] at h0 hcd
       exact absurd h0 (cd_pos hcd (by intro f; simp))
      | ok a =>
       obtain ⟨rfl, hia⟩ := e2 a ht
       obtain ⟨o1, o2⟩ := tyS_one (depT x) x (scS l) i ht
       simp only [TR.form, whereS, hia, hl, hid, Bool.and_self, if_true]
       rw [if_neg hck, if_neg hck, o1]
       refine ⟨rfl, fun hz => ?_, fun e => by rw [e, o1]; rfl⟩
       cases hz2 : tyS rows (depT x) x (scS l) (some id) with
       | ok b => exact o2 id b hz2
       | no c w =>
        have hcd2 := tyS_cd (M := rows) (depT x) x (scS l) (some id)
        rw [hz2] at hcd2 hz
        exact absurd hz (cd_pos hcd2 (by intro f; simp))
   have key2 : (whereS rows l x id).2 = (whereS rows (more :: l) x id).2 ∨ (whereS rows l x id).2 = 131 := by
    unfold whereS
    rw [hho, hsc]
    cases hl : inb id rows.length && hypsOk rows l with
    | false => exact .inl rfl
    | true =>
     simp only [if_true]
     by_cases hck : checkT x ≠ 0
     ·rw [if_pos hck, if_pos hck]; exact .inl rfl
     ·rw [if_neg hck, if_neg hck]
      rcases tyS_wk (M := rows) (more.name, more.form) (depT x) x (scS l) (some id) with e | ⟨w, e⟩
      ·rw [e]; exact .inl rfl
      ·rw [e]; exact .inr rfl
   have hkey2 : (decide ((whereS rows l x id).2 = (whereS rows (more :: l) x id).2) || decide ((whereS rows l x id).2 = 131)) = true := by
    simpa using key2
   have hchk : decide ((([more] : List Hyp).length + l.length) * 24 ≤ 140737488355328) = true := decide_eq_true (by simpa using hb)
   by_cases h0 : (inferS rows l x).2 = 0
   ·obtain ⟨k1, k2⟩ := key1 h0
    have hd : (decide ((whereS rows l x id).2 = 0) == decide (id = (inferS rows l x).1)) = true := by
     simp [k2]
    simp only [h0, decide_true, if_true, k1, hd, Option.bind_some, aft, ne_eq, not_true_eq_false, decide_false, Bool.not_true, Bool.or_self, Bool.false_eq_true, if_false]
    rw [chk_t hchk]
    simp only [hkey2, if_true, hh, Option.bind_some, Bool.and_self]
   ·simp only [h0, decide_false, Bool.false_eq_true, if_false, Option.bind_some, aft]
    rw [chk_t hchk]
    simp only [hkey2, if_true, hh, Option.bind_some, Bool.and_self]
theorem heads13 : law13_heads.f 70000 = some true := by decide +kernel
end Go.Proofs.YtjebgcoknpcadaaDoor
end
section
namespace Go.Proofs.YtjebgcoknpcadaaDoor
open Gw Go.ChangeShapes Go.WideShapes Go.ChangeAt Go.RowKit
set_option maxRecDepth 100000
theorem ownKnob_none : ownKnob PP.godebug = none := by kernel_rfl
theorem laidOut_PP : laidOutB PP = true := by kernel_rfl
theorem trodAll_stays {H : Type} {enc : TypeId × Value → H} {W W' : World} {sp : Nat → Bool} : ∀ {ts : List TypeId} {vs : List Value} {ds : List (DataW H)} {ps : List MemPlace}, (∀ t ∈ ts, PP.readableRec t = true ∧ t < PP.types.size) →
  DataW.TrodAll enc PP W 0 (fun _ => true) true ts vs ds ps → (∀ p ∈ ps, W.sameAt W' p) → (∀ p ∈ ps, sp p.block = true) → DataW.TrodAll enc PP W' 0 sp true ts vs ds ps
 | [], vs, ds, ps, _, h, _, _ => by
  obtain ⟨rfl, rfl, rfl⟩ := trodAll_nil h
  exact trodAll_mk0
 | t :: ts, vs, ds, ps, hr, h, h1, h2 => by
  obtain ⟨v, vs, d, ds, p, q, rfl, rfl, rfl, h0, h3⟩ := trodAll_cons h
  have ht := hr t (by simp)
  exact trodAll_cons_mk (WideElems.Trod_stays laidOut_PP ht.1 ht.2 h0 (fun x hx => h1 x (by simp [hx])) (fun x hx => h2 x (by simp [hx])))
   (trodAll_stays (fun t ht => hr t (by simp [ht])) h3 (fun x hx => h1 x (by simp [hx])) (fun x hx => h2 x (by simp [hx])))
def oth0 : Oth := ⟨fun _ => False, [], fun _ h => by cases h⟩
section
variable {P : Program} {W : World} {b t : Nat} {k : IntKind} {v : Value}
theorem cell_int (ht : P.underlying t = some (.int k)) (h : Cell.okWide P W .any b t v) : ∃ n, v = .int k n ∧ k.has n := by
 simp only [Cell.okWide, ht] at h
 cases v <;> simp_all [Cell.ok]
theorem int_of (ht : P.underlying t = some (.int k)) (h : Value.okWide P W .any b t v) : ∃ n, v = .int k n ∧ k.has n := by
 unfold Value.okWide at h
 rw [ht] at h
 exact cell_int ht h
end
section
variable {H : Type} {enc : TypeId × Value → H} {P : Program} {W : World} {t : TypeId} {fuel : Nat} {cs : List Value} {x : DataW H × List MemPlace} {sp : Nat → Bool} {hd : Bool} {b0 : Nat}
theorem take_one {l : List Value} {o : Nat} {v : Value} (h : (l.drop o).take 1 = [v]) : l[o]? = some v := by
 have : ((l.drop o).take 1)[0]? = some v := by rw [h]; rfl
 rw [List.getElem?_take] at this
 simpa using this
theorem fld_int {i off ft : Nat} {k : IntKind} (hf : FieldV P t i off ft) (hk : P.underlying ft = some (.int k)) (hc : P.cellsOf ft = 1) (h : DataW.trod enc P W b0 sp hd fuel t cs = some x) : ∃ n, cs[off]? = some (.int k n) := by
 obtain ⟨fs, fd, hu, hi, rfl, rfl⟩ := hf
 obtain ⟨xs, n, _, _, hl, hx, hall⟩ := DataW.trod_struct hu h
 have h1 := hall i fd hi
 have h2 : i < xs.length := by rw [hx]; exact (Array.getElem?_eq_some_iff.1 hi).1
 rw [List.getElem?_eq_getElem h2, hc] at h1
 obtain ⟨n, e, _⟩ := DataW.trod_int hk h1
 exact ⟨n, take_one e⟩
theorem fld_str {i off ft : Nat} (hf : FieldV P t i off ft) (hk : P.underlying ft = some .string) (hc : P.cellsOf ft = 1) (h : DataW.trod enc P W b0 sp hd fuel t cs = some x) : ∃ s : ByteArray, cs[off]? = some (.string s) ∧ s.size ≤ maxLen := by
 obtain ⟨fs, fd, hu, hi, rfl, rfl⟩ := hf
 obtain ⟨xs, n, _, _, hl, hx, hall⟩ := DataW.trod_struct hu h
 have h1 := hall i fd hi
 have h2 : i < xs.length := by rw [hx]; exact (Array.getElem?_eq_some_iff.1 hi).1
 rw [List.getElem?_eq_getElem h2, hc] at h1
 obtain ⟨s, e, _, hs⟩ := DataW.trod_string hk h1
 exact ⟨s, take_one e, hs⟩
theorem slice_of {α : Type} [Inhabited α] {e k : Nat} {C : α → List Value} {Q : α → Prop} {base : Nat} {v : Value} {d : DataW H} {ps : List MemPlace} (ht : P.underlying t = some (.slice e)) (hk : P.cellsOf e = k) (hC : ∀ a, (C a).length = k) (hk0 : 0 < k)
  (hel : ∀ (n : Nat) (cs : List Value) (x : DataW H × List MemPlace), DataW.trod enc P W 0 (fun _ => true) true n e cs = some x → ∃ a, cs = C a ∧ Q a)
  (hval : Value.okWide P W .any base t v) (h : DataW.Trod enc P W 0 (fun _ => true) true t v d ps) :
  ∃ (l : List α) (s : SlV), v = s.v ∧ Rd W k s (l.map C) ∧ (∀ a ∈ l, Q a) ∧ (l = [] ∨ ∃ elems spare, d = .slice elems spare ∧ elems.length = l.length) := by
 obtain ⟨a0, len0, cap0, rfl⟩ := okWide_slice ht hval
 obtain ⟨fuel, hf⟩ := h
 rcases Deep.open_slice ht hf with ⟨h1, h2⟩ | ⟨a, len, cap, m, n, D, Pl, h1, _, hlc, hcm, hm, h2, hx⟩
 ·simp [Value.cells] at h1
  obtain ⟨rfl, rfl, rfl⟩ := h1
  exact ⟨[], SlV.nil, SlV.nil_eq, Rd.nil W k, by simp, .inl rfl⟩
 ·simp [Value.cells] at h1
  obtain ⟨rfl, rfl, rfl⟩ := h1
  have hval2 := hval
  simp only [Value.okWide, ht, Cell.okWide, Cell.ok] at hval2
  obtain ⟨_, _, _, hspot, row, cells, hshape, _⟩ := hval2
  obtain ⟨ab, ao, asp⟩ := a
  obtain rfl : asp = none := hspot
  simp only at hshape
  have hlt : ab < W.heap.size := by
   unfold World.shape? at hshape
   cases hh : W.heap[ab]? with
   | none => rw [hh] at hshape; cases hshape
   | some o => exact (Array.getElem?_eq_some_iff.1 hh).1
  have hmc : m = cap0 := by rw [hm]; rfl
  obtain ⟨f, hfx⟩ := Deep.choose_lt (α := α) (n := len0) (p := fun i y => W.cells? 0 ((⟨ab, ao, none⟩ : Addr).add (i * P.cellsOf e)) (P.cellsOf e) = some (C y) ∧ Q y) (fun i hi => by
   obtain ⟨cs', hc, ht'⟩ := hx i (by omega)
   obtain ⟨y, rfl, hq⟩ := hel _ _ _ ht'
   exact ⟨y, hc, hq⟩)
  refine ⟨(List.range len0).map f, ⟨some ⟨ab, ao, none⟩, len0, cap0⟩, by rw [SlV.eq], ⟨⟨by simp, ?_, ?_⟩, ?_, hlc⟩, ?_, .inr ⟨_, _, by simpa using congrArg Prod.fst h2, by simp⟩⟩
  ·intro r hr
   obtain ⟨y, _, rfl⟩ := List.mem_map.1 hr
   exact hC y
  ·intro i r hr
   rw [List.getElem?_map, List.getElem?_map] at hr
   have hi : i < len0 := by
    refine Nat.lt_of_not_le fun q => ?_
    rw [List.getElem?_eq_none (by simpa using q)] at hr; cases hr
   rw [List.getElem?_eq_getElem (by simpa using hi)] at hr
   simp only [List.getElem_range, Option.map_some, Option.some.injEq] at hr
   subst hr
   obtain ⟨h3, _⟩ := hfx i hi
   obtain ⟨_, hl, hc⟩ := World.cells?_some h3
   refine ⟨rfl, fun j v hv => ?_⟩
   have hj : j < k := by have := (List.getElem?_eq_some_iff.1 hv).1; rw [hC] at this; exact this
   have h4 := hc j (by rw [hk]; exact hj)
   rw [hv] at h4
   have hadd : ((⟨ab, ao, none⟩ : Addr).add (i * P.cellsOf e)).add j = ⟨ab, ao + i * k + j, none⟩ := by
    rw [hk]
    unfold Addr.add
    by_cases h5 : i * k = 0
    ·by_cases h6 : j = 0
     ·simp [h5, h6]
     ·simp [h5, h6]
    ·by_cases h6 : j = 0
     ·simp [h5, h6]
     ·simp [h5, h6]
   rw [hadd] at h4
   exact h4
  ·rintro i ⟨_, rfl⟩
   exact hlt
  ·intro y hy
   obtain ⟨i, hi, rfl⟩ := List.mem_map.1 hy
   exact (hfx i (List.mem_range.1 hi)).2
end
instance : Inhabited Nd := ⟨Nd.z⟩
theorem nds_of {H : Type} {enc : TypeId × Value → H} {W : World} {base : Nat} {v : Value} {d : DataW H} {ps : List MemPlace} (hval : Value.okWide PP W .any base T_L_api_Node v) (h : DataW.Trod enc PP W 0 (fun _ => true) true T_L_api_Node v d ps) :
  ∃ (l : List Nd) (s : SlV), v = s.v ∧ Rd W 4 s (l.map Nd.C) ∧ (∀ a ∈ l, a.name.size < 9223372036854775808) ∧ (l = [] ∨ ∃ elems spare, d = .slice elems spare ∧ elems.length = l.length) := by
 refine slice_of sl_L_api_Node.1 (by kernel_rfl) Nd.len (by decide) (fun n cs x hx => ?_) hval h
 obtain ⟨a, ha⟩ := fld_int fv_Nd_kind un_api_Kind (by kernel_rfl) hx
 obtain ⟨b, hb, hbs⟩ := fld_str fv_Nd_name un_string (by kernel_rfl) hx
 obtain ⟨c, hc⟩ := fld_int fv_Nd_l un_int (by kernel_rfl) hx
 obtain ⟨d, hd⟩ := fld_int fv_Nd_r un_int (by kernel_rfl) hx
 obtain ⟨fs, fd, hu, _⟩ := fv_Nd_kind
 obtain ⟨xs, n', _, _, hl, _⟩ := DataW.trod_struct hu hx
 have hl : cs.length = 4 := hl.trans (by kernel_rfl)
 refine ⟨⟨a, b, c, d⟩, ?_, by have : maxLen = 9223372036854775807 := rfl; show b.size < _; omega⟩
 match cs, hl with
 | [v0, v1, v2, v3], _ =>
  simp at ha hb hc hd
  subst ha hb hc hd
  rfl
theorem bulk_one {H : Type} (d : DataW H) : 1 ≤ Rows.uptoBulk d := by
 cases d with
 | lit l => cases l <;> simp [Rows.uptoBulk]
 | nil => simp [Rows.uptoBulk]
 | ptr d => simp [Rows.uptoBulk]
 | slice elems spare => simp [Rows.uptoBulk]
 | agg parts => simp [Rows.uptoBulk]
 | iface t d => simp [Rows.uptoBulk]
 | map entries => simp [Rows.uptoBulk]
 | held h => simp [Rows.uptoBulk]
theorem bulk_part {H : Type} {d : DataW H} {l : List (DataW H)} (h : d ∈ l) : Rows.uptoBulk d ≤ Rows.uptoBulkAll l := by
 induction l with
 | nil => cases h
 | cons x r ih =>
  simp only [Rows.uptoBulkAll]
  cases List.mem_cons.1 h with
  | inl e => subst e; omega
  | inr e => have := ih e; omega
theorem bulk_len {H : Type} (l : List (DataW H)) : l.length ≤ Rows.uptoBulkAll l := by
 induction l with
 | nil => simp [Rows.uptoBulkAll]
 | cons x r ih => have := bulk_one x; simp only [Rows.uptoBulkAll, List.length_cons]; omega
theorem small_len {H : Type} {α : Type} {l : List α} {d : DataW H} {ds : List (DataW H)} (hk : Rows.uptoSmall H ds = true) (hd : d ∈ ds) (h : l = [] ∨ ∃ elems spare, d = .slice elems spare ∧ elems.length = l.length) : l.length ≤ 1048576 := by
 rcases h with rfl | ⟨elems, spare, rfl, he⟩
 ·simp
 ·have h1 := bulk_part hd
  have h2 := bulk_len elems
  have h3 : Rows.uptoBulkAll ds ≤ 1048576 := by simpa [Rows.uptoSmall] using hk
  simp only [Rows.uptoBulk] at h1
  omega
def Held (W : World) (Z : List OA) : Prop := ∀ z ∈ Z, ∃ F, z.holds W F
theorem Held.nil {W : World} : Held W [] := fun _ h => by cases h
theorem Held.cons {W : World} {z : OA} {Z : List OA} (h : ∃ F, z.holds W F) (hz : Held W Z) : Held W (z :: Z) := fun x hx => by
 rcases List.mem_cons.1 hx with rfl | hx
 ·exact h
 ·exact hz x hx
theorem Held.s {W : World} {Z : List OA} {k : Nat} {α : Type} {C : α → List Value} {s : SlV} {l : List α} (hr : Rd W k s (l.map C)) (hl : l.length ≤ 140737488355328) (hz : Held W Z) : Held W (fS k C s l :: Z) :=
 .cons ⟨s.fp, ⟨hr, hl⟩, fun _ => Iff.rfl⟩ hz
theorem stheld {W : World} {Z : List OA} (h : Held W Z) : St (fun _ => False) oth0 W W [] Z :=
 ⟨fun _ => False, fun _ h => h.elim, fun _ h => h.elim, Chg.refl _ _, trivial, fun z hz => by
  obtain ⟨F, hF⟩ := h z hz
  exact ⟨F, hF, fun i _ q => q.elim (fun x => x) (fun x => x)⟩, fun d hd => absurd hd (by simp [oth0])⟩
theorem trodAll_five {H : Type} {enc : TypeId × Value → H} {P : Program} {w : World} {base : Nat} {spare : Nat → Bool} {held : Bool} {t t' t'' t3 t4 : TypeId} {args : Array Value} {ds : List (DataW H)} {ps : List MemPlace} (h : DataW.TrodAll enc P w base spare held [t, t', t'', t3, t4] args.toList ds ps) :
  ∃ v v' v'' v3 v4 d d' d'' d3 d4 p p' p'' p3 p4, args = #[v, v', v'', v3, v4] ∧ ds = [d, d', d'', d3, d4] ∧ ps = p ++ p' ++ p'' ++ p3 ++ p4 ∧ DataW.Trod enc P w base spare held t v d p ∧ DataW.Trod enc P w base spare held t' v' d' p' ∧ DataW.Trod enc P w base spare held t'' v'' d'' p'' ∧ DataW.Trod enc P w base spare held t3 v3 d3 p3 ∧ DataW.Trod enc P w base spare held t4 v4 d4 p4 := by
 obtain ⟨v, vs, d, ds, p, q, ha, rfl, rfl, h0, h1⟩ := trodAll_cons h
 obtain ⟨v1, vs1, d1, ds1, p1, q1, rfl, rfl, rfl, h2, h3⟩ := trodAll_cons h1
 obtain ⟨v2, vs2, d2, ds2, p2, q2, rfl, rfl, rfl, h4, h5⟩ := trodAll_cons h3
 obtain ⟨v3, vs3, d3, ds3, p3, q3, rfl, rfl, rfl, h6, h7⟩ := trodAll_cons h5
 obtain ⟨v4, vs4, d4, ds4, p4, q4, rfl, rfl, rfl, h8, h9⟩ := trodAll_cons h7
 obtain ⟨rfl, rfl, rfl⟩ := trodAll_nil h9
 refine ⟨v, v1, v2, v3, v4, d, d1, d2, d3, d4, p, p1, p2, p3, p4, ?_, rfl, by simp, h0, h2, h4, h6, h8⟩
 exact Array.toList_inj.1 ha
theorem gEt : PP.globalNamed "errors.errorType" = some 0 := by kernel_rfl
theorem gRt : (PP.cutTypes.find? (·.1 == "internal/reflectlite.rtype")).map (·.2) = some 181 := by kernel_rfl
theorem gSize : PP.types.size = 260 := by kernel_rfl
theorem gRow : ((List.range 260).filter fun t => PP.rowNamed t [101, 114, 114, 111, 114]) = [72] := by kernel_rfl
theorem gHandle : typeHandle PP 72 = .pointer (some ⟨4, 72, none⟩) := by kernel_rfl
theorem et_of {W : World} (h : laidMetH PP [("errors.errorType", Rows.laid_errors_errorType)] W) : Et W := by
 have h' : laidMet PP [] W ∧ handlesMet PP [("errors.errorType", Rows.laid_errors_errorType)] W := h
 obtain ⟨name, u, ty, e1, e2, e3, e4, e5⟩ := h'.2 _ (List.mem_singleton.2 rfl)
 have en : name = [101, 114, 114, 111, 114] := (Option.some.inj e1).symm
 subst en
 obtain rfl := Option.some.inj (gRt.symm.trans e2)
 have hm : ty ∈ (List.range 260).filter fun t => PP.rowNamed t [101, 114, 114, 111, 114] := List.mem_filter.2 ⟨List.mem_range.2 (by rw [← gSize]; exact e3), e4⟩
 rw [gRow] at hm
 obtain rfl := List.mem_singleton.1 hm
 rw [gHandle] at e5
 intro j v hj
 cases j with
 | zero => simp at hj; subst hj; simpa [etV] using World.var?_cell gEt e5 0
 | succ j => simp at hj
theorem Held.et {W : World} {Z : List OA} (h : Et W) (hz : Held W Z) : Held W (oEt :: Z) := .cons ⟨fun i => i = 0, h, fun _ => Iff.rfl⟩ hz
-- terms
instance : Inhabited Term := ⟨Term.z⟩
instance : Inhabited PTerm := ⟨PTerm.z⟩
theorem bulk_get {H : Type} {xs : List (DataW H × List MemPlace)} {i : Nat} {z : DataW H × List MemPlace} (h : xs[i]? = some z) : Rows.uptoBulk z.1 ≤ Rows.uptoBulkAll (xs.map (·.1)) :=
 bulk_part (List.mem_map.2 ⟨z, List.mem_of_getElem? h, rfl⟩)
theorem bigA_of {w : World} {μ α : Type} {R : μ → α → OA} : ∀ {ms : List μ} {l : List α}, ms.length = l.length → (∀ (i : Nat) m x, ms[i]? = some m → l[i]? = some x → ∃ F, (R m x).holds w F) → ∃ F, (bigA R ms l).holds w F
 | [], [], _, _ => ⟨fun _ => False, trivial, fun _ x => x⟩
 | m :: ms, x :: xs, hl, h => by
  obtain ⟨F, hF⟩ := h 0 m x rfl rfl
  obtain ⟨G, hG⟩ := bigA_of (ms := ms) (l := xs) (by simpa using hl) fun i m x h1 h2 => h (i + 1) m x (by simpa using h1) (by simpa using h2)
  exact ⟨fun i => F i ∨ G i, F, G, hF, hG, fun _ => Iff.rfl⟩
 | [], _ :: _, hl, _ => by simp at hl
 | _ :: _, [], hl, _ => by simp at hl
theorem nmL_of : ∀ {l : List PTerm}, (∀ x ∈ l, nmT x) → nmL l
 | [], _ => trivial
 | x :: l, h => ⟨h x (by simp), nmL_of fun y hy => h y (by simp [hy])⟩
theorem term_trod {H : Type} {enc : TypeId × Value → H} {W : World} (fuel : Nat) : ∀ {cs : List Value} {x : DataW H × List MemPlace}, DataW.trod enc PP W 0 (fun _ => true) true fuel T_Term cs = some x → Rows.uptoBulk x.1 ≤ 1048576 →
  ∃ (m : Term) (y : PTerm), cs = Term.C m ∧ (m.kind = y.kind ∧ m.name = y.name ∧ m.other = y.other ∧ m.form = y.form) ∧ nmT y ∧ ∃ F, (fTerms m.sub y.sub).holds W F := by
 induction fuel using Nat.strongRecOn with
 | _ fuel ih =>
 intro cs x hx hb
 obtain ⟨k, hk⟩ := fld_int fv_Term_kind un_api_TermKind (by kernel_rfl) hx
 obtain ⟨n, hn, hns⟩ := fld_str fv_Term_name un_string (by kernel_rfl) hx
 obtain ⟨o, ho, hos⟩ := fld_str fv_Term_other un_string (by kernel_rfl) hx
 obtain ⟨f, hf⟩ := fld_int fv_Term_form un_int (by kernel_rfl) hx
 obtain ⟨fs, fd, hu, hi, hoff, hty⟩ := fv_Term_sub
 obtain ⟨xs, n1, hfu, hxx, hl, hlen, hall⟩ := DataW.trod_struct hu hx
 have hl : cs.length = 5 := hl.trans (by kernel_rfl)
 have h1 := hall 4 fd hi
 have h2 : 4 < xs.length := by rw [hlen]; exact (Array.getElem?_eq_some_iff.1 hi).1
 rw [hoff, hty, show PP.cellsOf T_L_api_Term = 1 from by kernel_rfl, List.getElem?_eq_getElem h2] at h1
 have hbz : Rows.uptoBulk (xs[4]).1 ≤ 1048576 := by
  have := bulk_get (List.getElem?_eq_getElem h2)
  rw [hxx] at hb
  simp only [Rows.uptoBulk] at hb
  omega
 have hmax : maxLen = 9223372036854775807 := rfl
 have hcs : ∀ v4, cs[4]? = some v4 → cs = [.int .i64 k, .string n, .string o, .int .i64 f, v4] := by
  intro v4 h4
  match cs, hl with
  | [c0, c1, c2, c3, c4], _ =>
   simp at hk hn ho hf h4
   subst hk hn ho hf h4
   rfl
 rcases DataW.trod_slice sl_L_api_Term.1 h1 with ⟨e1, e2⟩ | ⟨a, len, cap, elems, rest, n2, hfu2, e1, e2, _, hlc, hcm, hel, hget, _⟩
 ·have h4 := hcs _ (take_one e1)
  refine ⟨⟨k, n, o, f, SlV.nil⟩, .mk k n o f [], ?_, ⟨rfl, rfl, rfl, rfl⟩, ⟨by show n.size < _; omega, by show o.size < _; omega, trivial⟩, fun _ => False, (0, []), fun _ => False, fun _ => False, ⟨⟨Sl.nil W 5, by simp⟩, fun i => ⟨fun x => x.elim, fun x => absurd rfl x.1⟩⟩, ⟨trivial, fun _ x => x⟩, fun _ => ⟨fun x => x.elim, fun x => x.elim id id⟩⟩
  rw [h4, SlV.nil_eq]; rfl
 ·have h4 := hcs _ (take_one e1)
  have hbe : Rows.uptoBulkAll (elems.map (·.1)) ≤ 1048576 := by
   rw [e2] at hbz
   simp only [Rows.uptoBulk] at hbz
   omega
  have hlen2 : len ≤ 1048576 := by
   have := bulk_len (elems.map (·.1))
   rw [List.length_map, hel] at this
   omega
  have hone : ∀ i, i < len → ∃ q : Term × PTerm, (W.cells? 0 (a.add (i * PP.cellsOf T_Term)) (PP.cellsOf T_Term) = some (Term.C q.1)) ∧ (q.1.kind = q.2.kind ∧ q.1.name = q.2.name ∧ q.1.other = q.2.other ∧ q.1.form = q.2.form) ∧ nmT q.2 ∧ ∃ F, (fTerms q.1.sub q.2.sub).holds W F := by
   intro i hi'
   have h5 := hget i hi'
   have h6 : i < elems.length := by omega
   rw [List.getElem?_eq_getElem h6] at h5
   cases hc : W.cells? 0 (a.add (i * PP.cellsOf T_Term)) (PP.cellsOf T_Term) with
   | none => rw [hc] at h5; simp at h5
   | some cs' =>
    rw [hc] at h5
    simp only [Option.bind_some] at h5
    obtain ⟨m, y, rfl, hm, hy, hF⟩ := ih n2 (by omega) h5 (by have := bulk_get (List.getElem?_eq_getElem h6); omega)
    exact ⟨(m, y), rfl, hm, hy, hF⟩
  obtain ⟨g, hg⟩ := Deep.choose_lt (α := Term × PTerm) hone
  have hsz : PP.cellsOf T_Term = 5 := by kernel_rfl
  refine ⟨⟨k, n, o, f, ⟨some a, len, cap⟩⟩, .mk k n o f ((List.range len).map fun i => (g i).2), ?_, ⟨rfl, rfl, rfl, rfl⟩, ⟨by show n.size < _; omega, by show o.size < _; omega, nmL_of fun y hy => ?_⟩, ?_⟩
  ·rw [h4]; show _ = [_, _, _, _, SlV.v _]; rw [SlV.eq]
  ·obtain ⟨i, hi', rfl⟩ := List.mem_map.1 hy
   exact (hg i (List.mem_range.1 hi')).2.2.1
  ·have hsl : Sl W 5 ⟨some a, len, cap⟩ (((List.range len).map fun i => (g i).1).map Term.C) := by
    refine ⟨by simp, ?_, ?_⟩
    ·intro r hr
     obtain ⟨y, _, rfl⟩ := List.mem_map.1 hr
     exact Term.len y
    ·intro i r hr
     rw [List.getElem?_map, List.getElem?_map] at hr
     have hi' : i < len := by
      refine Nat.lt_of_not_le fun q => ?_
      rw [List.getElem?_eq_none (by simpa using q)] at hr; cases hr
     rw [List.getElem?_eq_getElem (by simpa using hi')] at hr
     simp only [List.getElem_range, Option.map_some, Option.some.injEq] at hr
     subst hr
     obtain ⟨_, _, hc0⟩ := World.cells?_some (hg 0 (by omega)).1
     obtain ⟨ab, ao, asp⟩ := a
     have hsp : asp = none := by
      have h7 := hc0 0 (by rw [hsz]; decide)
      simp only [Nat.zero_mul, Addr.add, if_true] at h7
      cases asp with
      | none => rfl
      | some q =>
       unfold World.cell? at h7
       simp only [Option.isSome_some, if_true] at h7
       split at h7
       ·exact absurd h7.symm (by simp [Term.C])
       ·exact absurd h7.symm (by simp [Term.C])
     subst hsp
     obtain ⟨_, _, hc⟩ := World.cells?_some (hg i hi').1
     refine ⟨rfl, fun j v hv => ?_⟩
     have hj : j < 5 := by have := (List.getElem?_eq_some_iff.1 hv).1; rw [Term.len] at this; exact this
     have h8 := hc j (by rw [hsz]; exact hj)
     rw [hv] at h8
     have hadd : ((⟨ab, ao, none⟩ : Addr).add (i * PP.cellsOf T_Term)).add j = ⟨ab, ao + i * 5 + j, none⟩ := by
      rw [hsz]
      unfold Addr.add
      by_cases h5 : i * 5 = 0
      ·by_cases h6 : j = 0
       ·simp [h5, h6]
       ·simp [h5, h6]
      ·by_cases h6 : j = 0
       ·simp [h5, h6]
       ·simp [h5, h6]
     rw [hadd] at h8
     exact h8
   have hbig : ∃ F, (bigA fTerm ((List.range len).map fun i => (g i).1) ((List.range len).map fun i => (g i).2)).holds W F := by
    refine bigA_of (by simp) fun i m x h1 h2 => ?_
    rw [List.getElem?_map] at h1 h2
    have hi' : i < len := by
     refine Nat.lt_of_not_le fun q => ?_
     rw [List.getElem?_eq_none (by simpa using q)] at h1; cases h1
    rw [List.getElem?_range hi'] at h1 h2
    simp only [Option.map_some, Option.some.injEq] at h1 h2
    subst h1 h2
    obtain ⟨_, he, _, F, hF⟩ := hg i hi'
    have := fTerm_mk (s := (g i).1.sub) hF
    rw [show mT (g i).2 (g i).1.sub = (g i).1 from by rw [mT, ← he.1, ← he.2.1, ← he.2.2.1, ← he.2.2.2]] at this
    exact ⟨F, this⟩
   obtain ⟨F, hF⟩ := hbig
   exact ⟨_, fTerms_mk (F := fun i => ((List.range len).map fun i => (g i).1) ≠ [] ∧ i = _) ⟨⟨hsl, by simp; omega⟩, fun _ => Iff.rfl⟩ hF⟩
theorem term_of {H : Type} {enc : TypeId × Value → H} {W : World} {v : Value} {d : DataW H} {ds : List (DataW H)} {ps : List MemPlace} {base : Nat} (hval : Value.okWide PP W .any base T_Term v) (h : DataW.Trod enc PP W 0 (fun _ => true) true T_Term v d ps) (hk : Rows.uptoSmall H ds = true) (hd : d ∈ ds) :
  ∃ (y : PTerm) (s : SlV), v = .agg (Term.C (⟨y.kind, y.name, y.other, y.form, s⟩ : Term)).toArray ∧ nmT y ∧ ∃ F, (oDTerm s y.sub).holds W F := by
 obtain ⟨fuel, hf⟩ := h
 have hb : Rows.uptoBulk d ≤ 1048576 := by
  have h1 := bulk_part hd
  have h3 : Rows.uptoBulkAll ds ≤ 1048576 := by simpa [Rows.uptoSmall] using hk
  omega
 obtain ⟨m, y, hc, he, hn, hF⟩ := term_trod fuel hf hb
 have hu : ∃ fs, PP.underlying T_Term = some (.struct fs) := by
  obtain ⟨fs, fd, hu, _⟩ := fv_Term_sub; exact ⟨fs, hu⟩
 obtain ⟨fs, hu⟩ := hu
 unfold Value.okWide at hval
 rw [hu] at hval
 obtain ⟨cs, rfl, _⟩ := hval
 refine ⟨y, m.sub, ?_, hn, hF⟩
 have hm : m = (⟨y.kind, y.name, y.other, y.form, m.sub⟩ : Term) := by rw [← he.1, ← he.2.1, ← he.2.2.1, ← he.2.2.2]
 rw [← hm]
 have hc' : cs.toList = Term.C m := hc
 rw [← hc']
theorem Held.f {W : World} {Z : List OA} {s : SlV} {l : List PTerm} (h : ∃ F, (oDTerm s l).holds W F) (hz : Held W Z) : Held W (oDTerm s l :: Z) := .cons h hz
-- hypotheses
instance : Inhabited Hyp := ⟨Hyp.z⟩
theorem hyp_trod {H : Type} {enc : TypeId × Value → H} {W : World} {n : Nat} {cs : List Value} {x : DataW H × List MemPlace} (hx : DataW.trod enc PP W 0 (fun _ => true) true n T_Hyp cs = some x) : ∃ a : Hyp, cs = Hyp.C a ∧ True := by
 obtain ⟨a, ha, has⟩ := fld_str fv_Hyp_name un_string (by kernel_rfl) hx
 obtain ⟨b, hb⟩ := fld_int fv_Hyp_form un_int (by kernel_rfl) hx
 obtain ⟨fs, fd, hu, _⟩ := fv_Hyp_name
 obtain ⟨xs, n', _, _, hl, _⟩ := DataW.trod_struct hu hx
 have hl : cs.length = 2 := hl.trans (by kernel_rfl)
 refine ⟨⟨a, b⟩, ?_, trivial⟩
 match cs, hl with
 | [v0, v1], _ =>
  simp at ha hb
  subst ha hb
  rfl
theorem hyps_of {H : Type} {enc : TypeId × Value → H} {W : World} {base : Nat} {v : Value} {d : DataW H} {ps : List MemPlace} (hval : Value.okWide PP W .any base T_L_api_Hyp v) (h : DataW.Trod enc PP W 0 (fun _ => true) true T_L_api_Hyp v d ps) :
  ∃ (l : List Hyp) (s : SlV), v = s.v ∧ Rd W 2 s (l.map Hyp.C) ∧ (∀ a ∈ l, True) ∧ (l = [] ∨ ∃ elems spare, d = .slice elems spare ∧ elems.length = l.length) :=
 slice_of sl_L_api_Hyp.1 (by kernel_rfl) Hyp.len (by decide) (fun n cs x hx => hyp_trod hx) hval h
theorem hyp_of {H : Type} {enc : TypeId × Value → H} {W : World} {v : Value} {d : DataW H} {ps : List MemPlace} {base : Nat} (hval : Value.okWide PP W .any base T_Hyp v) (h : DataW.Trod enc PP W 0 (fun _ => true) true T_Hyp v d ps) : ∃ a : Hyp, v = .agg (Hyp.C a).toArray := by
 obtain ⟨fuel, hf⟩ := h
 obtain ⟨a, hc, _⟩ := hyp_trod hf
 obtain ⟨fs, hu⟩ : ∃ fs, PP.underlying T_Hyp = some (.struct fs) := by
  obtain ⟨fs, fd, hu, _⟩ := fv_Hyp_name; exact ⟨fs, hu⟩
 unfold Value.okWide at hval
 rw [hu] at hval
 obtain ⟨cs, rfl, _⟩ := hval
 have hc' : cs.toList = Hyp.C a := hc
 exact ⟨a, by rw [← hc']⟩
end Go.Proofs.YtjebgcoknpcadaaDoor
end
section
namespace Go.Proofs.YtjebgcoknpcadaaDoor
open Gw Go.ChangeShapes Go.WideShapes Go.ChangeAt Go.RowKit
set_option maxRecDepth 100000
namespace LawTypesOne
theorem contract (H : Type) (enc : TypeId × Value → H) (W : World) (base : Nat) (args : Array Value) (ds gs : List (DataW H)) (before : List MemPlace)
  (hval : ∀ (j : Nat) t v, D_law13_TypesOne.params[j]? = some t → args[j]? = some v → Value.okWide PP W .any base t v)
  (hW : DataW.Whole enc PP D_law13_TypesOne.params.toList Rows.typesOneSpec.vars false W args.toList ds gs before) (hL : laidMetH PP Rows.typesOneUptoRow.laid W) (hsm : Rows.uptoSmall H (ds ++ gs) = true) :
  Calls PP F_law13_TypesOne args W fun e W' => ∃ v, e = .returned v ∧ Rows.typesOneSpec.post enc PP D_law13_TypesOne false true false false W args v W' := by
 have hW' := hW
 have hlt := hW.lt
 obtain ⟨p, q, hA0, hV, rfl, hfz, hnd⟩ := hW
 have hA : DataW.TrodAll enc PP W 0 (fun _ => true) true D_law13_TypesOne.params.toList args.toList ds p := hA0
 have hpar : D_law13_TypesOne.params = #[T_L_api_Node, T_L_api_Hyp, T_Term, T_int, T_Hyp] := by kernel_rfl
 rw [hpar] at hA hval
 obtain ⟨v0, v1, v2, v3, v4, d0, d1, d2, d3, d4, p0, p1, p2, p3, p4, rfl, rfl, rfl, h0, h1, h2, h3, h4⟩ := trodAll_five hA
 obtain ⟨rfl, rfl⟩ := trodVars_none hV
 obtain ⟨a0, s0, rfl, hrd0, hnm0, hsl0⟩ := nds_of (hval 0 _ _ rfl rfl) h0
 have hln0 := small_len hsm (by simp) hsl0
 obtain ⟨a1, s1, rfl, hrd1, hnm1, hsl1⟩ := hyps_of (hval 1 _ _ rfl rfl) h1
 have hln1 := small_len hsm (by simp) hsl1
 obtain ⟨a2, s2, rfl, hnm2, hf2⟩ := term_of (hval 2 _ _ rfl rfl) h2 hsm (by simp)
 obtain ⟨a3, rfl, hr3⟩ := int_of (k := .i64) un_int (hval 3 _ _ rfl rfl)
 obtain ⟨a4, rfl⟩ := hyp_of (hval 4 _ _ rfl rfl) h4
 have S := stheld (W := W) (.s hrd0 (by omega) (.s hrd1 (by omega) (.f hf2 (.et (et_of hL) .nil))))
 refine (law13_TypesOne_st S (TypesOne_true (k := 70000) (by decide) heads13 (id := a3) (more := a4) hnm0 (by omega) hnm2 (by omega))).mono fun e W' ⟨v, he, hv, hS⟩ => ?_
 subst hv
 have hx := hS.frame
 refine ⟨_, he, post_of_same (pa := p0 ++ p1 ++ p2 ++ p3 ++ p4) (pv := []) hW' (fun _ _ _ => trodAll_cons_mk (shut_bool un_bool _) trodAll_mk0) (fun sp hsp => ?_) (fun _ _ => rfl) (by simp) ((Ext.below hx).frame _) hx.froz (ok_one (by kernel_rfl) rfl (okWide_bool_mk un_bool _))⟩
 rw [hpar]
 refine trodAll_stays (ts := [T_L_api_Node, T_L_api_Hyp, T_Term, T_int, T_Hyp]) (fun t ht => ?_) hA (fun p hp => (Ext.below hx).same (hlt p (by simpa using hp))) (fun p hp => hsp p (by simpa using hp))
 simp only [List.mem_cons, List.not_mem_nil, or_false] at ht
 rcases ht with rfl | rfl | rfl | rfl | rfl <;> exact ⟨by kernel_rfl, of_decide_eq_true (by kernel_rfl)⟩
noncomputable def laidWorld (os : Os) : World :=
 { World.holding PP os ⟨#[], #[], []⟩ with heap := (World.holding PP os ⟨#[], #[], []⟩).heap.modify 0 fun
   | .cells _ t frozen => .cells #[etV] t frozen
   | o => o }
def argsN : Array Value := #[.slice none 0 0, .slice none 0 0, .agg #[.int .i64 0, .string ByteArray.empty, .string ByteArray.empty, .int .i64 0, .slice none 0 0], .int .i64 0, .agg #[.string ByteArray.empty, .int .i64 0]]
theorem laid_met (os : Os) : laidMetH PP Rows.typesOneUptoRow.laid ((laidWorld os).forCall (fun _ _ => 0) ⟨#[], argsN, []⟩).memory :=
 laidMetH_of_parts (laidMet_nil _ _) (by kernel_rfl)
def ddN (H : Type) : List (DataW H) := [.nil, .nil, .agg [.lit (.int .i64 0), .lit (.string []), .lit (.string []), .lit (.int .i64 0), .nil], .lit (.int .i64 0), .agg [.lit (.string []), .lit (.int .i64 0)]]
theorem reads (os : Os) {H : Type} (enc : TypeId × Value → H) : ∃ places, DataW.whole enc PP ((laidWorld os).forCall (fun _ _ => 0) ⟨#[], argsN, []⟩).memory D_law13_TypesOne.params.toList Rows.typesOneSpec.vars false argsN.toList 8 = some (ddN H, [], places) :=
 ⟨[], by kernel_rfl⟩
theorem lifted (os : Os) (started : os.Started) (H : Type) (enc : TypeId × Value → H) (F : Stop.Interp) :
  ReturnsInHanded {} Tryd.checked os F_law13_TypesOne .any ((Rows.OpenSpec.upto Rows.typesOneSpec).preRow enc PP D_law13_TypesOne Rows.typesOneUptoRow.domain false Rows.typesOneUptoRow.laid) (((Rows.OpenSpec.upto Rows.typesOneSpec).at F).post enc PP D_law13_TypesOne false true false false) := by
 obtain ⟨places, hx⟩ := reads os enc
 refine returnsInHanded_of_row (C := Tryd.checked) (s := Rows.OpenSpec.upto Rows.typesOneSpec) ownKnob_none started (by kernel_rfl) fn_law13_TypesOne
  (witness_row_at (enc := enc) (C := Tryd.checked) false (laidWorld os) argsN rfl (by kernel_rfl) (by kernel_rfl) (by kernel_rfl)
   (OpenSpec.preRow_of_cond 8 hx (by kernel_rfl) (fun k hk => by cases hk; kernel_rfl) (by kernel_rfl) (laid_met os))) ?_
 intro W base args ds gs before hval hW _ hcond _ hL _ _
 exact contract H enc W base args ds gs before hval hW hL (hcond _ rfl)
theorem said : Rows.TypesOneUptoSaid :=
 OpenClaim.holds_of_cond F_law13_TypesOne D_law13_TypesOne rfl rfl rfl rfl rfl rfl rfl ⟨rfl, rfl, rfl, rfl, rfl⟩ rfl rfl rfl rfl rfl (by kernel_rfl) fn_law13_TypesOne (by kernel_rfl)
  (of_decide_eq_true (by kernel_rfl)) (by unfold Func.isWrapper; first | (rw [if_pos (by decide +kernel)]; kernel_rfl) | (rw [if_neg (by decide +kernel)]; exact ⟨rfl, rfl⟩))
  (fun os started H enc _ F => by rw [OpenClaim.pre_eq_preRow]; exact lifted os started H enc F)
theorem plain (f : FuncId) (fn : Func) (hf : Tryd.pinned.checked.prog.funcNamed "dictum/dictumlaw13.TypesOne" = some f) (hfn : Tryd.pinned.checked.prog.funcs[f]? = some fn) :
  true = Tryd.pinned.checked.prog.looks [] ∧ ∀ (j : Nat) t, fn.params[j]? = some t → Tryd.pinned.checked.prog.wantsStandIn t = false := by
 obtain rfl : f = F_law13_TypesOne := Option.some.inj ((show PP.funcNamed "dictum/dictumlaw13.TypesOne" = some F_law13_TypesOne by kernel_rfl).symm.trans hf) |>.symm
 obtain rfl : fn = D_law13_TypesOne := (Option.some.inj (fn_law13_TypesOne.symm.trans hfn)).symm
 refine ⟨by kernel_rfl, fun j t ht => ?_⟩
 rw [show D_law13_TypesOne.params = #[T_L_api_Node, T_L_api_Hyp, T_Term, T_int, T_Hyp] by kernel_rfl] at ht
 have hm : t ∈ [T_L_api_Node, T_L_api_Hyp, T_Term, T_int, T_Hyp] := by simpa using Array.mem_of_getElem? ht
 simp only [List.mem_cons, List.not_mem_nil, or_false] at hm
 rcases hm with rfl | rfl | rfl | rfl | rfl
 ·exact (show PP.wantsStandIn T_L_api_Node = false by kernel_rfl)
 ·exact (show PP.wantsStandIn T_L_api_Hyp = false by kernel_rfl)
 ·exact (show PP.wantsStandIn T_Term = false by kernel_rfl)
 ·exact (show PP.wantsStandIn T_int = false by kernel_rfl)
 ·exact (show PP.wantsStandIn T_Hyp = false by kernel_rfl)
theorem card : Rows.TypesOneUptoCardSaid :=
 Claim7.holds_tied_plain_at .later [] _ _ _ _ said (fun _ h => by cases h) (by kernel_rfl) (fun _ h => by cases h) typesOneUpto_row_tie rfl ⟨rfl, rfl⟩ (by kernel_rfl) rfl plain (by kernel_rfl)
end LawTypesOne
end Go.Proofs.YtjebgcoknpcadaaDoor
end
