/- Regions that draw their order: quiet operations, one run in the text's order; beside them operations that make something new, each told by a relation that later steps keep. -/
import Derived.Test.YtjjkhjieegmphaaDoorGwEq
namespace Go.Proofs.YtjjkhjieegmphaaDoor
open Go.RowKit
namespace Gw
set_option linter.unusedVariables false

/-- what the operations that are told by V have brought about, of those that an operation hangs on -/
def givs (ops : Array Oper) (V : Veil) (sm : List Nat) (g : Fr) (w : World) (o : Oper) : Prop := ∀ j ∈ needs o, sm.elem j = true → V j (g (dstAt ops j)) w
/-- run in whatever world that has only grown since w0, the operation brings about V i -/
def SRun (P : Program) (w0 : World) (o : Oper) (f : Fr) (H : World → Prop) (V : Value → World → Prop) : Prop := ∀ w, Ext w0 w → H w → match (execOp (evF f) o).run P w with
  | .ok (.value v) w' => Ext w w' ∧ V v w'
  | .ok (.enter g args) w' => Calls P g args w' fun e w'' => ∃ v, e = .returned v ∧ Ext w w'' ∧ V v w''
  | _ => False
def SOp (P : Program) (ops : Array Oper) (w0 : World) (o : Oper) (f : Fr) (H : World → Prop) (V : Value → World → Prop) : Prop := match o.guard with
  | none => SRun P w0 o f H V
  | some (j, pol) => ∃ c t, f (dstAt ops j) = gv c (.bool t) ∧ (ops[j]?).isSome ∧ ((c && (t == pol)) = true → SRun P w0 o f H V) ∧ ((c && (t == pol)) = false → ∀ w, V undef w)
def wm (P : Program) (ops : Array Oper) (w0 : World) (V : Veil) (sm ss : List Nat) : List Oper → Nat → (Fr → Prop) → Fr → Prop
  | [], _, K, f => K f
  | o :: l, i, K, f => bif sm.elem i then ((∀ g, SOp P ops w0 o (mask ss g f) (fun w => givs ops V sm g w o) (V i)) ∧ wm P ops w0 V sm ss l (i + 1) K f)
      else ∃ v, SOp P ops w0 o f (fun _ => True) (fun v' _ => v' = v) ∧ wm P ops w0 V sm ss l (i + 1) K (upd f (o.dst.getD 0) v)
/-- the slots that an operation looks at are made by those that it hangs on; of a quiet one: by quiet ones -/
def needsM (ops : Array Oper) (m n : Nat) (sm : List Nat) : Bool :=
  let ds := (ops.toList.take m).filterMap (·.dst)
  sm.all (fun k => decide (k < m)) && (ops.toList.take m).zipIdx.all fun q => let o := q.1
    (o.op.operands.toList.all fun x => match x with
      | .tmp t => !ds.elem t || (needs o).any fun j => (((ops[j]?).bind (·.dst)) == some t) && (sm.elem q.2 || !sm.elem j)
      | _ => true) &&
    (match o.guard with
      | none => true
      | some (j, _) => (needs o).elem j && (((ops[j]?).bind (·.dst)).any fun t => decide (t < n)) && !sm.elem j) &&
    (match o.op with | .select .. => false | _ => true) &&
    (match o.dst with | some d => decide (d < n) | none => false)
def slotsM (ops : Array Oper) (sm : List Nat) : List Nat := sm.map (dstAt ops)

section
variable {P : Program} {rd : Option Nat} {n m : Nat} {dm : List Nat} {ops : Array Oper} {Q : Post} {f : Fr} {w w0 : World} {V : Veil} {sm ss : List Nat} {l : List Oper} {i : Nat} {K : Fr → Prop}

theorem srun_does {o : Oper} {v : Value} (h : ∀ w, Ext w0 w → Does P o f w v w) : SRun P w0 o f (fun _ => True) (fun v' _ => v' = v) := fun w hw _ => by
  rw [show (execOp (evF f) o).run P w = _ from h w hw]
  exact ⟨Ext.refl w, rfl⟩
theorem srun_call {o : Oper} {v : Value} {g : FuncId} {args : Array Value} (he : ∀ w, Enters P o f w g args) (h : ∀ w, Ext w0 w → Calls P g args w fun e w' => ∃ v', e = .returned v' ∧ (v' = v ∧ Ext w w')) : SRun P w0 o f (fun _ => True) (fun v' _ => v' = v) := fun w hw _ => by
  rw [show (execOp (evF f) o).run P w = _ from he w]
  exact (h w hw).mono fun e w' ⟨v', he, hv, hx⟩ => ⟨v', he, hx, hv⟩
theorem wm_nil (h : K f) : wm P ops w0 V sm ss [] i K f := h
theorem wm_q {o : Oper} {v : Value} (hs : sm.elem i = false) (h : SOp P ops w0 o f (fun _ => True) (fun v' _ => v' = v)) (k : wm P ops w0 V sm ss l (i + 1) K (upd f (o.dst.getD 0) v)) : wm P ops w0 V sm ss (o :: l) i K f := by
  unfold wm; rw [hs]; exact ⟨v, h, k⟩
theorem wm_s {o : Oper} (hs : sm.elem i = true) (h : ∀ g, SOp P ops w0 o (mask ss g f) (fun w => givs ops V sm g w o) (V i)) (k : wm P ops w0 V sm ss l (i + 1) K f) : wm P ops w0 V sm ss (o :: l) i K f := by
  unfold wm; rw [hs]; exact ⟨h, k⟩
section
variable {d : Tmp} {op : Op} {ty : TypeId} {pos : String} {af : Array Edge}
theorem wm_does {v : Value} (h : ∀ w, Ext w0 w → Does P ⟨some d, op, ty, pos, af, none⟩ f w v w) (hs : sm.elem i = false) (k : wm P ops w0 V sm ss l (i + 1) K (upd f d v)) : wm P ops w0 V sm ss (⟨some d, op, ty, pos, af, none⟩ :: l) i K f := wm_q hs (srun_does h) k
theorem wm_call {v : Value} {g : FuncId} {args : Array Value} (he : ∀ w, Enters P ⟨some d, op, ty, pos, af, none⟩ f w g args) (h : ∀ w, Ext w0 w → Calls P g args w fun e w' => ∃ v', e = .returned v' ∧ (v' = v ∧ Ext w w')) (hs : sm.elem i = false)
    (k : wm P ops w0 V sm ss l (i + 1) K (upd f d v)) : wm P ops w0 V sm ss (⟨some d, op, ty, pos, af, none⟩ :: l) i K f := wm_q hs (srun_call he h) k
theorem wm_guard2 {j : Nat} {pol c t : Bool} {v : Value} {oj : Oper} {dj : Tmp} (hj : ops[j]? = some oj) (hdj : oj.dst = some dj) (ht : f dj = gv c (.bool t))
    (h : (c && (t == pol)) = true → ∀ w, Ext w0 w → Does P ⟨some d, op, ty, pos, af, some (j, pol)⟩ f w v w) (hs : sm.elem i = false) (k : wm P ops w0 V sm ss l (i + 1) K (upd f d (gv (c && (t == pol)) v))) : wm P ops w0 V sm ss (⟨some d, op, ty, pos, af, some (j, pol)⟩ :: l) i K f := by
  refine wm_q (v := gv (c && (t == pol)) v) hs ⟨c, t, by simp [dstAt, hj, hdj, ht], by simp [hj], fun e => ?_, fun e => ?_⟩ k
  · rw [gv_yes e]; exact srun_does (h e)
  · intro _; rw [e, gv_f]
theorem wm_guard {j : Nat} {pol t : Bool} {v : Value} {oj : Oper} {dj : Tmp} (hj : ops[j]? = some oj) (hdj : oj.dst = some dj) (ht : f dj = .bool t)
    (h : (t == pol) = true → ∀ w, Ext w0 w → Does P ⟨some d, op, ty, pos, af, some (j, pol)⟩ f w v w) (hs : sm.elem i = false) (k : wm P ops w0 V sm ss l (i + 1) K (upd f d (gv (t == pol) v))) : wm P ops w0 V sm ss (⟨some d, op, ty, pos, af, some (j, pol)⟩ :: l) i K f :=
  wm_guard2 (c := true) hj hdj (by rw [ht]; exact gv_t _) h hs k
theorem wm_gcall2 {j : Nat} {pol c t : Bool} {v : Value} {oj : Oper} {dj : Tmp} {g : FuncId} {args : Array Value} (hj : ops[j]? = some oj) (hdj : oj.dst = some dj) (ht : f dj = gv c (.bool t))
    (he : (c && (t == pol)) = true → ∀ w, Enters P ⟨some d, op, ty, pos, af, some (j, pol)⟩ f w g args) (h : (c && (t == pol)) = true → ∀ w, Ext w0 w → Calls P g args w fun e w' => ∃ v', e = .returned v' ∧ (v' = v ∧ Ext w w'))
    (hs : sm.elem i = false) (k : wm P ops w0 V sm ss l (i + 1) K (upd f d (gv (c && (t == pol)) v))) : wm P ops w0 V sm ss (⟨some d, op, ty, pos, af, some (j, pol)⟩ :: l) i K f := by
  refine wm_q (v := gv (c && (t == pol)) v) hs ⟨c, t, by simp [dstAt, hj, hdj, ht], by simp [hj], fun e => ?_, fun e => ?_⟩ k
  · rw [gv_yes e]; exact srun_call (he e) (h e)
  · intro _; rw [e, gv_f]
theorem wm_gcall {j : Nat} {pol t : Bool} {v : Value} {oj : Oper} {dj : Tmp} {g : FuncId} {args : Array Value} (hj : ops[j]? = some oj) (hdj : oj.dst = some dj) (ht : f dj = .bool t)
    (he : (t == pol) = true → ∀ w, Enters P ⟨some d, op, ty, pos, af, some (j, pol)⟩ f w g args) (h : (t == pol) = true → ∀ w, Ext w0 w → Calls P g args w fun e w' => ∃ v', e = .returned v' ∧ (v' = v ∧ Ext w w'))
    (hs : sm.elem i = false) (k : wm P ops w0 V sm ss l (i + 1) K (upd f d (gv (t == pol) v))) : wm P ops w0 V sm ss (⟨some d, op, ty, pos, af, some (j, pol)⟩ :: l) i K f :=
  wm_gcall2 (c := true) hj hdj (by rw [ht]; exact gv_t _) he h hs k
/-- an operation that makes something new -/
theorem wm_new (h : ∀ g w, Ext w0 w → givs ops V sm g w ⟨some d, op, ty, pos, af, none⟩ → ∃ v w', Does P ⟨some d, op, ty, pos, af, none⟩ (mask ss g f) w v w' ∧ Ext w w' ∧ V i v w') (hs : sm.elem i = true) (k : wm P ops w0 V sm ss l (i + 1) K f) :
    wm P ops w0 V sm ss (⟨some d, op, ty, pos, af, none⟩ :: l) i K f := wm_s hs (fun g w hw hg => by
  obtain ⟨v, w', hd, hx, hv⟩ := h g w hw hg
  rw [show (execOp (evF (mask ss g f)) _).run P w = _ from hd]
  exact ⟨hx, hv⟩) k
theorem wm_newcall (h : ∀ g w, Ext w0 w → givs ops V sm g w ⟨some d, op, ty, pos, af, none⟩ → ∃ k args, Enters P ⟨some d, op, ty, pos, af, none⟩ (mask ss g f) w k args ∧ Calls P k args w fun e w' => ∃ v, e = .returned v ∧ Ext w w' ∧ V i v w') (hs : sm.elem i = true) (k : wm P ops w0 V sm ss l (i + 1) K f) :
    wm P ops w0 V sm ss (⟨some d, op, ty, pos, af, none⟩ :: l) i K f := wm_s hs (fun g w hw hg => by
  obtain ⟨k, args, hd, hc⟩ := h g w hw hg
  rw [show (execOp (evF (mask ss g f)) _).run P w = _ from hd]
  exact hc) k
end

/-- the values that the run in the text's order makes -/
theorem wm_vals : ∀ (l : List Oper) (i : Nat) (f : Fr), wm P ops w0 V sm ss l i K f → ∃ F : Nat → Fr, F i = f ∧ K (F (i + l.length)) ∧ ∀ (j : Nat) (o : Oper), l[j]? = some o →
    (sm.elem (i + j) = true → (∀ g, SOp P ops w0 o (mask ss g (F (i + j))) (fun w => givs ops V sm g w o) (V (i + j))) ∧ F (i + j + 1) = F (i + j)) ∧ (sm.elem (i + j) = false → ∃ v, SOp P ops w0 o (F (i + j)) (fun _ => True) (fun v' _ => v' = v) ∧ F (i + j + 1) = upd (F (i + j)) (o.dst.getD 0) v)
  | [], i, f, h => ⟨fun _ => f, rfl, h, fun j o hj => by simp at hj⟩
  | o :: l, i, f, h => by
    cases hs : sm.elem i with
    | true =>
      unfold wm at h
      rw [hs] at h
      obtain ⟨h1, hk⟩ := h
      obtain ⟨F, h0, hK, hF⟩ := wm_vals l (i + 1) f hk
      refine ⟨fun k => if k = i then f else F k, by simp, by rw [List.length_cons, show i + (l.length + 1) = i + 1 + l.length by omega]; simpa only [show i + 1 + l.length ≠ i by omega, if_false] using hK, fun j o' hj => ?_⟩
      cases j with
      | zero =>
        simp at hj; subst hj
        refine ⟨fun _ => ?_, fun e => by rw [Nat.add_zero, hs] at e; cases e⟩
        simp only [Nat.add_zero, if_true, show i + 1 ≠ i by omega, if_false, h0]
        exact ⟨h1, trivial⟩
      | succ j =>
        have := hF j o' (by simpa using hj)
        simp only [show i + (j + 1) = i + 1 + j by omega, show i + 1 + j ≠ i by omega, show i + 1 + j + 1 ≠ i by omega, if_false]
        exact this
    | false =>
      unfold wm at h
      rw [hs] at h
      obtain ⟨v, hv, hk⟩ := h
      obtain ⟨F, h0, hK, hF⟩ := wm_vals l (i + 1) _ hk
      refine ⟨fun k => if k = i then f else F k, by simp, by rw [List.length_cons, show i + (l.length + 1) = i + 1 + l.length by omega]; simpa only [show i + 1 + l.length ≠ i by omega, if_false] using hK, fun j o' hj => ?_⟩
      cases j with
      | zero =>
        simp at hj; subst hj
        refine ⟨fun e => (by rw [Nat.add_zero, hs] at e; cases e), fun _ => ?_⟩
        simp only [Nat.add_zero, if_true, show i + 1 ≠ i by omega, if_false, h0]
        exact ⟨v, hv, rfl⟩
      | succ j =>
        have := hF j o' (by simpa using hj)
        simp only [show i + (j + 1) = i + 1 + j by omega, show i + 1 + j ≠ i by omega, show i + 1 + j + 1 ≠ i by omega, if_false]
        exact this

theorem srun_congr {o : Oper} {f f' : Fr} {H : World → Prop} {V : Value → World → Prop} (hs : ∀ cs b, o.op ≠ .select cs b) (h : ∀ x ∈ o.op.operands, evF f x = evF f' x) (q : SRun P w0 o f H V) : SRun P w0 o f' H V := by
  unfold SRun at q ⊢
  rw [← execOp_congr o hs h]
  exact q
theorem wl_of_srun {d : Tmp} {op : Op} {ty : TypeId} {pos : String} {af : Array Edge} {gd : Option (Nat × Bool)} {f : Fr} {H : World → Prop} {V : Value → World → Prop} (q : SRun P w0 ⟨some d, op, ty, pos, af, gd⟩ f H V) (hw : Ext w0 w) (hH : H w) {a : Act} (ha : Is n dm a f) :
    ∀ (K' : Act → World → Prop) (R : Exit → Act → World → Prop), (∀ v w', Ext w w' → V v w' → K' (a.put (some d) v) w') → (⟨some d, op, ty, pos, af, gd⟩ : Oper).wpIn (fen rd) 0 P a w K' R := by
  intro K' R hK
  have h := q w hw hH
  generalize hr : (execOp (evF f) (⟨some d, op, ty, pos, af, gd⟩ : Oper)).run P w = r at h
  cases r with
  | halt x w' => exact h.elim
  | ok nx w' =>
    cases nx with
    | value v' => exact op_wp ha hr (by simp) (hK _ _ h.1 h.2)
    | enter g args =>
      refine op_wp ha hr (by simp) (show _ ∧ _ from ⟨fun h => (by cases h), ?_⟩)
      refine CallsIn.mono (show CallsIn (fen rd) _ P g args w' _ from callsIn_wide.2 h) fun e w'' ⟨v, he, hx, hv⟩ => ?_
      subst he; exact hK _ _ hx hv
    | _ => exact h.elim

/-- A REGION THAT DRAWS ITS ORDER, with operations that make something new -/
theorem wc_semi {id : Nat} {l : List Oper} (m : Nat) (sm : List Nat) (V : Veil) (hm : P.follows .mixedOrders = true) (hB : drawB l.toArray m = true) (hN : needsM l.toArray m n sm = true)
    (hst : ∀ i v w w', sm.elem i = true → Ext w w' → V i v w → V i v w')
    (h : wm P l.toArray w V sm (slotsM l.toArray sm) (l.take m) 0 (fun f' => ∀ g w', Ext w w' → (∀ i, sm.elem i = true → i < m → V i (g (dstAt l.toArray i)) w') → wl P rd n dm l.toArray (l.drop m) Q (mask (slotsM l.toArray sm) g f') w') f) : wc P rd n dm (.region id l.toArray true) Q f w := by
  obtain ⟨F, hF0, hFK, hF⟩ := wm_vals _ _ _ h
  simp only [needsM, Bool.and_eq_true] at hN
  obtain ⟨hsm, hN⟩ := hN
  have hB' := hB
  simp only [drawB, Bool.and_eq_true, decide_eq_true_eq, List.all_eq_true] at hB
  obtain ⟨⟨⟨⟨hsome, hnd⟩, hback⟩, htail⟩, hml⟩ := hB
  simp only [List.size_toArray] at hml
  have hlen : (l.take m).length = m := by simp; omega
  simp only [Nat.zero_add] at hF hFK
  rw [hlen] at hFK
  generalize hss : slotsM l.toArray sm = ss at *
  let U : Veil := fun i v w => if sm.elem i = true then V i v w else ∀ o, (l.take m)[i]? = some o → v = F (i + 1) (o.dst.getD 0)
  have hdist : ∀ (i j : Nat) (oi oj : Oper) (d : Nat), (l.take m)[i]? = some oi → (l.take m)[j]? = some oj → oi.dst = some d → oj.dst = some d → i = j := by
    have hgen : ∀ (L : List Oper), (L.filterMap (·.dst)).Nodup → ∀ (i j : Nat) (oi oj : Oper) (d : Nat), L[i]? = some oi → L[j]? = some oj → oi.dst = some d → oj.dst = some d → i = j := by
      intro L
      induction L with
      | nil => intro _ i j oi oj d h; simp at h
      | cons o L ih =>
        intro hn i j oi oj d hi hj hdi hdj
        have hn' : (L.filterMap (·.dst)).Nodup := by
          rw [List.filterMap_cons] at hn
          split at hn
          · exact hn
          · exact (List.nodup_cons.1 hn).2
        have hno : ∀ (k : Nat) (ok : Oper) (dd : Nat), L[k]? = some ok → o.dst = some dd → ok.dst ≠ some dd := by
          intro k ok dd hk hod hkd
          rw [List.filterMap_cons, hod] at hn
          exact (List.nodup_cons.1 hn).1 (List.mem_filterMap.2 ⟨ok, List.mem_of_getElem? hk, hkd⟩)
        cases i with
        | zero =>
          cases j with
          | zero => rfl
          | succ j => simp at hi; subst hi; exact absurd hdj (hno j oj d (by simpa using hj) hdi)
        | succ i =>
          cases j with
          | zero => simp at hj; subst hj; exact absurd hdi (hno i oi d (by simpa using hi) hdj)
          | succ j => rw [ih hn' i j oi oj d (by simpa using hi) (by simpa using hj) hdi hdj]
    exact hgen _ hnd
  have hdst : ∀ (i : Nat) (o : Oper), (l.take m)[i]? = some o → ∃ d, o.dst = some d := by
    intro i o hi
    have := hsome o (List.mem_of_getElem? hi)
    cases hd : o.dst with
    | none => rw [hd] at this; simp at this
    | some d => exact ⟨d, rfl⟩
  have hat : ∀ (i : Nat) (o : Oper), (l.take m)[i]? = some o → i < m ∧ l.toArray[i]? = some o := by
    intro i o hi
    have him : i < m := by have := (List.getElem?_eq_some_iff.1 hi).1; omega
    exact ⟨him, by rw [List.getElem?_take, if_pos him] at hi; simpa using hi⟩
  have hsmd : ∀ k ∈ sm, ∃ o, (l.take m)[k]? = some o ∧ o.dst = some (dstAt l.toArray k) := by
    intro k hk
    have hkm : k < m := by simpa using List.all_eq_true.1 hsm k hk
    have hkl : k < (l.take m).length := by omega
    obtain ⟨d, hd⟩ := hdst k _ (List.getElem?_eq_getElem hkl)
    refine ⟨_, List.getElem?_eq_getElem hkl, ?_⟩
    have := (hat k _ (List.getElem?_eq_getElem hkl)).2
    unfold dstAt
    rw [this, Option.bind_some, hd]; rfl
  -- one step of the run keeps the slots of other operations
  have hstep : ∀ (k : Nat) (o : Oper) (d : Nat), (l.take m)[k]? = some o → (∀ dk, o.dst = some dk → d ≠ dk) → F (k + 1) d = F k d := by
    intro k o d hk hne
    obtain ⟨dk, hdk⟩ := hdst k o hk
    cases hs : sm.elem k with
    | true => rw [((hF k o hk).1 hs).2]
    | false =>
      obtain ⟨v, _, hFk⟩ := (hF k o hk).2 hs
      rw [hFk, hdk]
      exact upd_other _ _ _ _ (hne dk hdk)
  have hkeep : ∀ (k i : Nat) (o : Oper) (d : Nat), (l.take m)[i]? = some o → o.dst = some d → i < k → k ≤ m → F k d = F (i + 1) d := by
    intro k
    induction k with
    | zero => intro i o d _ _ h; omega
    | succ k ih =>
      intro i o d hi hd hik hkm
      by_cases hik' : i = k
      · subst hik'; rfl
      · have hkl : k < (l.take m).length := by omega
        rw [hstep k _ d (List.getElem?_eq_getElem hkl) (fun dk hdk e => by subst e; exact hik' (hdist i k o _ d hi (List.getElem?_eq_getElem hkl) hd hdk))]
        exact ih i o d hi hd (by omega) (by omega)
  have hout : ∀ (k d : Nat), k ≤ m → d ∉ (l.take m).filterMap (·.dst) → F k d = f d := by
    intro k
    induction k with
    | zero => intro d _ _; rw [hF0]
    | succ k ih =>
      intro d hkm hd
      have hkl : k < (l.take m).length := by omega
      rw [hstep k _ d (List.getElem?_eq_getElem hkl) (fun dk hdk e => by subst e; exact hd (List.mem_filterMap.2 ⟨_, List.getElem_mem hkl, hdk⟩))]
      exact ih d (by omega) hd
  have hssd : ∀ (j : Nat) (oj : Oper) (t : Nat), (l.take m)[j]? = some oj → oj.dst = some t → (t ∈ ss ↔ ∃ k, sm.elem k = true ∧ dstAt l.toArray k = t) := by
    intro j oj t _ _
    rw [← hss]
    unfold slotsM
    simp
  -- in the frame of a run, a slot that an operation of V's makes is g's; a quiet one's is the run's
  have hslot : ∀ (i : Nat) (o : Oper) (g : Fr) (w' : World), (l.take m)[i]? = some o → (∀ j ∈ needs o, U j (g (dstAt l.toArray j)) w') → ∀ (j : Nat) (oj : Oper) (t : Nat), j ∈ needs o → l.toArray[j]? = some oj → oj.dst = some t →
      (sm.elem j = false → mask ((l.take m).filterMap (·.dst)) g f t = F i t) ∧ mask ((l.take m).filterMap (·.dst)) g f t = g t ∧ j < i := by
    intro i o g w' hi hneed j oj t hj hoj hdj
    have hji : j < i := by
      unfold needs at hj
      obtain ⟨e, he, rfl⟩ := List.mem_map.1 hj
      obtain ⟨he1, he2⟩ := List.mem_filter.1 he
      have hbd : Region.binds .any e = true := by
        unfold Region.binds
        cases hg : e.ground <;> rw [hg] at he2 <;> simp at he2 ⊢
      have := hback (o, i) (by rw [List.mem_zipIdx_iff_getElem?]; simpa using (hat i o hi).2) e (by simpa using he1)
      simp only [hbd, Bool.not_true, Bool.false_or, decide_eq_true_eq] at this
      exact this
    have him := (hat i o hi).1
    have hjm : (l.take m)[j]? = some oj := by
      rw [List.getElem?_take, if_pos (by omega)]
      simpa using hoj
    have ht : t ∈ (l.take m).filterMap (·.dst) := List.mem_filterMap.2 ⟨oj, List.mem_of_getElem? hjm, hdj⟩
    have hda : dstAt l.toArray j = t := by simp [dstAt, hoj, hdj]
    refine ⟨fun hs => ?_, mask_in ht, hji⟩
    rw [mask_in ht, hkeep i j oj t hjm hdj hji (by omega)]
    have := hneed j hj
    simp only [U, hs, Bool.false_eq_true, if_false] at this
    have := this oj hjm
    rw [hda, hdj] at this
    exact this
  refine wc_draw m ⟨fun _ => Ext w, fun _ => Ext, U⟩ hm hB' (fun L i v w1 w2 _ hl hv => ?_) (Ext.drawn w) ?_ ?_
  · simp only [U] at hv ⊢
    split
    · rename_i hs; rw [if_pos hs] at hv; exact hst i v w1 w2 hs hl hv
    · rename_i hs; rw [if_neg hs] at hv; exact hv
  · -- each operation
    have howe : ∀ (L : List Oper) (k : Nat), (∀ j o, L[j]? = some o → (l.take m)[k + j]? = some o) → Owes P rd n dm l.toArray ((l.take m).filterMap (·.dst)) ⟨fun _ => Ext w, fun _ => Ext, U⟩ f L k := by
      intro L
      induction L with
      | nil => intro k _; trivial
      | cons o L ih =>
        intro k hL
        refine ⟨?_, ih (k + 1) (fun j o' hj => by
          have := hL (j + 1) o' (by simpa using hj)
          rwa [show k + (j + 1) = k + 1 + j by omega] at this)⟩
        have hk : (l.take m)[k]? = some o := hL 0 o rfl
        obtain ⟨hkm, hko⟩ := hat k o hk
        obtain ⟨d, hd⟩ := hdst k o hk
        intro Ls g w1 hLi hTw
        refine (show ∀ (p : Prop), ((∀ j ∈ needs o, U j (g (dstAt l.toArray j)) w1) → p) → givens l.toArray ⟨fun _ => Ext w, fun _ => Ext, U⟩ g w1 (needs o) p from ?_) _ ?_
        · intro p
          generalize needs o = nl
          induction nl with
          | nil => intro hp; exact hp (by simp)
          | cons j nl ihn =>
            intro hp hj
            exact ihn (fun h' => hp (fun j' hj' => by
              rcases List.mem_cons.1 hj' with rfl | hj'
              · exact hj
              · exact h' j' hj'))
        intro hneed
        have hNo := List.all_eq_true.1 hN (o, k) (by rw [List.mem_zipIdx_iff_getElem?]; simpa using hk)
        simp only [Bool.and_eq_true] at hNo
        obtain ⟨⟨⟨hops, hgd⟩, hsel⟩, hdn⟩ := hNo
        rw [hd] at hdn
        simp only [decide_eq_true_eq] at hdn
        have hsel' : ∀ cs b, o.op ≠ .select cs b := by
          intro cs b e
          rw [e] at hsel
          cases hsel
        have hsl := hslot k o g w1 hk hneed
        -- the frame that the proof of this operation has seen
        have hfr : ∀ fr : Fr, (fr = F k ∧ sm.elem k = false ∨ fr = mask ss g (F k) ∧ sm.elem k = true) → ∀ x ∈ o.op.operands, evF fr x = evF (mask ((l.take m).filterMap (·.dst)) g f) x := by
          intro fr hfr x hx
          cases x with
          | tmp t =>
            have h0 := List.all_eq_true.1 hops (.tmp t) (by simpa using hx)
            simp only [Bool.or_eq_true] at h0
            show fr t = mask _ g f t
            by_cases ht : t ∈ (l.take m).filterMap (·.dst)
            · rcases h0 with h1 | h1
              · simp at h1
                obtain ⟨x, hx1, hx2⟩ := List.mem_filterMap.1 ht
                exact absurd hx2 (h1 x hx1)
              · obtain ⟨j, hj, hjt⟩ := List.any_eq_true.1 h1
                simp only [Bool.and_eq_true, beq_iff_eq] at hjt
                obtain ⟨hjt, hjq⟩ := hjt
                cases hoj : l.toArray[j]? with
                | none => rw [hoj] at hjt; simp at hjt
                | some oj =>
                  rw [hoj] at hjt
                  have hdj : oj.dst = some t := by simpa using hjt
                  obtain ⟨q1, q2, q3⟩ := hsl j oj t hj hoj hdj
                  rcases hfr with ⟨rfl, hs⟩ | ⟨rfl, hs⟩
                  · rw [hs] at hjq
                    simp only [Bool.false_or, Bool.not_eq_true'] at hjq
                    exact (q1 hjq).symm
                  · have hda : dstAt l.toArray j = t := by simp [dstAt, hoj, hdj]
                    by_cases hjs : sm.elem j = true
                    · rw [q2]
                      refine mask_in ?_
                      rw [← hss]; unfold slotsM
                      exact List.mem_map.2 ⟨j, by simpa using hjs, hda⟩
                    · have hjs' : sm.elem j = false := by simpa using hjs
                      rw [q1 hjs']
                      refine mask_out ?_
                      rw [← hss]; unfold slotsM
                      intro hmem
                      obtain ⟨k', hk', hdk'⟩ := List.mem_map.1 hmem
                      have hjm : (l.take m)[j]? = some oj := by
                        rw [List.getElem?_take, if_pos (by omega)]
                        simpa using hoj
                      obtain ⟨ok, hok, hdk⟩ := hsmd k' hk'
                      rw [hdk'] at hdk
                      have := hdist k' j ok oj t hok hjm hdk hdj
                      subst this
                      rw [show sm.elem k' = true by simpa using hk'] at hjs'
                      cases hjs' 
            · rw [mask_out ht]
              rcases hfr with ⟨rfl, hs⟩ | ⟨rfl, hs⟩
              · exact hout k t (by omega) ht
              · rw [mask_out, hout k t (by omega) ht]
                rw [← hss]; unfold slotsM
                intro hmem
                obtain ⟨k', hk', hdk'⟩ := List.mem_map.1 hmem
                obtain ⟨ok, hok, hdk⟩ := hsmd k' hk'
                rw [hdk'] at hdk
                exact ht (List.mem_filterMap.2 ⟨ok, List.mem_of_getElem? hok, hdk⟩)
          | _ => rfl
        -- the operation, on the frame at hand
        have hgiv : givs l.toArray V sm g w1 o := fun j hj hs => by
          have := hneed j hj
          simp only [U, hs, if_true] at this
          exact this
        obtain ⟨fr, H, R, hso, hfrx, hH, hR⟩ : ∃ (fr : Fr) (H : World → Prop) (R : Value → World → Prop), SOp P l.toArray w o fr H R ∧ (fr = F k ∧ sm.elem k = false ∨ fr = mask ss g (F k) ∧ sm.elem k = true) ∧ H w1 ∧ (∀ v w', R v w' → U k v w') := by
          cases hs : sm.elem k with
          | true => exact ⟨_, _, _, ((hF k o hk).1 hs).1 g, .inr ⟨rfl, rfl⟩, hgiv, fun v w' hv => by simp only [U, hs, if_true]; exact hv⟩
          | false =>
            obtain ⟨v, hv, hFk⟩ := (hF k o hk).2 hs
            refine ⟨_, _, _, hv, .inl ⟨rfl, rfl⟩, trivial, fun v' w' e => ?_⟩
            simp only [U, hs, Bool.false_eq_true, if_false]
            intro o' ho'
            rw [hk] at ho'
            cases ho'
            rw [hFk, e, upd_same]
        have hoper := hfr fr hfrx
        have hfin : ∀ v w', Ext w1 w' → R v w' → obPost dm ⟨fun _ => Ext w, fun _ => Ext, U⟩ Ls k (o.dst.getD 0) (mask ((l.take m).filterMap (·.dst)) g f) w1 dm .normal (upd (mask ((l.take m).filterMap (·.dst)) g f) (o.dst.getD 0) v) w' :=
          fun v w' hx hv => ob (D := ⟨fun _ => Ext w, fun _ => Ext, U⟩) (hTw.trans hx) hx (hR v w' hv)
        obtain ⟨od, oop, oty, opos, oaf, ogd⟩ := o
        simp only at hd
        subst hd
        simp only [Option.getD_some] at hfin
        intro a ha
        cases ogd with
        | none =>
          have q := srun_congr hsel' hoper (show SRun P w _ fr H R from hso)
          refine wpListIn_plain rfl fun K' hK => ?_
          refine wl_of_srun q hTw hH ha _ _ fun v w' hx hv => hK _ _ ?_
          exact ⟨_, _, ha.put hdn v, hfin v w' hx hv⟩
        | some gp =>
          obtain ⟨j, pol⟩ := gp
          obtain ⟨c, t, ht, hjs, hqy, hqn⟩ := hso
          simp only [Bool.and_eq_true, Bool.not_eq_true'] at hgd
          obtain ⟨⟨hjn, hjd⟩, hjq⟩ := hgd
          cases hoj : l.toArray[j]? with
          | none => rw [hoj] at hjs; simp at hjs
          | some oj =>
            rw [hoj] at hjd
            simp only [Option.bind_some, Option.any_eq_true] at hjd
            obtain ⟨dj, hdj, hdjn⟩ := hjd
            obtain ⟨q1, q2, q3⟩ := hsl j oj dj (by simpa using hjn) hoj hdj
            have hda : dstAt l.toArray j = dj := by simp [dstAt, hoj, hdj]
            have hfd : fr dj = mask ((l.take m).filterMap (·.dst)) g f dj := by
              rcases hfrx with ⟨rfl, _⟩ | ⟨rfl, _⟩
              · exact (q1 hjq).symm
              · rw [q1 hjq]
                refine mask_out ?_
                rw [← hss]; unfold slotsM
                intro hmem
                obtain ⟨k', hk', hdk'⟩ := List.mem_map.1 hmem
                obtain ⟨ok, hok, hdk⟩ := hsmd k' hk'
                rw [hdk'] at hdk
                have hjm : (l.take m)[j]? = some oj := by
                  rw [List.getElem?_take, if_pos (by omega)]
                  simpa using hoj
                have := hdist k' j ok oj dj hok hjm hdk hdj
                subst this
                rw [show sm.elem k' = true by simpa using hk'] at hjq
                cases hjq
            rw [hda, hfd] at ht
            refine wpListIn_step fun K' hK => ?_
            rw [wanted_gv ha rfl hoj hdj ht (by simpa using hdjn)]
            cases hc : (c && (t == pol)) with
            | true =>
              rw [if_pos rfl]
              have q := srun_congr hsel' hoper (hqy hc)
              refine wl_of_srun q hTw hH ha _ _ fun v w' hx hv => hK _ _ ?_
              exact ⟨_, _, ha.put hdn v, hfin v w' hx hv⟩
            | false =>
              rw [if_neg (by simp)]
              have := hfin undef w1 (Ext.refl w1) (hqn hc w1)
              exact ⟨fun _ _ => trivial, hK _ _ ⟨_, _, ha.put hdn undef, this⟩⟩
    exact howe _ 0 (fun j o hj => by rw [Nat.zero_add]; exact hj)
  · -- the tail
    intro Ls g w1 _ hTw
    have hall : ∀ (L : List Oper) (k : Nat) (p : Prop), ((∀ j o, L[j]? = some o → U (k + j) (g (o.dst.getD 0)) w1) → p) → allV ⟨fun _ => Ext w, fun _ => Ext, U⟩ g w1 L k p := by
      intro L
      induction L with
      | nil => intro k p hp; exact hp (by intro j o h; simp at h)
      | cons o L ih =>
        intro k p hp hv
        refine ih (k + 1) p fun h' => hp fun j o' hj => ?_
        cases j with
        | zero => simp at hj; subst hj; exact hv
        | succ j =>
          have := h' j o' (by simpa using hj)
          rwa [show k + 1 + j = k + (j + 1) by omega] at this
    refine hall _ 0 _ fun hv => ?_
    have heq : mask ((l.take m).filterMap (·.dst)) g f = mask ss g (F m) := by
      funext t
      by_cases ht : t ∈ (l.take m).filterMap (·.dst)
      · rw [mask_in ht]
        obtain ⟨o, ho, hd⟩ := List.mem_filterMap.1 ht
        obtain ⟨i, hi⟩ := List.getElem?_of_mem ho
        have hiv := hv i o hi
        rw [Nat.zero_add, hd] at hiv
        simp only [Option.getD_some] at hiv
        cases hs : sm.elem i with
        | true =>
          refine (mask_in ?_).symm
          rw [← hss]; unfold slotsM
          refine List.mem_map.2 ⟨i, by simpa using hs, ?_⟩
          unfold dstAt
          rw [(hat i o hi).2, Option.bind_some, hd]; rfl
        | false =>
          simp only [U, hs, Bool.false_eq_true, if_false] at hiv
          have := hiv o hi
          rw [hd] at this
          simp only [Option.getD_some] at this
          rw [this, mask_out, ← hkeep m i o t hi hd (hat i o hi).1 (Nat.le_refl _)]
          rw [← hss]; unfold slotsM
          intro hmem
          obtain ⟨k', hk', hdk'⟩ := List.mem_map.1 hmem
          obtain ⟨ok, hok, hdk⟩ := hsmd k' hk'
          rw [hdk'] at hdk
          have := hdist k' i ok o t hok hi hdk hd
          subst this
          rw [show sm.elem k' = true by simpa using hk'] at hs
          cases hs
      · rw [mask_out ht, mask_out, hout m t (Nat.le_refl _) ht]
        rw [← hss]; unfold slotsM
        intro hmem
        obtain ⟨k', hk', hdk'⟩ := List.mem_map.1 hmem
        obtain ⟨ok, hok, hdk⟩ := hsmd k' hk'
        rw [hdk'] at hdk
        exact ht (List.mem_filterMap.2 ⟨ok, List.mem_of_getElem? hok, hdk⟩)
    rw [heq]
    refine hFK g w1 hTw fun i hs him => ?_
    obtain ⟨o, ho, hd⟩ := hsmd i (by simpa using hs)
    have := hv i o ho
    rw [Nat.zero_add, hd] at this
    simp only [Option.getD_some, U, hs, if_true] at this
    exact this
end
end Gw
end Go.Proofs.YtjjkhjieegmphaaDoor
