/- Regions that draw their order, whose operations but for a tail make values that do not hang on the order: one run in the order of the text serves every order. -/
import Derived.Test.YtjjkhjieegmphaaDoorGwDraw
namespace Go.Proofs.YtjjkhjieegmphaaDoor
open Go.RowKit
namespace Gw
set_option linter.unusedVariables false

/-- run in whatever world of T, the operation makes v and stays in T -/
def QRun (P : Program) (T : World → Prop) (o : Oper) (f : Fr) (v : Value) : Prop := ∀ w, T w → match (execOp (evF f) o).run P w with
  | .ok (.value v') w' => v' = v ∧ T w'
  | .ok (.enter g args) w' => Calls P g args w' fun e w'' => e = .returned v ∧ T w''
  | _ => False
/-- the same of an operation with a guard -/
def QOp (P : Program) (ops : Array Oper) (T : World → Prop) (o : Oper) (f : Fr) (v : Value) : Prop := match o.guard with
  | none => QRun P T o f v
  | some (j, pol) => ∃ c t, f (dstAt ops j) = gv c (.bool t) ∧ (ops[j]?).isSome ∧ ((c && (t == pol)) = true → QRun P T o f v) ∧ ((c && (t == pol)) = false → v = undef)
def wq (P : Program) (ops : Array Oper) (T : World → Prop) : List Oper → (Fr → Prop) → Fr → Prop
  | [], K, f => K f
  | o :: l, K, f => ∃ v, QOp P ops T o f v ∧ wq P ops T l K (upd f (o.dst.getD 0) v)

/-- each slot of the region's own that an operation looks at is made by one that it hangs on -/
def needsB (ops : Array Oper) (m n : Nat) : Bool :=
  let ds := (ops.toList.take m).filterMap (·.dst)
  (ops.toList.take m).all fun o =>
    (o.op.operands.toList.all fun x => match x with
      | .tmp t => !ds.elem t || (needs o).any fun j => (((ops[j]?).bind (·.dst)) == some t)
      | _ => true) &&
    (match o.guard with
      | none => true
      | some (j, _) => (needs o).elem j && (((ops[j]?).bind (·.dst)).any fun t => decide (t < n))) &&
    (match o.op with | .select .. => false | _ => true) &&
    (match o.dst with | some d => decide (d < n) | none => false)

section
variable {P : Program} {rd : Option Nat} {n m : Nat} {dm : List Nat} {ops : Array Oper} {Q : Post} {f : Fr} {w : World} {T : World → Prop} {l : List Oper} {K : Fr → Prop}

theorem qrun_does {o : Oper} {v : Value} (h : ∀ w, T w → Does P o f w v w) : QRun P T o f v := fun w hw => by
  rw [show (execOp (evF f) o).run P w = _ from h w hw]
  exact ⟨rfl, hw⟩
theorem qrun_call {o : Oper} {v : Value} {g : FuncId} {args : Array Value} (he : ∀ w, Enters P o f w g args) (h : ∀ w, T w → Calls P g args w fun e w' => ∃ v', e = .returned v' ∧ (v' = v ∧ Ext w w')) (hT : ∀ w w', T w → Ext w w' → T w') : QRun P T o f v := fun w hw => by
  rw [show (execOp (evF f) o).run P w = _ from he w]
  exact (h w hw).mono fun e w' ⟨v', he, hv, hx⟩ => ⟨by rw [he, hv], hT w w' hw hx⟩
theorem wq_nil (h : K f) : wq P ops T [] K f := h
theorem wq_does {d : Tmp} {op : Op} {ty : TypeId} {pos : String} {af : Array Edge} {v : Value} (h : ∀ w, T w → Does P ⟨some d, op, ty, pos, af, none⟩ f w v w) (k : wq P ops T l K (upd f d v)) : wq P ops T (⟨some d, op, ty, pos, af, none⟩ :: l) K f :=
  ⟨v, qrun_does h, k⟩
theorem wq_call {d : Tmp} {op : Op} {ty : TypeId} {pos : String} {af : Array Edge} {v : Value} {g : FuncId} {args : Array Value} (he : ∀ w, Enters P ⟨some d, op, ty, pos, af, none⟩ f w g args) (h : ∀ w, T w → Calls P g args w fun e w' => ∃ v', e = .returned v' ∧ (v' = v ∧ Ext w w'))
    (hT : ∀ w w', T w → Ext w w' → T w') (k : wq P ops T l K (upd f d v)) : wq P ops T (⟨some d, op, ty, pos, af, none⟩ :: l) K f :=
  ⟨v, qrun_call he h hT, k⟩
theorem wq_guard2 {d : Tmp} {op : Op} {ty : TypeId} {pos : String} {af : Array Edge} {j : Nat} {pol c t : Bool} {v : Value} {oj : Oper} {dj : Tmp} (hj : ops[j]? = some oj) (hdj : oj.dst = some dj) (ht : f dj = gv c (.bool t))
    (h : (c && (t == pol)) = true → ∀ w, T w → Does P ⟨some d, op, ty, pos, af, some (j, pol)⟩ f w v w) (k : wq P ops T l K (upd f d (gv (c && (t == pol)) v))) : wq P ops T (⟨some d, op, ty, pos, af, some (j, pol)⟩ :: l) K f := by
  refine ⟨gv (c && (t == pol)) v, ⟨c, t, by simp [dstAt, hj, hdj, ht], by simp [hj], fun e => ?_, fun e => ?_⟩, k⟩
  · rw [gv_yes e]; exact qrun_does (h e)
  · rw [e, gv_f]
theorem wq_guard {d : Tmp} {op : Op} {ty : TypeId} {pos : String} {af : Array Edge} {j : Nat} {pol t : Bool} {v : Value} {oj : Oper} {dj : Tmp} (hj : ops[j]? = some oj) (hdj : oj.dst = some dj) (ht : f dj = .bool t)
    (h : (t == pol) = true → ∀ w, T w → Does P ⟨some d, op, ty, pos, af, some (j, pol)⟩ f w v w) (k : wq P ops T l K (upd f d (gv (t == pol) v))) : wq P ops T (⟨some d, op, ty, pos, af, some (j, pol)⟩ :: l) K f :=
  wq_guard2 (c := true) hj hdj (by rw [ht]; exact gv_t _) h k
theorem wq_gcall2 {d : Tmp} {op : Op} {ty : TypeId} {pos : String} {af : Array Edge} {j : Nat} {pol c t : Bool} {v : Value} {oj : Oper} {dj : Tmp} {g : FuncId} {args : Array Value} (hj : ops[j]? = some oj) (hdj : oj.dst = some dj) (ht : f dj = gv c (.bool t))
    (he : (c && (t == pol)) = true → ∀ w, Enters P ⟨some d, op, ty, pos, af, some (j, pol)⟩ f w g args) (h : (c && (t == pol)) = true → ∀ w, T w → Calls P g args w fun e w' => ∃ v', e = .returned v' ∧ (v' = v ∧ Ext w w'))
    (hT : ∀ w w', T w → Ext w w' → T w') (k : wq P ops T l K (upd f d (gv (c && (t == pol)) v))) : wq P ops T (⟨some d, op, ty, pos, af, some (j, pol)⟩ :: l) K f := by
  refine ⟨gv (c && (t == pol)) v, ⟨c, t, by simp [dstAt, hj, hdj, ht], by simp [hj], fun e => ?_, fun e => ?_⟩, k⟩
  · rw [gv_yes e]; exact qrun_call (he e) (h e) hT
  · rw [e, gv_f]
theorem wq_gcall {d : Tmp} {op : Op} {ty : TypeId} {pos : String} {af : Array Edge} {j : Nat} {pol t : Bool} {v : Value} {oj : Oper} {dj : Tmp} {g : FuncId} {args : Array Value} (hj : ops[j]? = some oj) (hdj : oj.dst = some dj) (ht : f dj = .bool t)
    (he : (t == pol) = true → ∀ w, Enters P ⟨some d, op, ty, pos, af, some (j, pol)⟩ f w g args) (h : (t == pol) = true → ∀ w, T w → Calls P g args w fun e w' => ∃ v', e = .returned v' ∧ (v' = v ∧ Ext w w'))
    (hT : ∀ w w', T w → Ext w w' → T w') (k : wq P ops T l K (upd f d (gv (t == pol) v))) : wq P ops T (⟨some d, op, ty, pos, af, some (j, pol)⟩ :: l) K f :=
  wq_gcall2 (c := true) hj hdj (by rw [ht]; exact gv_t _) he h hT k

/-- the values that the run in the text's order makes -/
theorem wq_vals : ∀ (l : List Oper) (f : Fr), wq P ops T l K f → ∃ F : Nat → Fr, F 0 = f ∧ K (F l.length) ∧ ∀ (i : Nat) (o : Oper), l[i]? = some o → ∃ v, QOp P ops T o (F i) v ∧ F (i + 1) = upd (F i) (o.dst.getD 0) v
  | [], f, h => ⟨fun _ => f, rfl, h, fun i o hi => by simp at hi⟩
  | o :: l, f, h => by
    obtain ⟨v, hv, hk⟩ := h
    obtain ⟨F, h0, hK, hF⟩ := wq_vals l _ hk
    refine ⟨fun i => match i with | 0 => f | i + 1 => F i, rfl, hK, fun i o' hi => ?_⟩
    cases i with
    | zero =>
      simp at hi; subst hi
      exact ⟨v, hv, h0⟩
    | succ i => exact hF i o' (by simpa using hi)

theorem qrun_congr {o : Oper} {f f' : Fr} {v : Value} (hs : ∀ cs b, o.op ≠ .select cs b) (h : ∀ x ∈ o.op.operands, evF f x = evF f' x) (q : QRun P T o f v) : QRun P T o f' v := by
  unfold QRun at q ⊢
  rw [← execOp_congr o hs h]
  exact q

theorem wl_of_qrun {d : Tmp} {op : Op} {ty : TypeId} {pos : String} {af : Array Edge} {gd : Option (Nat × Bool)} {v : Value} {f : Fr} (q : QRun P T ⟨some d, op, ty, pos, af, gd⟩ f v) (hd : d < n) (hw : T w) {a : Act} (ha : Is n dm a f) :
    ∀ (K' : Act → World → Prop) (R : Exit → Act → World → Prop), (∀ w', T w' → K' (a.put (some d) v) w') → (⟨some d, op, ty, pos, af, gd⟩ : Oper).wpIn (fen rd) 0 P a w K' R := by
  intro K' R hK
  have h := q w hw
  generalize hr : (execOp (evF f) (⟨some d, op, ty, pos, af, gd⟩ : Oper)).run P w = r at h
  cases r with
  | halt x w' => exact h.elim
  | ok nx w' =>
    cases nx with
    | value v' => obtain ⟨rfl, hT⟩ := h; exact op_wp ha hr (by simp) (hK _ hT)
    | enter g args =>
      refine op_wp ha hr (by simp) (show _ ∧ _ from ⟨fun h => (by cases h), ?_⟩)
      refine CallsIn.mono (show CallsIn (fen rd) _ P g args w' _ from callsIn_wide.2 h) fun e w'' ⟨he, hT⟩ => ?_
      subst he; exact hK _ hT
    | _ => exact h.elim

/-- A REGION THAT DRAWS ITS ORDER, quiet but for its tail -/
theorem wc_quiet {id : Nat} {l : List Oper} (m : Nat) (T : World → Prop) (hm : P.follows .mixedOrders = true) (hB : drawB l.toArray m = true) (hN : needsB l.toArray m n = true) (hT : T { w with drawn := w.drawn + 1 })
    (h : wq P l.toArray T (l.take m) (fun f' => ∀ w, T w → wl P rd n dm l.toArray (l.drop m) Q f' w) f) : wc P rd n dm (.region id l.toArray true) Q f w := by
  obtain ⟨F, hF0, hFK, hF⟩ := wq_vals _ _ h
  have hB' := hB
  simp only [drawB, Bool.and_eq_true, decide_eq_true_eq, List.all_eq_true] at hB
  obtain ⟨⟨⟨⟨hsome, hnd⟩, hback⟩, htail⟩, hml⟩ := hB
  simp only [List.size_toArray] at hml
  have hlen : (l.take m).length = m := by simp; omega
  -- the values
  have hval : ∀ (i : Nat) (o : Oper), (l.take m)[i]? = some o → ∃ v, QOp P l.toArray T o (F i) v ∧ F (i + 1) = upd (F i) (o.dst.getD 0) v := hF
  let V : Veil := fun i v _ => ∀ o, (l.take m)[i]? = some o → v = F (i + 1) (o.dst.getD 0)
  -- slots of later operations keep what earlier ones have made
  have hdist : ∀ (i j : Nat) (oi oj : Oper) (d : Nat), (l.take m)[i]? = some oi → (l.take m)[j]? = some oj → oi.dst = some d → oj.dst = some d → i = j := by
    have hgen : ∀ (L : List Oper), (L.filterMap (·.dst)).Nodup → ∀ (i j : Nat) (oi oj : Oper) (d : Nat), L[i]? = some oi → L[j]? = some oj → oi.dst = some d → oj.dst = some d → i = j := by
      intro L
      induction L with
      | nil => intro _ i j oi oj d h; simp at h
      | cons o L ih =>
        intro hn i j oi oj d hi hj hdi hdj
        have hn' : (L.filterMap (·.dst)).Nodup := by
          rw [List.filterMap_cons] at hn
          split at hn
          · exact hn
          · exact (List.nodup_cons.1 hn).2
        have hno : ∀ (k : Nat) (ok : Oper) (dd : Nat), L[k]? = some ok → o.dst = some dd → ok.dst ≠ some dd := by
          intro k ok dd hk hod hkd
          rw [List.filterMap_cons, hod] at hn
          exact (List.nodup_cons.1 hn).1 (List.mem_filterMap.2 ⟨ok, List.mem_of_getElem? hk, hkd⟩)
        cases i with
        | zero =>
          cases j with
          | zero => rfl
          | succ j => simp at hi; subst hi; exact absurd hdj (hno j oj d (by simpa using hj) hdi)
        | succ i =>
          cases j with
          | zero => simp at hj; subst hj; exact absurd hdi (hno i oi d (by simpa using hi) hdj)
          | succ j => rw [ih hn' i j oi oj d (by simpa using hi) (by simpa using hj) hdi hdj]
    exact hgen _ hnd
  have hdst : ∀ (i : Nat) (o : Oper), (l.take m)[i]? = some o → ∃ d, o.dst = some d := by
    intro i o hi
    have := hsome o (List.mem_of_getElem? hi)
    cases hd : o.dst with
    | none => rw [hd] at this; simp at this
    | some d => exact ⟨d, rfl⟩
  -- F k at a slot: what the one operation behind has made, or f's
  have hkeep : ∀ (k i : Nat) (o : Oper) (d : Nat), (l.take m)[i]? = some o → o.dst = some d → i < k → k ≤ m → F k d = F (i + 1) d := by
    intro k
    induction k with
    | zero => intro i o d _ _ h; omega
    | succ k ih =>
      intro i o d hi hd hik hkm
      by_cases hik' : i = k
      · subst hik'; rfl
      · have hkl : k < (l.take m).length := by omega
        obtain ⟨v, _, hFk⟩ := hval k _ (List.getElem?_eq_getElem hkl)
        obtain ⟨dk, hdk⟩ := hdst k _ (List.getElem?_eq_getElem hkl)
        rw [hFk, hdk]
        simp only [Option.getD_some]
        rw [upd_other _ _ _ _ (by
          intro e
          exact hik' (hdist i k o _ d hi (List.getElem?_eq_getElem hkl) hd (by rw [hdk, e])))]
        exact ih i o d hi hd (by omega) (by omega)
  have hout : ∀ (k d : Nat), k ≤ m → d ∉ (l.take m).filterMap (·.dst) → F k d = f d := by
    intro k
    induction k with
    | zero => intro d _ _; rw [hF0]
    | succ k ih =>
      intro d hkm hd
      have hkl : k < (l.take m).length := by omega
      obtain ⟨v, _, hFk⟩ := hval k _ (List.getElem?_eq_getElem hkl)
      obtain ⟨dk, hdk⟩ := hdst k _ (List.getElem?_eq_getElem hkl)
      rw [hFk, hdk]
      simp only [Option.getD_some]
      rw [upd_other _ _ _ _ (by
        intro e; subst e
        exact hd (List.mem_filterMap.2 ⟨_, List.getElem_mem hkl, hdk⟩))]
      exact ih d (by omega) hd
  refine wc_draw m ⟨fun _ => T, fun _ _ _ => True, V⟩ hm hB' (fun L i v w w' _ _ h => h) hT ?_ ?_
  · -- each operation
    have howe : ∀ (L : List Oper) (k : Nat), (∀ j o, L[j]? = some o → (l.take m)[k + j]? = some o) → Owes P rd n dm l.toArray ((l.take m).filterMap (·.dst)) ⟨fun _ => T, fun _ _ _ => True, V⟩ f L k := by
      intro L
      induction L with
      | nil => intro k _; trivial
      | cons o L ih =>
        intro k hL
        refine ⟨?_, ih (k + 1) (fun j o' hj => by
          have := hL (j + 1) o' (by simpa using hj)
          rwa [show k + (j + 1) = k + 1 + j by omega] at this)⟩
        have hk : (l.take m)[k]? = some o := hL 0 o rfl
        have hkm : k < m := by have := (List.getElem?_eq_some_iff.1 hk).1; omega
        obtain ⟨v, hq, hFk⟩ := hval k o hk
        obtain ⟨d, hd⟩ := hdst k o hk
        intro L g w hLi hTw
        refine (show ∀ (p : Prop), ((∀ j ∈ needs o, V j (g (dstAt l.toArray j)) w) → p) → givens l.toArray ⟨fun _ => T, fun _ _ _ => True, V⟩ g w (needs o) p from ?_) _ ?_
        · intro p
          generalize needs o = nl
          induction nl with
          | nil => intro hp; exact hp (by simp)
          | cons j nl ihn =>
            intro hp hj
            exact ihn (fun h' => hp (fun j' hj' => by
              rcases List.mem_cons.1 hj' with rfl | hj'
              · exact hj
              · exact h' j' hj'))
        intro hneed
        simp only [needsB, List.all_eq_true, Bool.and_eq_true] at hN
        have hNo := hN o (List.mem_of_getElem? hk)
        obtain ⟨⟨⟨hops, hgd⟩, hsel⟩, hdn⟩ := hNo
        rw [hd] at hdn
        simp only [decide_eq_true_eq] at hdn
        have hsel' : ∀ cs b, o.op ≠ .select cs b := by
          intro cs b e
          rw [e] at hsel
          cases hsel
        -- a needed slot holds what the run has made
        have hslot : ∀ (j : Nat) (oj : Oper) (t : Nat), j ∈ needs o → l.toArray[j]? = some oj → oj.dst = some t → mask ((l.take m).filterMap (·.dst)) g f t = F k t := by
          intro j oj t hj hoj hdj
          have hjk : j < k := by
            unfold needs at hj
            obtain ⟨e, he, rfl⟩ := List.mem_map.1 hj
            obtain ⟨he1, he2⟩ := List.mem_filter.1 he
            have hbd : Region.binds .any e = true := by
              unfold Region.binds
              cases hg : e.ground <;> rw [hg] at he2 <;> simp at he2 ⊢
            have hlk : l[k]? = some o := by rw [List.getElem?_take] at hk; simpa [hkm] using hk
            have := hback (o, k) (by rw [List.mem_zipIdx_iff_getElem?]; simpa using hlk) e (by simpa using he1)
            simp only [hbd, Bool.not_true, Bool.false_or, decide_eq_true_eq] at this
            exact this
          have hjm : (l.take m)[j]? = some oj := by
            rw [List.getElem?_take, if_pos (by omega)]
            simpa using hoj
          have ht : t ∈ (l.take m).filterMap (·.dst) := List.mem_filterMap.2 ⟨oj, List.mem_of_getElem? hjm, hdj⟩
          rw [mask_in ht, hkeep k j oj t hjm hdj hjk (by omega)]
          have := hneed j hj oj hjm
          have hda : dstAt l.toArray j = t := by simp [dstAt, hoj, hdj]
          rw [hda, hdj] at this
          exact this
        have hoper : ∀ x ∈ o.op.operands, evF (F k) x = evF (mask ((l.take m).filterMap (·.dst)) g f) x := by
          intro x hx
          cases x with
          | tmp t =>
            have := hops (.tmp t) (by simpa using hx)
            simp only [Bool.or_eq_true] at this
            show F k t = mask _ g f t
            by_cases ht : t ∈ (l.take m).filterMap (·.dst)
            · rcases this with h1 | h1
              · simp at h1
                obtain ⟨x, hx1, hx2⟩ := List.mem_filterMap.1 ht
                exact absurd hx2 (h1 x hx1)
              · obtain ⟨j, hj, hjt⟩ := List.any_eq_true.1 h1
                cases hoj : l.toArray[j]? with
                | none => rw [hoj] at hjt; simp at hjt
                | some oj =>
                  rw [hoj] at hjt
                  exact (hslot j oj t hj hoj (by simpa using hjt)).symm
            · rw [mask_out ht]; exact hout k t (by omega) ht
          | _ => rfl
        -- run it
        have hVnew : V k v w → True := fun _ => trivial
        have hvk : v = F (k + 1) (o.dst.getD 0) := by rw [hFk, upd_same]
        have hfin : ∀ w', T w' → obPost dm ⟨fun _ => T, fun _ _ _ => True, V⟩ L k (o.dst.getD 0) (mask ((l.take m).filterMap (·.dst)) g f) w dm .normal (upd (mask ((l.take m).filterMap (·.dst)) g f) (o.dst.getD 0) v) w' := by
          intro w' hT'
          refine ob (D := ⟨fun _ => T, fun _ _ _ => True, V⟩) hT' trivial ?_
          intro o' ho'
          rw [hk] at ho'
          cases ho'
          exact hvk
        obtain ⟨od, oop, oty, opos, oaf, ogd⟩ := o
        simp only at hd
        subst hd
        simp only [Option.getD_some] at hfin
        intro a ha
        cases ogd with
        | none =>
          have q := qrun_congr hsel' hoper (show QRun P T _ (F k) v from hq)
          refine wpListIn_plain rfl fun K' hK => ?_
          refine wl_of_qrun q hdn hTw ha _ _ fun w' hT' => hK _ _ ?_
          exact ⟨_, _, ha.put hdn v, hfin w' hT'⟩
        | some gp =>
          obtain ⟨j, pol⟩ := gp
          obtain ⟨c, t, ht, hjs, hqy, hqn⟩ := hq
          simp only [Bool.and_eq_true] at hgd
          obtain ⟨hjn, hjd⟩ := hgd
          cases hoj : l.toArray[j]? with
          | none => rw [hoj] at hjs; simp at hjs
          | some oj =>
            rw [hoj] at hjd
            simp only [Option.bind_some, Option.any_eq_true] at hjd
            obtain ⟨dj, hdj, hdjn⟩ := hjd
            have hsl := hslot j oj dj (by simpa using hjn) hoj hdj
            have hda : dstAt l.toArray j = dj := by simp [dstAt, hoj, hdj]
            rw [hda, ← hsl] at ht
            refine wpListIn_step fun K' hK => ?_
            rw [wanted_gv ha rfl hoj hdj ht (by simpa using hdjn)]
            cases hc : (c && (t == pol)) with
            | true =>
              rw [if_pos rfl]
              have q := qrun_congr hsel' hoper (hqy hc)
              refine wl_of_qrun q hdn hTw ha _ _ fun w' hT' => hK _ _ ?_
              exact ⟨_, _, ha.put hdn v, hfin w' hT'⟩
            | false =>
              rw [if_neg (by simp)]
              have hv : v = undef := hqn hc
              have := hfin w hTw
              rw [hv] at this
              exact ⟨fun _ _ => trivial, hK _ _ ⟨_, _, ha.put hdn undef, this⟩⟩
    exact howe _ 0 (fun j o hj => by rw [Nat.zero_add]; exact hj)
  · -- the tail
    intro L g w _ hTw
    have hall : ∀ (L : List Oper) (k : Nat) (p : Prop), ((∀ j o, L[j]? = some o → V (k + j) (g (o.dst.getD 0)) w) → p) → allV ⟨fun _ => T, fun _ _ _ => True, V⟩ g w L k p := by
      intro L
      induction L with
      | nil => intro k p hp; exact hp (by intro j o h; simp at h)
      | cons o L ih =>
        intro k p hp hv
        refine ih (k + 1) p fun h' => hp fun j o' hj => ?_
        cases j with
        | zero => simp at hj; subst hj; exact hv
        | succ j =>
          have := h' j o' (by simpa using hj)
          rwa [show k + 1 + j = k + (j + 1) by omega] at this
    refine hall _ 0 _ fun hv => ?_
    have heq : mask ((l.take m).filterMap (·.dst)) g f = F (l.take m).length := by
      funext k
      by_cases hk : k ∈ (l.take m).filterMap (·.dst)
      · rw [mask_in hk]
        obtain ⟨o, ho, hd⟩ := List.mem_filterMap.1 hk
        obtain ⟨i, hi⟩ := List.getElem?_of_mem ho
        have := hv i o hi
        rw [Nat.zero_add, hd] at this
        have := this o hi
        rw [hd] at this
        simp only [Option.getD_some] at this
        rw [this]
        exact (hkeep _ i o k hi hd (List.getElem?_eq_some_iff.1 hi).1 (by omega)).symm
      · rw [mask_out hk]; exact (hout _ k (by omega) hk).symm
    rw [heq]
    exact hFK w hTw
end
end Gw
end Go.Proofs.YtjjkhjieegmphaaDoor
