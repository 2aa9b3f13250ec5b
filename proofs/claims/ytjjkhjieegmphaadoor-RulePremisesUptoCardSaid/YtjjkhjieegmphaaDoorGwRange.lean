/- Loops over a function: what an iterator gives, what a round keeps; one rule for each side. -/
import Derived.Test.YtjjkhjieegmphaaDoorGwQuiet
import Derived.RangeFuncRecord
namespace Go.Proofs.YtjjkhjieegmphaaDoor
open Go.RowKit
namespace Gw
set_option linter.unusedVariables false

/-- block b is the object o -/
def Ob (w : World) (b : Nat) (o : Obj) : Prop := w.heap[b]? = some o
theorem Ob.lt {w : World} {b : Nat} {o : Obj} (h : Ob w b o) : b < w.heap.size := (Array.getElem?_eq_some_iff.1 h).1
theorem Ob.chg {S : Nat → Prop} {w w' : World} {b : Nat} {o : Obj} (h : Ob w b o) (hc : Chg S w w') (hs : ¬ S b) : Ob w' b o := (hc.block b h.lt hs).trans h
theorem Ob.ext {w w' : World} {b : Nat} {o : Obj} (h : Ob w b o) (hc : Ext w w') : Ob w' b o := h.chg hc (fun x => x)
theorem Ob.put {w : World} {b : Nat} {o : Obj} (h : Ob w b o) (o' : Obj) : Ob (w.putObj b o') b o' := World.putObj_heap_same h.lt
theorem Ob.put_other {w : World} {b c : Nat} {o : Obj} (h : Ob w b o) (hne : b ≠ c) (o' : Obj) : Ob (w.putObj c o') b o := (World.putObj_heap_other hne).trans h
theorem Ob.thaw {w : World} {b : Nat} {o : Obj} (h : Ob w b o) (ho : thawed (some o) := by exact fun _ _ _ h => by cases h) : thawed w.heap[b]? := by rw [show w.heap[b]? = some o from h]; exact ho
theorem Chg.put (w : World) (b : Nat) (o : Obj) (h2 : thawed w.heap[b]?) (hb : b < w.heap.size) (h1 : thawed (some o) := by exact fun _ _ _ h => by cases h) : Chg (· = b) w (w.putObj b o) := ⟨rfl, rfl, rfl, by simp, fun k _ hk => World.putObj_heap_other hk, froz_at b (by rw [World.putObj_heap_same hb]; exact h1) h2 fun k hk => World.putObj_heap_other hk⟩
theorem Ob.alloc_new (w : World) (o : Obj) : Ob (w.alloc o) w.heap.size o := World.alloc_heap_new w o
theorem Ext.alloc (w : World) (o : Obj) (h : thawed (some o) := by exact fun _ _ _ h => by cases h) : Ext w (w.alloc o) := ⟨rfl, rfl, rfl, by simp, fun k hk _ => heap_alloc_old (h := hk) .., froz_alloc w o h⟩

/-- a call of the loop l's yield -/
def Yields (P : Program) (l : Nat) (xs : List Value) (w : World) (R : Bool → World → Prop) : Prop :=
  ∃ (fn : FuncId) (tmps : Array Value) (assign body : Code), (Instr.yield l xs.toArray).run P w = .ok (.round l fn tmps assign body) w ∧ RoundIn (fen none) 0 P l fn tmps assign body w fun e w' => ∃ b, e = .returned (.bool b) ∧ R b w'

/-- what an iterator gives: it calls yield for each of xs in turn, till one says no; Inv: what it reads -/
def Gives (P : Program) (g : FuncId) (argsOf : Value → List Value) (Inv : World → Prop) (xs : List (List Value)) : Prop :=
  ∀ (l : Nat) (J : Nat → World → Prop) (Jx : World → Prop) (W : World), (∀ i W, J i W → Inv W) → (∀ i W W', J i W → Ext W W' → J i W') → (∀ W W', Jx W → Ext W W' → Jx W') →
    (∀ i x W, J i W → xs[i]? = some x → Yields P l x W fun b W' => (b = true ∧ J (i + 1) W') ∨ (b = false ∧ Jx W')) → J 0 W →
    Calls P g (argsOf (.func (.yield l) #[] #[])).toArray W fun e W' => ∃ v, e = .returned v ∧ (J xs.length W' ∨ Jx W')

section
variable {P : Program} {rd : Option Nat} {n : Nat} {dm : List Nat} {ops : Array Oper} {Q : Post} {f : Fr} {w : World} {rest : List Oper} {ty : TypeId} {pos : String} {af : Array Edge}

/-- the call of yield in an iterator -/
theorem wl_yield {d : Tmp} {c : Operand} {xs : Array Operand} {ats : Array TypeId} {l : Nat} {vs : List Value} {R : Bool → World → Prop} (hc : evF f c = .func (.yield l) #[] #[]) (hx : xs.toList.map (evF f) = vs) (hd : d < n) (hy : Yields P l vs w R)
    (h : ∀ b w', R b w' → wl P rd n dm ops rest Q (upd f d (.bool b)) w') : wl P rd n dm ops (⟨some d, .call ⟨.value c, xs, ats⟩, ty, pos, af, none⟩ :: rest) Q f w := fun a ha => by
  obtain ⟨fn, tmps, assign, body, hyr, hR⟩ := hy
  refine wpListIn_plain rfl fun K hK => ?_
  have h1 : execOp (evF f) ⟨some d, .call ⟨.value c, xs, ats⟩, ty, pos, af, none⟩ = (do let d ← Deferred.ofValue (evF f c) (xs.map (evF f)); invoke d.target d.args) := rfl
  have hxs : xs.map (evF f) = vs.toArray := by rw [← hx]; apply Array.toList_inj.1; simp
  have hr : (execOp (evF f) ⟨some d, .call ⟨.value c, xs, ats⟩, ty, pos, af, none⟩).run P w = .ok (.round l fn tmps assign body) w := by
    rw [h1, hc, hxs]
    simp only [Deferred.ofValue, Sem.run_bind, Sem.run_pure, Result.andThen_ok, invoke]
    simpa using hyr
  refine op_wp ha hr (by simp) (show _ ∧ _ from ⟨fun h => (by cases h), ?_⟩)
  refine RoundIn.mono (show RoundIn (fen rd) _ P l fn tmps assign body w _ from hR) ?_
  rintro e w' ⟨b, rfl, hb⟩
  exact hK _ _ (h b w' hb _ (ha.put hd _))

def puts (f : Fr) (l : List (Nat × Value)) : Fr := l.foldl (fun f q => upd f q.1 q.2) f
theorem puts_is : ∀ (l : List (Nat × Value)) (tmps : Array Value) (f : Fr), (∀ q ∈ l, q.1 < n) → Is n [] ⟨tmps, []⟩ f → Is n [] ⟨l.foldl (fun t q => t.setIfInBounds q.1 q.2) tmps, []⟩ (puts f l)
  | [], _, _, _, h => h
  | q :: l, tmps, f, hq, h => puts_is l _ _ (fun q' h' => hq q' (by simp [h'])) (h.put (hq q (by simp)) q.2)

/-- how a round may end -/
def roundQ (B : Nat) (o1 o2 : Obj) (I : World → Prop) (Ix : Code → World → Prop) : Post := fun _ e _ w => match e with
  | .normal => Ob w B o1 ∧ Ob w (B + 1) o2 ∧ I w
  | .ret => Ob w B o1 ∧ Ob w (B + 1) o2 ∧ Ix .ret w
  | .exit id => Ob w B o1 ∧ Ob w (B + 1) o2 ∧ Ix (.exit id) w
  | _ => False

theorem round_of_wc {B : Nat} {r : Loop} {fr : Fr} {w : World} {I : World → Prop} {Ix : Code → World → Prop} {tmps : Array Value} {o1 : Obj} (ha : Is n [] ⟨tmps, []⟩ fr) (hB : Ob w B o1) (hl : Ob w (B + 1) (.loop { r with state := .ready, pending := none }))
    (h : ∀ o2, Ob w (B + 1) o2 → wc P (some (B + 1)) n [] r.assign (thenP (fun dm' f1 w1 => dm' = [] ∧ Ob w1 B o1 ∧ Ob w1 (B + 1) o2 ∧ ∀ w2 o2', Chg (· = B + 1) w1 w2 → Ob w2 B o1 → Ob w2 (B + 1) o2' → wc P (some (B + 1)) n [] r.body (roundQ B o1 o2' I Ix) f1 w2) (fun _ _ _ _ => False)) fr w)
    (hI : ∀ W W', I W → Chg (· = B + 1) W W' → I W') (hIx : ∀ c W W', Ix c W → Chg (· = B + 1) W W' → Ix c W') :
    RoundIn (fen none) 0 P (B + 1) r.fn tmps r.assign r.body w fun e w' => ∃ b, e = .returned (.bool b) ∧ ((b = true ∧ I w' ∧ Ob w' B o1 ∧ Ob w' (B + 1) (.loop { r with state := .ready, pending := none })) ∨ (b = false ∧ ∃ c, (c = .ret ∨ ∃ id, c = .exit id) ∧ Ix c w' ∧ Ob w' B o1 ∧ Ob w' (B + 1) (.loop { r with state := .done, pending := some c }))) := by
  refine roundIn_of_wpIn trivial ?_
  refine wpIn_mono (h _ hl _ ha) ?_
  rintro e a1 w1 ⟨dm', f1, hf1, q⟩
  cases e with
  | normal =>
    obtain ⟨rfl, hB1, hl1, hb⟩ := q
    refine ⟨_, run_beginRound hl1 rfl, ?_⟩
    refine wpIn_mono (hb (w1.putObj (B + 1) (.loop { r with state := .busy, pending := none })) _ (Chg.put _ _ _ hl1.thaw hl1.lt) (hB1.put_other (by omega) _) (hl1.put _) _ hf1) ?_
    rintro e a2 w2 ⟨dm2, f2, hf2, q⟩
    cases e with
    | normal =>
      obtain ⟨qB, ql, qI⟩ := q
      exact ⟨_, _, run_endRound none ql, true, rfl, .inl ⟨rfl, hI _ _ qI (Chg.put _ _ _ ql.thaw ql.lt), qB.put_other (by omega) _, ql.put _⟩⟩
    | ret =>
      obtain ⟨qB, ql, qI⟩ := q
      exact ⟨_, _, run_endRound (some .ret) ql, false, rfl, .inr ⟨rfl, .ret, .inl rfl, hIx _ _ _ qI (Chg.put _ _ _ ql.thaw ql.lt), qB.put_other (by omega) _, ql.put _⟩⟩
    | exit id =>
      obtain ⟨qB, ql, qI⟩ := q
      exact ⟨_, _, run_endRound (some (.exit id)) ql, false, rfl, .inr ⟨rfl, .exit id, .inr ⟨id, rfl⟩, hIx _ _ _ qI (Chg.put _ _ _ ql.thaw ql.lt), qB.put_other (by omega) _, ql.put _⟩⟩
    | _ => exact q.elim
  | _ => exact q.elim

/-- THE LOOP: the iterator is a value 'g' of the frame's; I i: what holds when i rounds are over; Ix c: what holds when a round has left by the jump c -/
theorem wc_range {g : Operand} {ps : List Tmp} {assign body : Code} {k : FuncId} {fi ca : Array Value} {Inv : World → Prop} {xs : List (List Value)} (B : Nat) (hB : w.heap.size = B) (hg : evF f g = .func (.func k) fi ca) (hk : Callable P k) (hs : Gives P k (fun y => fi.toList ++ [y] ++ ca.toList) Inv xs)
    (hps : ∀ p ∈ ps, p < n) (hx : ∀ x ∈ xs, x.length = ps.length)
    (I : Nat → World → Prop) (Ix : Code → World → Prop) (hInv : ∀ i W, I i W → Inv W) (hI : ∀ i W W', I i W → Chg (· = B + 1) W W' → I i W') (hIx : ∀ c W W', Ix c W → Chg (· = B + 1) W W' → Ix c W')
    (h0 : ∀ w', Ext w w' → B + 1 < w'.heap.size → I 0 w')
    (hr : ∀ i x W o1 o2, xs[i]? = some x → I i W → Ob W B o1 → Ob W (B + 1) o2 → wc P (some (B + 1)) n [] assign (thenP (fun dm' f1 w1 => dm' = [] ∧ Ob w1 B o1 ∧ Ob w1 (B + 1) o2 ∧ ∀ w2 o2', Chg (· = B + 1) w1 w2 → Ob w2 B o1 → Ob w2 (B + 1) o2' → wc P (some (B + 1)) n [] body (roundQ B o1 o2' (I (i + 1)) Ix) f1 w2) (fun _ _ _ _ => False)) (puts f (ps.zip x)) W)
    (hdone : ∀ W, I xs.length W → Ob W B (.deferred (some [])) → Q (B :: dm) .normal f W)
    (hjump : ∀ c W, Ix c W → Ob W B (.deferred (some [])) → match c with | .ret => Q (B :: dm) .ret f W | .exit id => Q (B :: dm) (.exit id) f W | _ => True) :
    wc P none n dm (.rangeFunc g ps.toArray assign body) Q f w := by
  subst hB
  intro a ha
  refine wpIn_rangeFunc fun fn _ => ?_
  obtain ⟨fnk, hfk, hnk, hbk⟩ := hk
  let r : Loop := { state := .ready, pending := none, fn, tmps := a.tmps, params := ps.toArray, assign, body, defers := w.heap.size }
  have hres : ∀ w1 : World, (resolve a.eval (rangeCall g (w.heap.size + 1)) 0).run P w1 = .ok { target := .fn (.func k) ca, args := fi ++ #[.func (.yield (w.heap.size + 1)) #[] #[]] } w1 := by
    intro w1
    have h1 : resolve a.eval (rangeCall g (w.heap.size + 1)) 0 = Deferred.ofValue (a.eval g) (#[Operand.const (.func (.yield (w.heap.size + 1)) #[] #[])].map a.eval) := rfl
    have h2 : #[Operand.const (.func (.yield (w.heap.size + 1)) #[] #[])].map a.eval = #[.func (.yield (w.heap.size + 1)) #[] #[]] := by simp [Act.eval]
    rw [h1, h2, ha.eval, hg]
    rfl
  have hinv : ∀ w1 : World, (invoke (.fn (.func k) ca) (fi ++ #[.func (.yield (w.heap.size + 1)) #[] #[]])).run P w1 = .ok (.enter k (fi.toList ++ [Value.func (.yield (w.heap.size + 1)) #[] #[]] ++ ca.toList).toArray) w1 := by
    intro w1
    have hx : (fi.toList ++ [Value.func (.yield (w.heap.size + 1)) #[] #[]] ++ ca.toList).toArray = fi ++ #[.func (.yield (w.heap.size + 1)) #[] #[]] ++ ca := by
      apply Array.toList_inj.1; simp
    rw [hx]
    simp only [invoke, callFunc, Sem.run_bind, run_program, Result.andThen_ok, hfk, hnk, hbk]
    simp
  refine ⟨w.heap.size + 1, [mark w.heap.size], (w.alloc (.deferred (some []))).alloc (.loop r), _, _, k, _, _, run_enterLoop_outer fn a.tmps ps.toArray assign body, hres _, fun _ _ => trivial, hinv _, fun h => (by cases h), ?_⟩
  have hl0 : Ob ((w.alloc (.deferred (some []))).alloc (.loop r)) (w.heap.size + 1) (.loop r) := by
    have := Ob.alloc_new (w.alloc (.deferred (some []))) (.loop r)
    simpa using this
  have hd0 : Ob ((w.alloc (.deferred (some []))).alloc (.loop r)) w.heap.size (.deferred (some [])) := (Ob.alloc_new w _).ext (Ext.alloc _ _)
  have he0 : Ext w ((w.alloc (.deferred (some []))).alloc (.loop r)) := (Ext.alloc w _).trans (Ext.alloc _ _)
  have hcall := hs (w.heap.size + 1) (fun i W => I i W ∧ Ob W w.heap.size (.deferred (some [])) ∧ Ob W (w.heap.size + 1) (.loop { r with state := .ready, pending := none }))
    (fun W => ∃ c, (c = .ret ∨ ∃ id, c = .exit id) ∧ Ix c W ∧ Ob W w.heap.size (.deferred (some [])) ∧ Ob W (w.heap.size + 1) (.loop { r with state := .done, pending := some c }))
    ((w.alloc (.deferred (some []))).alloc (.loop r)) (fun i W h => hInv i W h.1) (fun i W W' h e => ⟨hI i W W' h.1 (e.mono (fun _ _ x => x.elim)), h.2.1.ext e, h.2.2.ext e⟩)
    (fun W W' ⟨c, hc, h, h1, h2⟩ e => ⟨c, hc, hIx c W W' h (e.mono (fun _ _ x => x.elim)), h1.ext e, h2.ext e⟩) ?_ ⟨h0 _ he0 (by simp), hd0, hl0⟩
  · refine (CallsIn.mono (show CallsIn (fen none) _ P k _ _ _ from callsIn_wide.2 hcall) ?_)
    rintro e W' ⟨v, rfl, ⟨hi, hb, hl⟩ | ⟨c, hc, hi, hb, hl⟩⟩
    · refine ⟨none, _, run_endLoop hl (by simp), ?_⟩
      exact ⟨w.heap.size :: dm, f, ⟨by simp [ha.defers], ha.size, ha.get⟩, hdone _ (hI _ _ _ hi (Chg.put _ _ _ hl.thaw hl.lt)) (hb.put_other (by omega) _)⟩
    · refine ⟨some c, _, run_endLoop hl (by simp), ?_⟩
      have hj := hjump c _ (hIx _ _ _ hi (Chg.put W' (w.heap.size + 1) (.loop { r with state := .exhausted, pending := some c }) hl.thaw hl.lt)) (hb.put_other (by omega) _)
      have hia : Is n (w.heap.size :: dm) { tmps := a.tmps, defers := mark w.heap.size :: a.defers } f := ⟨by simp [ha.defers], ha.size, ha.get⟩
      rcases hc with rfl | ⟨id, rfl⟩
      · exact wpIn_ret ⟨_, f, hia, hj⟩
      · exact wpIn_exit ⟨_, f, hia, hj⟩
  · rintro i x W ⟨hi, hb, hl⟩ hxi
    have hlen := hx x (List.mem_of_getElem? hxi)
    refine ⟨fn, _, assign, body, run_yield hl (by simp [r]; exact hlen), ?_⟩
    have hzip : ((ps.toArray.zip x.toArray).foldl (fun tmps (q : Nat × Value) => tmps.setIfInBounds q.1 q.2) a.tmps) = (ps.zip x).foldl (fun t q => t.setIfInBounds q.1 q.2) a.tmps := by simp
    have hia : Is n [] ⟨(ps.zip x).foldl (fun t q => t.setIfInBounds q.1 q.2) a.tmps, []⟩ (puts f (ps.zip x)) := puts_is _ _ _ (fun q hq => hps q.1 (List.of_mem_zip hq).1) ⟨rfl, ha.size, ha.get⟩
    refine RoundIn.mono (R := fun e w' => ∃ b, e = .returned (.bool b) ∧ ((b = true ∧ I (i + 1) w' ∧ Ob w' w.heap.size (.deferred (some [])) ∧ Ob w' (w.heap.size + 1) (.loop { r with state := .ready, pending := none })) ∨ (b = false ∧ ∃ c, (c = .ret ∨ ∃ id, c = .exit id) ∧ Ix c w' ∧ Ob w' w.heap.size (.deferred (some [])) ∧ Ob w' (w.heap.size + 1) (.loop { r with state := .done, pending := some c })))) ?_ ?_
    · have := round_of_wc (P := P) (n := n) (B := w.heap.size) (r := r) (fr := puts f (ps.zip x)) (w := W) (I := I (i + 1)) (Ix := Ix) (tmps := (ps.zip x).foldl (fun t q => t.setIfInBounds q.1 q.2) a.tmps) hia hb hl (fun o2 ho2 => hr i x W _ o2 hxi hi hb ho2) (hI _) hIx
      rw [← hzip] at this
      exact this
    · rintro e w' ⟨b, rfl, h⟩
      exact ⟨b, rfl, h⟩

/-- at a return behind one loop over a function -/
theorem end1 {rs : Array ResultVar} {R : Value → World → Prop} {B : Nat} {e : Exit} (he : e = .ret ∨ e = .normal) (hO : Ob w B (.deferred (some []))) (h : ∀ w', Chg (· = B) w w' → ∃ v, Rets P rs f w' v ∧ R v w') : endPost P rs R [B] e f w := by
  have : ∃ w', Taken P [B] w w' ∧ ∃ v, Rets P rs f w' v ∧ R v w' := ⟨_, ⟨_, run_takeDeferred hO, rfl⟩, h _ (Chg.put _ _ _ hO.thaw hO.lt)⟩
  rcases he with rfl | rfl <;> exact this
end
end Gw
end Go.Proofs.YtjjkhjieegmphaaDoor
