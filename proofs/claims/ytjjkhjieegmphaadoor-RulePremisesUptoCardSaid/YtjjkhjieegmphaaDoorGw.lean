/- A small layer over the walk: code is run over frames that are functions (a slot's value by its number), a rule for each kind of operation, a rule for regions that draw their order. Nothing here knows the program. -/
import Derived.WalkKit
import Derived.WalkSpells
import Derived.Laws.Rows
import Derived.Sort.LoopGhostIn
import Derived.RangeFuncLeaves
import Derived.OrdersIn
import Derived.TacticsIn
namespace Go.Proofs.YtjjkhjieegmphaaDoor
open Go.RowKit

namespace Gw

abbrev Fr := Nat → Value
def upd (f : Fr) (d : Nat) (v : Value) : Fr := fun i => bif Nat.beq i d then v else f i
def evF (f : Fr) : Operand → Value
  | .tmp t => f t
  | .const v => v
  | .global g => .pointer (some ⟨g, 0, none⟩)
  | .func k => .func (.func k) #[] #[]
def fr0 (args : List Value) : Fr := fun i => args.getD i undef

/-- f, but for the slots ds, where it is g -/
def mask (ds : List Nat) (g f : Fr) : Fr := fun k => bif ds.elem k then g k else f k
theorem mask_in {ds : List Nat} {g f : Fr} {k : Nat} (h : k ∈ ds) : mask ds g f k = g k := by simp [mask, h]
theorem mask_out {ds : List Nat} {g f : Fr} {k : Nat} (h : k ∉ ds) : mask ds g f k = f k := by simp [mask, h]
/-- two frames differ in the slots ds alone -/
def Dif (ds : List Nat) (f f' : Fr) : Prop := ∃ g, f' = mask ds g f
theorem Dif.refl (ds : List Nat) (f : Fr) : Dif ds f f := ⟨f, by funext k; unfold mask; cases ds.elem k <;> rfl⟩

/-- the mark that a loop over a function leaves among the calls put off: its block D -/
def mark (D : Nat) : Deferred := { target := .collected D, args := #[] }
/-- the frame 'a' of n slots reads as f; dm: its marks -/
structure Is (n : Nat) (dm : List Nat) (a : Act) (f : Fr) : Prop where
  defers : a.defers = dm.map mark
  size : a.tmps.size = n
  get : ∀ i, a.tmps.getD i undef = f i

theorem Is.eval {n : Nat} {dm : List Nat} {a : Act} {f : Fr} (h : Is n dm a f) : a.eval = evF f := by
  funext x
  cases x <;> simp [Act.eval, evF, ← h.get]

theorem upd_same (f : Fr) (d : Nat) (v : Value) : upd f d v d = v := by simp [upd]
theorem upd_other (f : Fr) (d i : Nat) (v : Value) (h : i ≠ d) : upd f d v i = f i := by
  have : Nat.beq i d = false := by
    cases hb : Nat.beq i d with
    | false => rfl
    | true => exact absurd (Nat.eq_of_beq_eq_true hb) h
  simp [upd, this]

theorem Is.put {n : Nat} {dm : List Nat} {a : Act} {f : Fr} (h : Is n dm a f) {d : Nat} (hd : d < n) (v : Value) : Is n dm (a.put (some d) v) (upd f d v) where
  defers := h.defers
  size := by simp [Act.put, h.size]
  get := fun i => by
    by_cases hi : i = d
    · subst hi
      rw [upd_same]
      simp only [Act.put, Array.getD_eq_getD_getElem?]
      rw [Array.getElem?_setIfInBounds_self_of_lt (by rw [h.size]; exact hd)]
      rfl
    · rw [upd_other _ _ _ _ hi, ← h.get i]
      simp only [Act.put, Array.getD_eq_getD_getElem?]
      rw [Array.getElem?_setIfInBounds_ne (fun e => hi e.symm)]

theorem Is.put_none {n : Nat} {dm : List Nat} {a : Act} {f : Fr} (h : Is n dm a f) (v : Value) : Is n dm (a.put none v) f := h

theorem Dif.self (ds : List Nat) (g f : Fr) : Dif ds f (mask ds g f) := ⟨g, rfl⟩
theorem Dif.upd {ds : List Nat} {f f' : Fr} (h : Dif ds f f') {d : Nat} (hd : ds.elem d = true) (v : Value) : Dif ds f (upd f' d v) := by
  obtain ⟨g, rfl⟩ := h
  refine ⟨Gw.upd g d v, ?_⟩
  have hd' : d ∈ ds := by simpa using hd
  funext k
  by_cases hk : k = d
  · subst hk; rw [upd_same, mask_in hd', upd_same]
  · rw [upd_other _ _ _ _ hk]
    by_cases hkd : k ∈ ds
    · rw [mask_in hkd, mask_in hkd, upd_other _ _ _ _ hk]
    · rw [mask_out hkd, mask_out hkd]
theorem Dif.mask {ds ds' : List Nat} {f f' : Fr} (h : Dif ds f f') (hs : ds'.all (fun d => ds.elem d) = true) (g : Fr) : Dif ds f (mask ds' g f') := by
  obtain ⟨g0, rfl⟩ := h
  refine ⟨Gw.mask ds' g g0, ?_⟩
  have hs' : ∀ d ∈ ds', d ∈ ds := fun d hd => by simpa using List.all_eq_true.1 hs d hd
  funext k
  by_cases hk : k ∈ ds'
  · rw [mask_in hk, mask_in (hs' k hk), mask_in hk]
  · rw [mask_out hk]
    by_cases hkd : k ∈ ds
    · rw [mask_in hkd, mask_in hkd, mask_out hk]
    · rw [mask_out hkd, mask_out hkd]

abbrev Post := List Nat → Exit → Fr → World → Prop
def lift (n : Nat) (Q : Post) : Exit → Act → World → Prop := fun e a w => ∃ dm f, Is n dm a f ∧ Q dm e f w
/-- no fence; rd: the loop over a function in a round of which the code is run -/
@[reducible] def fen (rd : Option Nat) : Fence := { Fence.wide with round := rd }
/-- code c, run from the frame f, ends in Q -/
def wc (P : Program) (rd : Option Nat) (n : Nat) (dm : List Nat) (c : Code) (Q : Post) (f : Fr) (w : World) : Prop := ∀ a, Is n dm a f → c.wpIn (fen rd) 0 P (lift n Q) a w
/-- a list of operations of a region -/
def wl (P : Program) (rd : Option Nat) (n : Nat) (dm : List Nat) (ops : Array Oper) (l : List Oper) (Q : Post) (f : Fr) (w : World) : Prop := ∀ a, Is n dm a f → wpListIn (fen rd) 0 P ops (lift n Q) l a w
def thenP (next : List Nat → Fr → World → Prop) (Q : Post) : Post := fun dm e f w => match e with | .normal => next dm f w | e => Q dm e f w

section rules
variable {P : Program} {rd : Option Nat} {n : Nat} {dm : List Nat} {ops : Array Oper} {Q : Post} {f : Fr} {w : World} {rest : List Oper}

theorem wc_mono {c : Code} {Q' : Post} (h : wc P rd n dm c Q f w) (hq : ∀ dm e f w, Q dm e f w → Q' dm e f w) : wc P rd n dm c Q' f w :=
  fun a ha => wpIn_mono (h a ha) fun _ _ _ ⟨dm, f, hf, q⟩ => ⟨dm, f, hf, hq _ _ _ _ q⟩
theorem wc_skip (h : Q dm .normal f w) : wc P rd n dm .skip Q f w := fun _ ha => wpIn_skip ⟨dm, f, ha, h⟩
theorem wc_ret (h : Q dm .ret f w) : wc P rd n dm .ret Q f w := fun _ ha => wpIn_ret ⟨dm, f, ha, h⟩
theorem wc_exit {id : Nat} (h : Q dm (.exit id) f w) : wc P rd n dm (.exit id) Q f w := fun _ ha => wpIn_exit ⟨dm, f, ha, h⟩
theorem wc_seq {x y : Code} (h : wc P rd n dm x (thenP (fun dm f w => wc P rd n dm y Q f w) Q) f w) : wc P rd n dm (.seq x y) Q f w := fun a ha =>
  wpIn_seq (wpIn_mono (h a ha) fun e a' w' ⟨dm', f', hf', q⟩ => by
    cases e with
    | normal => exact q a' hf'
    | _ => exact ⟨dm', f', hf', q⟩)
/-- what is behind is walked once: only the frames and worlds that are told by I come there -/
theorem wc_cut {x y : Code} (I : Fr → World → Prop) (h : wc P rd n dm x (thenP (fun dm' f w => dm' = dm ∧ I f w) Q) f w) (hy : ∀ f w, I f w → wc P rd n dm y Q f w) : wc P rd n dm (.seq x y) Q f w :=
  wc_seq (wc_mono h fun dm e f w q => by
    cases e with
    | normal => obtain ⟨rfl, q⟩ := q; exact hy _ _ q
    | _ => exact q)
theorem wc_block {id : Nat} {c : Code} (h : wc P rd n dm c (fun dm e f w => match e with | .exit id' => if id' = id then Q dm .normal f w else Q dm (.exit id') f w | e => Q dm e f w) f w) : wc P rd n dm (.block id c) Q f w := fun a ha =>
  wpIn_block (wpIn_mono (h a ha) fun e a' w' ⟨dm', f', hf', q⟩ => by
    cases e with
    | exit id' =>
      by_cases hid : id' = id
      · simp only [Exit.inBlock, hid, if_true] at q ⊢
        exact ⟨dm', f', hf', q⟩
      · simp only [Exit.inBlock, hid, if_false] at q ⊢
        exact ⟨dm', f', hf', q⟩
    | _ => exact ⟨dm', f', hf', q⟩)
theorem wc_if {c : Operand} {x y : Code} {t : Bool} (hc : evF f c = .bool t) (h1 : t = true → wc P rd n dm x Q f w) (h2 : t = false → wc P rd n dm y Q f w) : wc P rd n dm (.cond c x y) Q f w := fun a ha => by
  cases t with
  | true => exact wpIn_cond_true (by rw [ha.eval]; exact hc) (h1 rfl a ha)
  | false => exact wpIn_cond_false (by rw [ha.eval]; exact hc) (h2 rfl a ha)
theorem wc_ifd {c : Operand} {x y : Code} {p : Prop} [Decidable p] (hc : evF f c = .bool (decide p)) (h1 : p → wc P rd n dm x Q f w) (h2 : ¬ p → wc P rd n dm y Q f w) : wc P rd n dm (.cond c x y) Q f w :=
  wc_if hc (fun h => h1 (of_decide_eq_true h)) (fun h => h2 (of_decide_eq_false h))
theorem wc_true {c : Operand} {x y : Code} (hc : evF f c = .bool true) (h1 : wc P rd n dm x Q f w) : wc P rd n dm (.cond c x y) Q f w := wc_if hc (fun _ => h1) (fun h => by cases h)
theorem wc_false {c : Operand} {x y : Code} (hc : evF f c = .bool false) (h1 : wc P rd n dm y Q f w) : wc P rd n dm (.cond c x y) Q f w := wc_if hc (fun h => by cases h) (fun _ => h1)
theorem wc_loop {c : Code} {α : Type} (I : α → Fr → World → Prop) (μ : α → Nat) (x : α) (h0 : I x f w)
    (round : ∀ x f w, I x f w → wc P rd n dm c (thenP (fun dm' f' w' => dm' = dm ∧ ∃ y, I y f' w' ∧ μ y < μ x) Q) f w) : wc P rd n dm (.loop c) Q f w := by
  intro a ha
  refine wpIn_loop_ghost (P := P) (Q := lift n Q) (c := c) (fun m a w => ∃ y f, μ y = m ∧ Is n dm a f ∧ I y f w) (μ x) ⟨x, f, rfl, ha, h0⟩ ?_
  rintro m a w ⟨y, f, rfl, ha, hI⟩
  refine wpIn_mono (round y f w hI a ha) ?_
  rintro e a' w' ⟨dm', f', hf', q⟩
  cases e with
  | normal =>
    obtain ⟨rfl, z, hz, hlt⟩ := q
    exact ⟨μ z, hlt, z, f', rfl, hf', hz⟩
  | _ => exact ⟨dm', f', hf', q⟩

/-- a loop that writes the slots ds alone -/
theorem wc_loopm {c : Code} {α : Type} (ds : List Nat) (I : α → Fr → World → Prop) (μ : α → Nat) (x : α) (h0 : I x f w)
    (round : ∀ x g u, I x g u → wc P rd n dm c (thenP (fun dm' f' u' => dm' = dm ∧ Dif ds f f' ∧ ∃ y, I y f' u' ∧ μ y < μ x) Q) (mask ds g f) u) (hI : ∀ x g u, I x (mask ds g f) u → I x g u := by exact fun _ _ _ h => h) : wc P rd n dm (.loop c) Q f w := by
  refine wc_loop (fun x f' u => ∃ g, f' = mask ds g f ∧ I x g u) μ x ⟨f, by funext k; unfold mask; cases ds.elem k <;> rfl, h0⟩ ?_
  rintro x f' u ⟨g, rfl, hg⟩
  refine wc_mono (round x g u hg) ?_
  rintro dm' e f' u' q
  cases e with
  | normal =>
    obtain ⟨rfl, ⟨g', rfl⟩, y, hy, hlt⟩ := q
    exact ⟨rfl, y, ⟨g', rfl, hI _ _ _ hy⟩, hlt⟩
  | _ => exact q
/-- two ways that come together: they have written the slots ds alone -/
theorem wc_cutm {x y : Code} (ds : List Nat) (I : Fr → World → Prop) (h : wc P rd n dm x (thenP (fun dm' f' u' => dm' = dm ∧ Dif ds f f' ∧ I f' u') Q) f w) (hy : ∀ g u, I (mask ds g f) u → wc P rd n dm y Q (mask ds g f) u) : wc P rd n dm (.seq x y) Q f w :=
  wc_cut (fun f' u => ∃ g, f' = mask ds g f ∧ I f' u) (wc_mono h fun dm' e f' u' q => by
    cases e with
    | normal => obtain ⟨h1, ⟨g, rfl⟩, h2⟩ := q; exact ⟨h1, g, rfl, h2⟩
    | _ => exact q) (by rintro f' u ⟨g, rfl, h⟩; exact hy g u h)

theorem wc_region {id : Nat} {l : List Oper} (h : wl P rd n dm l.toArray l Q f w) : wc P rd n dm (.region id l.toArray false) Q f w := fun a ha => wpIn_region_lit (h a ha)

theorem wl_nil (h : Q dm .normal f w) : wl P rd n dm ops [] Q f w := fun _ ha => ⟨dm, f, ha, h⟩

/-- an operation that makes a value -/
def Does (P : Program) (o : Oper) (f : Fr) (w : World) (v : Value) (w' : World) : Prop := (execOp (evF f) o).run P w = .ok (.value v) w'
/-- an operation that makes none -/
def Acts (P : Program) (o : Oper) (f : Fr) (w : World) (w' : World) : Prop := (execOp (evF f) o).run P w = .ok .skip w'
/-- an operation that calls -/
def Enters (P : Program) (o : Oper) (f : Fr) (w : World) (g : FuncId) (args : Array Value) : Prop := (execOp (evF f) o).run P w = .ok (.enter g args) w

theorem sem_at {o : Oper} {x : Next} {w' : World} (h : (execOp (evF f) o).run P w = .ok x w') (hx : ∀ d, x ≠ .defer d) : (o.semAt rd (evF f)).run P w = .ok x w' := by
  have hd : ∀ c, o.op ≠ .defer c := by
    intro c hc
    obtain ⟨dst, op, ty, pos, af, gd⟩ := o
    simp only at hc
    subst hc
    simp only [execOp, Sem.run_bind] at h
    cases hr : (resolve (evF f) c ty).run P w with
    | ok d w1 =>
      rw [hr] at h
      simp only [Result.andThen_ok, Sem.run_pure] at h
      injection h with h1 h2
      exact hx _ h1.symm
    | halt e w1 => rw [hr] at h; simp [Result.andThen] at h
  rw [Oper.semAt_eq rd (evF f) o hd]
  exact h
theorem op_wp {o : Oper} {a : Act} (ha : Is n dm a f) {K : Act → World → Prop} {R : Exit → Act → World → Prop} {x : Next} {w' : World} (h : (execOp (evF f) o).run P w = .ok x w') (hx : ∀ d, x ≠ .defer d) (hk : o.uponIn (fen rd) 0 P a K R (.ok x w')) : o.wpIn (fen rd) 0 P a w K R := by
  refine ⟨fun _ _ => trivial, ?_⟩
  rw [ha.eval, show (o.semAt (fen rd).round (evF f)).run P w = _ from sem_at h hx]
  exact hk
theorem wl_does {d : Tmp} {op : Op} {ty : TypeId} {pos : String} {af : Array Edge} {v : Value} {w' : World} (hr : Does P ⟨some d, op, ty, pos, af, none⟩ f w v w') (hd : d < n)
    (h : wl P rd n dm ops rest Q (upd f d v) w') : wl P rd n dm ops (⟨some d, op, ty, pos, af, none⟩ :: rest) Q f w := fun a ha => by
  refine wpListIn_plain rfl fun K hK => ?_
  exact op_wp ha hr (by simp) (hK _ _ (h _ (ha.put hd v)))
theorem wl_acts {op : Op} {ty : TypeId} {pos : String} {af : Array Edge} {w' : World} (hr : Acts P ⟨none, op, ty, pos, af, none⟩ f w w')
    (h : wl P rd n dm ops rest Q f w') : wl P rd n dm ops (⟨none, op, ty, pos, af, none⟩ :: rest) Q f w := fun a ha => by
  refine wpListIn_plain rfl fun K hK => ?_
  exact op_wp ha hr (by simp) (hK _ _ (h _ ha))
theorem wl_call {d : Tmp} {op : Op} {ty : TypeId} {pos : String} {af : Array Edge} {g : FuncId} {args : Array Value} {R : Value → World → Prop} (hr : Enters P ⟨some d, op, ty, pos, af, none⟩ f w g args) (hd : d < n)
    (hc : Calls P g args w fun e w' => ∃ v, e = .returned v ∧ R v w')
    (h : ∀ v w', R v w' → wl P rd n dm ops rest Q (upd f d v) w') : wl P rd n dm ops (⟨some d, op, ty, pos, af, none⟩ :: rest) Q f w := fun a ha => by
  refine wpListIn_plain rfl fun K hK => ?_
  refine op_wp ha hr (by simp) (show _ ∧ _ from ⟨fun h => (by cases h), ?_⟩)
  refine CallsIn.mono (show CallsIn (fen rd) _ P g args w _ from callsIn_wide.2 hc) ?_
  rintro e w' ⟨v, rfl, hv⟩
  exact hK _ _ (h v w' hv _ (ha.put hd v))

/-- one result -/
def retSem (f : Fr) : ResultVar → Sem Value
  | .tmp t => pure (f t)
  | .cell a t => do loadVar t (← asAddr (f a))
/-- the end of a function: what its results read as -/
def Rets (P : Program) (rs : Array ResultVar) (f : Fr) (w : World) (v : Value) : Prop :=
  ((do
    let vs ← rs.mapM (retSem f)
    pure (if h : vs.size = 1 then vs[0] else .tuple vs) : Sem Value).run P w) = .ok v w
/-- the marks' calls are taken over: none -/
def Taken (P : Program) : List Nat → World → World → Prop
  | [], w, w' => w' = w
  | D :: l, w, w' => ∃ w1, (Instr.takeDeferred D).run P w = .ok [] w1 ∧ Taken P l w1 w'
def endPost (P : Program) (rs : Array ResultVar) (R : Value → World → Prop) : Post := fun dm e f w => match e with
  | .normal | .ret => match dm with
    | [] => ∃ v, Rets P rs f w v ∧ R v w
    | dm => ∃ w', Taken P dm w w' ∧ ∃ v, Rets P rs f w' v ∧ R v w'
  | _ => False
theorem endPost_iff {P : Program} {rs : Array ResultVar} {R : Value → World → Prop} {dm : List Nat} {f : Fr} {w : World} {e : Exit} (he : e = .normal ∨ e = .ret) (h : endPost P rs R dm e f w) : ∃ w', Taken P dm w w' ∧ ∃ v, Rets P rs f w' v ∧ R v w' := by
  rcases he with rfl | rfl <;> cases dm <;> first | exact ⟨w, rfl, h⟩ | exact h

theorem results_fr (fn : Func) {a : Act} {f : Fr} (ha : Is n dm a f) : results fn a.tmps = (do
    let vs ← fn.results.mapM (retSem f)
    pure (if h : vs.size = 1 then vs[0] else .tuple vs) : Sem Value) := by
  unfold results
  congr 1
  congr 1
  funext r
  cases r <;> simp only [retSem, ha.get]
theorem leaves_marks {fn : Func} {tmps : Array Value} {R : Ending → World → Prop} : ∀ (dm : List Nat) (w w' : World), Taken P dm w w' → LeavesIn (fen none) 0 P fn tmps R [] .returning w' → LeavesInM (fen none) 0 P fn tmps R (dm.map mark) .returning w
  | [], w, w', ht, h => by cases ht; exact h
  | D :: l, w, w', ⟨w1, h1, ht⟩, h => ⟨by simp, .inl ⟨D, w1, rfl, h1, leaves_marks l w1 w' ht h⟩⟩
theorem calls_of_wc {g : FuncId} {fn : Func} {c : Code} {args : Array Value} {R : Value → World → Prop} (hf : P.funcs[g]? = some fn) (hb : fn.body = some c) (hn : fn.ntmps = n) (hs : args.size ≤ n)
    (h : wc P none n [] c (endPost P fn.results R) (fr0 args.toList) w) : Calls P g args w fun e w' => ∃ v, e = .returned v ∧ R v w' := by
  refine (callsIn_wide (n := 0)).1 ?_
  refine callsIn_of_wp_marks hf hb trivial ?_
  have ha : Is n [] { tmps := args ++ Array.replicate (fn.ntmps - args.size) undef, defers := [] } (fr0 args.toList) := by
    refine ⟨rfl, by simp; omega, fun i => ?_⟩
    simp only [fr0, Array.getD_eq_getD_getElem?, List.getD_eq_getElem?_getD, Array.getElem?_toList]
    by_cases hi : i < args.size
    · rw [Array.getElem?_append_left hi]
    · rw [Array.getElem?_append_right (by omega), Array.getElem?_eq_none (by omega : args.size ≤ i)]
      by_cases h2 : i - args.size < fn.ntmps - args.size
      · rw [Array.getElem?_replicate, if_pos h2]; rfl
      · rw [Array.getElem?_replicate, if_neg h2]
  refine wpIn_mono (h _ ha) ?_
  have key : ∀ (a' : Act) (w' : World) (dm : List Nat) (f' : Fr) (e : Exit), e = .normal ∨ e = .ret → Is n dm a' f' → endPost P fn.results R dm e f' w' → LeavesInM (fen none) 0 P fn a'.tmps (fun e w' => ∃ v, e = .returned v ∧ R v w') a'.defers .returning w' := by
    intro a' w' dm f' e he hf' q
    obtain ⟨w2, ht, v, hv, hR⟩ := endPost_iff he q
    rw [hf'.defers]
    refine leaves_marks dm w' w2 ht ?_
    refine ⟨v, ?_, v, rfl, hR⟩
    exact (results_fr fn hf').symm ▸ hv
  rintro e a' w' ⟨dm', f', hf', q⟩
  cases e with
  | normal => exact key a' w' dm' f' .normal (.inl rfl) hf' q
  | ret => exact key a' w' dm' f' .ret (.inr rfl) hf' q
  | _ => exact q.elim
end rules
end Gw
end Go.Proofs.YtjjkhjieegmphaaDoor
