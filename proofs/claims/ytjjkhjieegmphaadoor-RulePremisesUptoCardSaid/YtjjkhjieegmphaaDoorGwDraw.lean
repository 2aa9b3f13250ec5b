/- Regions that draw their order: each operation is shown once, by what it brings about (V), out of what those that it hangs on have brought about; the tail, which comes behind all others, is run in its order. -/
import Derived.Test.YtjjkhjieegmphaaDoorGwSl
import Derived.Orders
namespace Go.Proofs.YtjjkhjieegmphaaDoor
open Go.RowKit
namespace Gw

abbrev Veil := Nat → Value → World → Prop
/-- T: what holds when the operations of a set are over; Le: what the next one may turn; V: what each has brought about -/
structure Draw where
  T : (Nat → Bool) → World → Prop
  Le : (Nat → Bool) → World → World → Prop
  V : Veil
def plus (L : Nat → Bool) (i : Nat) : Nat → Bool := fun j => Nat.beq j i || L j

def obPost (dm : List Nat) (D : Draw) (L : Nat → Bool) (i : Nat) (d : Tmp) (f : Fr) (w : World) : Post := fun dm' e f' w' => e = .normal ∧ dm' = dm ∧ D.T (plus L i) w' ∧ D.Le L w w' ∧ ∃ v, f' = upd f d v ∧ D.V i v w'
theorem ob {dm : List Nat} {D : Draw} {L : Nat → Bool} {i : Nat} {d : Tmp} {f : Fr} {w w' : World} {v : Value} (hT : D.T (plus L i) w') (hL : D.Le L w w') (hV : D.V i v w') : obPost dm D L i d f w dm .normal (upd f d v) w' := ⟨rfl, rfl, hT, hL, v, rfl, hV⟩

def needs (o : Oper) : List Nat := (o.after.toList.filter fun e => match e.ground with | .data | .guard => true | _ => false).map (·.on)
def dstAt (ops : Array Oper) (j : Nat) : Tmp := ((ops[j]?).bind (·.dst)).getD 0
def givens (ops : Array Oper) (D : Draw) (g : Fr) (w : World) : List Nat → Prop → Prop
  | [], p => p
  | j :: l, p => D.V j (g (dstAt ops j)) w → givens ops D g w l p
/-- what is owed of one operation -/
def Owe (P : Program) (rd : Option Nat) (n : Nat) (dm : List Nat) (ops : Array Oper) (ds : List Nat) (D : Draw) (f : Fr) (i : Nat) (o : Oper) : Prop :=
  ∀ (L : Nat → Bool) (g : Fr) (w : World), L i = false → D.T L w → givens ops D g w (needs o) (wl P rd n dm ops [o] (obPost dm D L i (o.dst.getD 0) (mask ds g f) w) (mask ds g f) w)
def Owes (P : Program) (rd : Option Nat) (n : Nat) (dm : List Nat) (ops : Array Oper) (ds : List Nat) (D : Draw) (f : Fr) : List Oper → Nat → Prop
  | [], _ => True
  | o :: l, i => Owe P rd n dm ops ds D f i o ∧ Owes P rd n dm ops ds D f l (i + 1)
def allV (D : Draw) (g : Fr) (w : World) : List Oper → Nat → Prop → Prop
  | [], _, p => p
  | o :: l, i, p => D.V i (g (o.dst.getD 0)) w → allV D g w l (i + 1) p

/-- the first m operations have slots of their own, each edge leads back, and each operation behind them comes behind all ahead of it -/
def drawB (ops : Array Oper) (m : Nat) : Bool :=
  (ops.toList.take m).all (fun o => o.dst.isSome) &&
  decide (((ops.toList.take m).filterMap (·.dst)).Nodup) &&
  ops.toList.zipIdx.all (fun q => q.1.after.toList.all fun e => !Region.binds .any e || decide (e.on < q.2)) &&
  ops.toList.zipIdx.all (fun q => decide (q.2 < m) || (List.range q.2).all fun i => ((Region.before ops).getD q.2 0).testBit i) &&
  decide (m ≤ ops.size)

section
variable {P : Program} {rd : Option Nat} {n m : Nat} {dm : List Nat} {ops : Array Oper} {Q : Post} {f : Fr} {w : World}

theorem upon_mono2 {F : Fence} {nn : Nat} {o : Oper} {a : Act} {w : World} {K K' : Act → World → Prop} {R R' : Exit → Act → World → Prop} (h : ∀ a w, K a w → K' a w) (hr : ∀ e a w, e ≠ .normal → R e a w → R' e a w)
    (hh : o.wpIn F nn P a w K R) : o.wpIn F nn P a w K' R' := by
  unfold Oper.wpIn at *
  refine ⟨hh.1, ?_⟩
  have hh := hh.2
  generalize (o.semAt F.round a.eval).run P w = r at *
  have out : LetsOut R → LetsOut R' := fun ⟨a, w, q⟩ => ⟨a, w, hr _ _ _ (by simp) q⟩
  cases r with
  | ok x w' =>
    cases x <;> simp only [Oper.uponIn] at hh ⊢ <;>
      first
        | exact h _ _ hh
        | exact ⟨hh.1, CallsIn.mono hh.2 (fun e w'' he => by cases e <;> first | exact h _ _ he | exact hr _ _ _ (by simp) he | exact out he)⟩
        | exact ⟨hh.1, RowsIn.mono hh.2 (fun _ _ he => h _ _ he)⟩
        | exact ⟨hh.1, RoundIn.mono hh.2 (fun e w'' he => by cases e <;> first | exact h _ _ he | exact hr _ _ _ (by simp) he | exact out he)⟩
  | halt x w' => cases x <;> simp only [Oper.uponIn] at hh ⊢ <;> first | exact hr _ _ _ (by simp) hh | exact hh

/-- one operation, as the kit's game of orders asks it -/
theorem wpOp_of_wl {i : Nat} {o : Oper} (hi : ops[i]? = some o) {Q1 : Post} {R : Exit → Act → World → Prop} {K : Act → World → Prop} (h : wl P rd n dm ops [o] Q1 f w) (hQ : ∀ dm e f w, Q1 dm e f w → e = .normal) (hK : ∀ dm' a f w, Is n dm' a f → Q1 dm' .normal f w → K a w)
    {a : Act} (ha : Is n dm a f) : wpOpIn (fen rd) 0 P ops R i K a w := by
  have h1 := h a ha
  unfold wpOpIn
  rw [hi]
  show if Region.wanted o (yielded ops a.tmps) = true then o.wpIn (fen rd) 0 P a w K R else _ ∧ K (a.put o.dst undef) w
  simp only [wpListIn] at h1
  split
  · rename_i hw
    rw [if_pos hw] at h1
    refine upon_mono2 ?_ ?_ h1
    · rintro a w ⟨dm', f, hf, q⟩; exact hK dm' a f w hf q
    · rintro e a w he ⟨dm', f, hf, q⟩; exact absurd (hQ _ _ _ _ q) he
  · rename_i hw
    rw [if_neg hw] at h1
    obtain ⟨h0, dm', f', hf', q⟩ := h1
    exact ⟨h0, hK _ _ _ _ hf' q⟩

theorem wpOp_of_wpList {F : Fence} {nn : Nat} {i : Nat} {o : Oper} {rest : List Oper} (hi : ops[i]? = some o) {R : Exit → Act → World → Prop} {a : Act} (h : wpListIn F nn P ops R (o :: rest) a w) : wpOpIn F nn P ops R i (wpListIn F nn P ops R rest) a w := by
  unfold wpOpIn
  rw [hi]
  exact h

/-- how many are listed -/
def cnt (listed : Array Bool) (k : Nat) : Nat := ((List.range k).filter fun j => listed.getD j false).length
theorem cnt_le (listed : Array Bool) (k : Nat) : cnt listed k ≤ k := by
  unfold cnt
  have := List.length_filter_le (fun j => listed.getD j false) (List.range k)
  simpa using this
theorem cnt_succ (listed : Array Bool) (k : Nat) : cnt listed (k + 1) = cnt listed k + (if listed.getD k false then 1 else 0) := by
  unfold cnt
  rw [List.range_succ, List.filter_append, List.length_append]
  congr 1
  by_cases h : listed.getD k false = true
  · rw [if_pos h, List.filter_cons_of_pos (by exact h)]; rfl
  · rw [if_neg h, List.filter_cons_of_neg (by exact h)]; rfl
theorem getD_set (listed : Array Bool) (i j : Nat) (hi : i < listed.size) : (listed.setIfInBounds i true).getD j false = if i = j then true else listed.getD j false := by
  simp only [Array.getD_eq_getD_getElem?]
  by_cases h : i = j
  · subst h; simp [hi]
  · rw [Array.getElem?_setIfInBounds_ne h, if_neg h]
theorem cnt_set (listed : Array Bool) (i : Nat) (hi : i < listed.size) (hf : listed.getD i false = false) : ∀ k, cnt (listed.setIfInBounds i true) k = cnt listed k + (if i < k then 1 else 0)
  | 0 => by simp [cnt]
  | k + 1 => by
    rw [cnt_succ, cnt_succ, cnt_set listed i hi hf k, getD_set listed i k hi]
    by_cases h : i = k
    · subst h
      simp [hf]
    · rw [if_neg h]
      by_cases h2 : i < k
      · have h3 : i < k + 1 := by omega
        simp only [h2, h3, if_true]; omega
      · have h3 : ¬ i < k + 1 := by omega
        simp only [h2, h3, if_false]; omega
theorem cnt_full (listed : Array Bool) : ∀ k, cnt listed k = k → ∀ j, j < k → listed.getD j false = true
  | 0, _, j, hj => absurd hj (by omega)
  | k + 1, h, j, hj => by
    rw [cnt_succ] at h
    have hle := cnt_le listed k
    by_cases hk : listed.getD k false = true
    · rw [if_pos hk] at h
      by_cases hjk : j = k
      · subst hjk; exact hk
      · exact cnt_full listed k (by omega) j (by omega)
    · rw [if_neg hk] at h; omega
theorem cnt_all (listed : Array Bool) : ∀ k, (∀ j, j < k → listed.getD j false = true) → cnt listed k = k
  | 0, _ => by simp [cnt]
  | k + 1, h => by rw [cnt_succ, cnt_all listed k (fun j hj => h j (by omega)), if_pos (h k (by omega))]

/-- each edge leads back -/
def Back (ops : Array Oper) : Prop := ∀ (i : Nat) (o : Oper), ops[i]? = some o → ∀ e ∈ o.after, Region.binds .any e = true → e.on < i
theorem ready_nil (hb : Back ops) {listed : Array Bool} (hs : listed.size = ops.size) (hr : Region.ready .any ops listed = []) : ∀ j, j < ops.size → listed.getD j false = true := by
  intro j
  induction j using Nat.strongRecOn with
  | _ j ih =>
    intro hj
    by_cases hl : listed.getD j false = true
    · exact hl
    · exfalso
      have : j ∈ Region.ready .any ops listed := by
        rw [mem_ready]
        refine ⟨?_, ops[j], Array.getElem?_eq_getElem hj, fun e he hbind => ?_⟩
        · simp only [Array.getD_eq_getD_getElem?] at hl ⊢
          rw [Array.getElem?_eq_getElem (by omega)] at hl ⊢
          simpa using hl
        · have hlt := hb j _ (Array.getElem?_eq_getElem hj) e he hbind
          exact ih e.on hlt (by omega)
      rw [hr] at this
      cases this
theorem ready_lt {listed : Array Bool} {i : Nat} (hs : listed.size = ops.size) (h : i ∈ Region.ready .any ops listed) : i < ops.size ∧ listed.getD i false = false := by
  rw [mem_ready] at h
  obtain ⟨h0, o, ho, _⟩ := h
  have hlt : i < ops.size := (Array.getElem?_eq_some_iff.1 ho).1
  refine ⟨hlt, ?_⟩
  simp only [Array.getD_eq_getD_getElem?] at h0 ⊢
  rw [Array.getElem?_eq_getElem (by omega)] at h0 ⊢
  exact h0

/-- listed downwards -/
def Closed (ops : Array Oper) (listed : Array Bool) : Prop := ∀ (j : Nat) (o : Oper), ops[j]? = some o → listed.getD j false = true → ∀ e ∈ o.after, Region.binds .any e = true → listed.getD e.on false = true
theorem Closed.set {listed : Array Bool} {i : Nat} (h : Closed ops listed) (hs : listed.size = ops.size) (hr : i ∈ Region.ready .any ops listed) : Closed ops (listed.setIfInBounds i true) := by
  have hlt := (ready_lt hs hr).1
  rw [mem_ready] at hr
  obtain ⟨_, o, ho, hall⟩ := hr
  intro j oj hoj hl e he hb
  rw [getD_set _ _ _ (by omega)] at hl ⊢
  by_cases hij : i = j
  · subst hij
    rw [ho] at hoj
    cases hoj
    rw [hall e he hb]
    simp
  · rw [if_neg hij] at hl
    rw [h j oj hoj hl e he hb]
    simp

/-- the tail, in its order -/
theorem any_tail {R : Exit → Act → World → Prop} (hb : Back ops) (hord : ∀ k, m ≤ k → k < ops.size → ∀ listed, listed.size = ops.size → k ∈ Region.ready .any ops listed → Closed ops listed → ∀ j, j < k → listed.getD j false = true) :
    ∀ (fuel k : Nat) (listed : Array Bool) (a : Act) (w : World), m ≤ k → listed.size = ops.size → Closed ops listed → (∀ j, j < ops.size → (listed.getD j false = true ↔ j < k)) → fuel + k = ops.size → wpListIn (fen rd) 0 P ops R (ops.toList.drop k) a w → wpAnyIn (fen rd) 0 P .any ops R fuel listed a w := by
  intro fuel
  induction fuel with
  | zero =>
    intro k listed a w hmk hs hc hl hk h
    refine ⟨?_, ?_⟩
    · refine List.eq_nil_iff_forall_not_mem.2 fun i hi => ?_
      obtain ⟨h1, h2⟩ := ready_lt hs hi
      rw [(hl i h1).2 (by omega)] at h2
      cases h2
    · rw [List.drop_eq_nil_of_le (by simp; omega)] at h
      exact h
  | succ fuel ih =>
    intro k listed a w hmk hs hc hl hk h
    have hkl : k < ops.size := by omega
    have hd : ops.toList.drop k = ops[k] :: ops.toList.drop (k + 1) := by
      rw [List.drop_eq_getElem_cons (by simpa using hkl)]
      simp
    rw [hd] at h
    refine ⟨fun hr => ?_, fun i hi => ?_⟩
    · have := ready_nil hb hs hr k hkl
      rw [hl k hkl] at this
      omega
    · obtain ⟨h1, h2⟩ := ready_lt hs hi
      have hge : k ≤ i := by
        refine Nat.le_of_not_lt fun hlt => ?_
        rw [(hl i h1).2 hlt] at h2
        cases h2
      have hik : i = k := by
        by_cases hki : k < i
        · have := hord i (by omega) h1 listed hs hi hc k hki
          rw [hl k hkl] at this
          omega
        · omega
      subst hik
      refine wpOpIn_mono (fun a' w' h' => ?_) (wpOp_of_wpList (Array.getElem?_eq_getElem hkl) h)
      refine ih (i + 1) _ a' w' (by omega) (by simpa using hs) (hc.set hs hi) (fun j hj => ?_) (by omega) h'
      rw [getD_set _ _ _ (by omega)]
      by_cases hij : i = j
      · subst hij; simp
      · rw [if_neg hij, hl j hj]
        omega

theorem before_foldl (ops : List Oper) : ∀ (acc : Array Nat), (ops.foldl (init := acc) fun acc o => acc.push (o.after.foldl (fun s e => if Region.binds .any e then s ||| 2 ^ e.on ||| acc.getD e.on 0 else s) 0)).size = acc.size + ops.length
    := by
  induction ops with
  | nil => intro acc; simp
  | cons o l ih => intro acc; simp only [List.foldl_cons, ih, Array.size_push, List.length_cons]; omega

/-- the transitive closure that the model reckons holds what is ahead of an operation, and no more -/
theorem before_sound {listed : Array Bool} (hc : Closed ops listed) :
    ∀ (pre : List Oper) (acc : Array Nat), acc.size = pre.length → (∀ (j : Nat) (o : Oper), pre[j]? = some o → ops[j]? = some o) →
      (∀ j, j < acc.size → ∀ b, (acc.getD j 0).testBit b = true → (∀ e ∈ ((ops[j]?).map (·.after)).getD #[], Region.binds .any e = true → listed.getD e.on false = true) → listed.getD b false = true) →
      ∀ (suf : List Oper), ops.toList = pre ++ suf →
      ∀ j, j < ops.size → ∀ b, ((suf.foldl (init := acc) fun acc o => acc.push (o.after.foldl (fun s e => if Region.binds .any e then s ||| 2 ^ e.on ||| acc.getD e.on 0 else s) 0)).getD j 0).testBit b = true →
        (∀ e ∈ ((ops[j]?).map (·.after)).getD #[], Region.binds .any e = true → listed.getD e.on false = true) → listed.getD b false = true := by
  intro pre acc hsz hpre hacc suf
  induction suf generalizing pre acc with
  | nil =>
    intro he j hj b hb hall
    have : j < acc.size := by rw [hsz]; rw [List.append_nil] at he; rw [← he]; simpa using hj
    exact hacc j this b hb hall
  | cons o suf ih =>
    intro he
    refine ih (pre ++ [o]) _ (by simp [hsz]) ?_ ?_ (by simp [he])
    · intro j oj hj
      have := congrArg (fun l => l[j]?) he
      simp only [Array.getElem?_toList] at this
      rw [this]
      by_cases h : j < (pre ++ [o]).length
      · rw [show pre ++ o :: suf = (pre ++ [o]) ++ suf by simp, List.getElem?_append_left h]
        exact hj
      · rw [List.getElem?_eq_none (by omega)] at hj
        cases hj
    · intro j hj b hb hall
      rw [Array.size_push] at hj
      by_cases hjl : j < acc.size
      · refine hacc j hjl b ?_ hall
        simp only [Array.getD_eq_getD_getElem?] at hb ⊢
        rw [Array.getElem?_push_lt hjl] at hb
        rw [Array.getElem?_eq_getElem hjl]
        exact hb
      · have hje : j = acc.size := by omega
        subst hje
        have ho : ops[acc.size]? = some o := by
          have := congrArg (fun l => l[acc.size]?) he
          simp only [Array.getElem?_toList] at this
          rw [this, List.getElem?_append_right (by omega)]
          simp [hsz]
        rw [ho] at hall
        simp only [Option.map_some, Option.getD_some] at hall
        have hb' : (o.after.foldl (fun s e => if Region.binds .any e then s ||| 2 ^ e.on ||| acc.getD e.on 0 else s) 0).testBit b = true := by
          simpa [Array.getD_eq_getD_getElem?] using hb
        have key : ∀ (es : List Edge) (s : Nat), (∀ e ∈ es, Region.binds .any e = true → listed.getD e.on false = true) → (s.testBit b = true → listed.getD b false = true) →
            (es.foldl (fun s e => if Region.binds .any e then s ||| 2 ^ e.on ||| acc.getD e.on 0 else s) s).testBit b = true → listed.getD b false = true := by
          intro es
          induction es with
          | nil => intro s _ hs h; exact hs h
          | cons e es ihe =>
            intro s hall hs h
            rw [List.foldl_cons] at h
            refine ihe _ (fun e' he' => hall e' (by simp [he'])) ?_ h
            by_cases hbd : Region.binds .any e = true
            · rw [if_pos hbd]
              intro ht
              have hel := hall e (by simp) hbd
              rw [Nat.testBit_or, Nat.testBit_or] at ht
              simp only [Bool.or_eq_true] at ht
              rcases ht with (ht | ht) | ht
              · exact hs ht
              · have : e.on = b := by
                  rw [Nat.testBit_two_pow] at ht
                  simpa using ht
                rw [← this]; exact hel
              · by_cases hes : e.on < acc.size
                · refine hacc e.on hes b ht ?_
                  intro e' he' hb'
                  cases hoe : ops[e.on]? with
                  | none => rw [hoe] at he'; simp at he'
                  | some oe =>
                    rw [hoe] at he'
                    exact hc e.on oe hoe hel e' (by simpa using he') hb'
                · simp only [Array.getD_eq_getD_getElem?] at ht
                  rw [Array.getElem?_eq_none (by omega)] at ht
                  simp at ht
            · rw [if_neg hbd]; exact hs
        refine key o.after.toList 0 (fun e he hb => hall e (by simpa using he) hb) (by simp) ?_
        rw [Array.foldl_toList]
        exact hb'
theorem allV_elim {D : Draw} {g : Fr} {w : World} {p : Prop} : ∀ (l : List Oper) (i : Nat), (∀ j o, l[j]? = some o → D.V (i + j) (g (o.dst.getD 0)) w) → allV D g w l i p → p
  | [], _, _, h => h
  | o :: l, i, hv, h => allV_elim l (i + 1) (fun j o' hj => by
      have := hv (j + 1) o' (by simpa using hj)
      rwa [show i + (j + 1) = i + 1 + j by omega] at this) (h (hv 0 o rfl))
theorem givens_elim {D : Draw} {g : Fr} {w : World} {p : Prop} : ∀ (l : List Nat), (∀ j ∈ l, D.V j (g (dstAt ops j)) w) → givens ops D g w l p → p
  | [], _, h => h
  | j :: l, hv, h => givens_elim l (fun j' hj => hv j' (by simp [hj])) (h (hv j (by simp)))
theorem owes_at {ds : List Nat} {D : Draw} : ∀ (l : List Oper) (i : Nat), Owes P rd n dm ops ds D f l i → ∀ j o, l[j]? = some o → Owe P rd n dm ops ds D f (i + j) o
  | [], _, _, j, o, hj => by simp at hj
  | o :: l, i, h, 0, o', hj => by simp at hj; subst hj; exact h.1
  | o :: l, i, h, j + 1, o', hj => by
    have := owes_at l (i + 1) h.2 j o' (by simpa using hj)
    rwa [show i + 1 + j = i + (j + 1) by omega] at this

theorem out_false (listed : Array Bool) (j : Nat) (h : listed.size ≤ j) : listed.getD j false = false := by
  rw [Array.getD_eq_getD_getElem?, Array.getElem?_eq_none h]; rfl
theorem plus_set (listed : Array Bool) (i : Nat) (hi : i < listed.size) : plus (fun j => listed.getD j false) i = fun j => (listed.setIfInBounds i true).getD j false := by
  funext j
  rw [getD_set _ _ _ hi]
  unfold plus
  by_cases h : i = j
  · subst h; simp
  · rw [if_neg h]
    cases hb : Nat.beq j i with
    | true => exact absurd (Nat.eq_of_beq_eq_true hb).symm h
    | false => rfl
theorem repl_false (k j : Nat) : (Array.replicate k false).getD j false = false := by
  simp only [Array.getD_eq_getD_getElem?, Array.getElem?_replicate]
  split <;> rfl
/-- A REGION THAT DRAWS ITS ORDER -/
theorem wc_draw {id : Nat} {l : List Oper} (m : Nat) (D : Draw) (hm : P.follows .mixedOrders = true) (hB : drawB l.toArray m = true)
    (hst : ∀ L i v w w', L i = true → D.Le L w w' → D.V i v w → D.V i v w') (hT : D.T (fun _ => false) { w with drawn := w.drawn + 1 })
    (ho : Owes P rd n dm l.toArray ((l.take m).filterMap (·.dst)) D f (l.take m) 0)
    (hq : ∀ L g w, (∀ j, L j = decide (j < m)) → D.T L w → allV D g w (l.take m) 0 (wl P rd n dm l.toArray (l.drop m) Q (mask ((l.take m).filterMap (·.dst)) g f) w)) : wc P rd n dm (.region id l.toArray true) Q f w := by
  intro a ha
  refine wpIn_region_any hm ?_
  simp only [drawB, Bool.and_eq_true, decide_eq_true_eq, List.all_eq_true] at hB
  obtain ⟨⟨⟨⟨hsome, hnd⟩, hback⟩, htail⟩, hml⟩ := hB
  simp only [List.size_toArray] at hml
  generalize hds : (l.take m).filterMap (·.dst) = ds at *
  have hb : Back l.toArray := by
    intro i o hi e he hbd
    have := hback (o, i) (by
      rw [List.mem_zipIdx_iff_getElem?]
      simpa using hi) e (by simpa using he)
    simp only [hbd, Bool.not_true, Bool.false_or, decide_eq_true_eq] at this
    exact this
  have hord : ∀ k, m ≤ k → k < l.toArray.size → ∀ listed : Array Bool, listed.size = l.toArray.size → k ∈ Region.ready .any l.toArray listed → Closed l.toArray listed → ∀ j, j < k → listed.getD j false = true := by
    intro k hmk hk listed hs hr hc j hj
    have hkl : k < l.length := by simpa using hk
    have h1 := htail (l[k], k) (by
      rw [List.mem_zipIdx_iff_getElem?]
      simp)
    simp only [Bool.or_eq_true, decide_eq_true_eq] at h1
    rcases h1 with h1 | h1
    · omega
    · rw [List.all_eq_true] at h1
      have h2 := h1 j (by simpa using hj)
      rw [mem_ready] at hr
      obtain ⟨_, o, ho', hall⟩ := hr
      refine before_sound hc [] #[] rfl (by simp) (by simp) l.toArray.toList (by simp) k hk j ?_ ?_
      · unfold Region.before at h2
        rw [← Array.foldl_toList] at h2
        exact h2
      · rw [ho']
        simpa using hall
  have hmd : ∀ j o, (l.take m)[j]? = some o → j < m ∧ l.toArray[j]? = some o ∧ ∃ d, o.dst = some d ∧ d ∈ ds := by
    intro j o hj
    have hjm : j < m := by
      have := (List.getElem?_eq_some_iff.1 hj).1
      simp at this; omega
    have hjo : l[j]? = some o := by rw [List.getElem?_take] at hj; simpa [hjm] using hj
    have hso := hsome o (List.mem_of_getElem? hj)
    cases hd : o.dst with
    | none => rw [hd] at hso; simp at hso
    | some d => exact ⟨hjm, by simpa using hjo, d, rfl, by rw [← hds]; exact List.mem_filterMap.2 ⟨o, List.mem_of_getElem? hj, hd⟩⟩
  have hinj : ∀ (i j : Nat) (oi oj : Oper) (d : Nat), (l.take m)[i]? = some oi → (l.take m)[j]? = some oj → oi.dst = some d → oj.dst = some d → i = j := by
    have hgen : ∀ (L : List Oper), (L.filterMap (·.dst)).Nodup → ∀ (i j : Nat) (oi oj : Oper) (d : Nat), L[i]? = some oi → L[j]? = some oj → oi.dst = some d → oj.dst = some d → i = j := by
      intro L
      induction L with
      | nil => intro _ i j oi oj d h; simp at h
      | cons o L ih =>
        intro hn i j oi oj d hi hj hdi hdj
        have hn' : (L.filterMap (·.dst)).Nodup := by
          rw [List.filterMap_cons] at hn
          split at hn
          · exact hn
          · exact (List.nodup_cons.1 hn).2
        have hno : ∀ (k : Nat) (ok : Oper) (dd : Nat), L[k]? = some ok → o.dst = some dd → ok.dst ≠ some dd := by
          intro k ok dd hk hod hkd
          rw [List.filterMap_cons, hod] at hn
          exact (List.nodup_cons.1 hn).1 (List.mem_filterMap.2 ⟨ok, List.mem_of_getElem? hk, hkd⟩)
        cases i with
        | zero =>
          cases j with
          | zero => rfl
          | succ j => simp at hi; subst hi; exact absurd hdj (hno j oj d (by simpa using hj) hdi)
        | succ i =>
          cases j with
          | zero => simp at hj; subst hj; exact absurd hdi (hno i oi d (by simpa using hi) hdj)
          | succ j => rw [ih hn' i j oi oj d (by simpa using hi) (by simpa using hj) hdi hdj]
    exact hgen _ (by rw [hds]; exact hnd)
  have main : ∀ (fuel : Nat) (listed : Array Bool) (g : Fr) (a : Act) (w : World), listed.size = l.length → fuel + cnt listed l.length = l.length → Closed l.toArray listed → (∀ j, m ≤ j → j < l.length → listed.getD j false = false) →
      Is n dm a (mask ds g f) → D.T (fun j => listed.getD j false) w → (∀ j o, (l.take m)[j]? = some o → listed.getD j false = true → D.V j (g (o.dst.getD 0)) w) → wpAnyIn (fen rd) 0 P .any l.toArray (lift n Q) fuel listed a w := by
    intro fuel
    induction fuel with
    | zero =>
      intro listed g a w hs hcnt hc hno ha hT hV
      have hall := cnt_full listed l.length (by omega)
      have hm' : m = l.length := by
        by_cases h : m < l.length
        · have := hno m (Nat.le_refl _) h
          rw [hall m h] at this
          cases this
        · omega
      have hfin := allV_elim (l.take m) 0 (fun j o hj => by rw [Nat.zero_add]; exact hV j o hj (hall j (by have := (hmd j o hj).1; omega))) (hq _ g w (fun j => by
        by_cases hj : j < l.length
        · rw [hall j hj, decide_eq_true (by omega)]
        · rw [out_false listed j (by omega), decide_eq_false (by omega)]) hT)
      rw [List.drop_eq_nil_of_le (by omega)] at hfin
      refine ⟨?_, ?_⟩
      · refine List.eq_nil_iff_forall_not_mem.2 fun i hi => ?_
        obtain ⟨h1, h2⟩ := ready_lt (ops := l.toArray) (by simpa using hs) hi
        rw [hall i (by simpa using h1)] at h2
        cases h2
      · exact hfin a ha
    | succ fuel ih =>
      intro listed g a w hs hcnt hc hno ha hT hV
      have hs' : listed.size = l.toArray.size := by simpa using hs
      refine ⟨fun hr => ?_, fun i hi => ?_⟩
      · have hall := ready_nil hb hs' hr
        have := cnt_all listed l.length (fun j hj => hall j (by simpa using hj))
        omega
      · obtain ⟨h1, h2⟩ := ready_lt hs' hi
        have h1' : i < l.length := by simpa using h1
        by_cases him : i < m
        · have hio : (l.take m)[i]? = some l[i] := by
            rw [List.getElem?_take, if_pos him]
            exact List.getElem?_eq_getElem h1'
          obtain ⟨_, hio', d, hd, hdds⟩ := hmd i _ hio
          have howe := owes_at _ 0 ho i _ hio (fun j => listed.getD j false) g w (by rw [Nat.zero_add]; exact h2) hT
          rw [Nat.zero_add] at howe
          have hready := hi
          rw [mem_ready] at hready
          obtain ⟨_, o, hoo, hall⟩ := hready
          rw [hio'] at hoo
          cases hoo
          have hwl := givens_elim (ops := l.toArray) (needs l[i]) (fun j hj => by
            unfold needs at hj
            obtain ⟨e, he, rfl⟩ := List.mem_map.1 hj
            obtain ⟨he1, he2⟩ := List.mem_filter.1 he
            have hbd : Region.binds .any e = true := by
              unfold Region.binds
              cases hg : e.ground <;> rw [hg] at he2 <;> simp at he2 ⊢
            have hlt := hb i _ hio' e (by simpa using he1) hbd
            have hlst := hall e (by simpa using he1) hbd
            have hjm : e.on < m := by omega
            have hjo : (l.take m)[e.on]? = some l[e.on] := by
              rw [List.getElem?_take, if_pos hjm]
              exact List.getElem?_eq_getElem (by omega)
            have := hV e.on _ hjo hlst
            unfold dstAt
            obtain ⟨_, hj2, dj, hdj, _⟩ := hmd _ _ hjo
            rw [hj2]
            simp only [Option.bind_some]
            exact this) howe
          rw [hd] at hwl
          refine wpOp_of_wl hio' hwl (fun dm e f' w' q => q.1) ?_ ha
          rintro dm' a' f' w' ha' ⟨_, rfl, hT', hL', v, rfl, hV'⟩
          have hmask : upd (mask ds g f) d v = mask ds (upd g d v) f := by
            funext k
            by_cases hk : k = d
            · subst hk
              rw [upd_same, mask_in hdds, upd_same]
            · rw [upd_other _ _ _ _ hk]
              by_cases hkd : k ∈ ds
              · rw [mask_in hkd, mask_in hkd, upd_other _ _ _ _ hk]
              · rw [mask_out hkd, mask_out hkd]
          simp only [Option.getD_some] at ha'
          rw [hmask] at ha'
          rw [plus_set listed i (by omega)] at hT'
          refine ih _ (upd g d v) a' w' (by simpa using hs) ?_ (hc.set hs' hi) ?_ ha' hT' ?_
          · rw [cnt_set listed i (by omega) h2, if_pos h1']; omega
          · intro j hmj hjl
            rw [getD_set _ _ _ (by omega), if_neg (by omega)]
            exact hno j hmj hjl
          · intro j oj hj hlj
            obtain ⟨_, _, dj, hdj, _⟩ := hmd j oj hj
            rw [getD_set _ _ _ (by omega)] at hlj
            by_cases hij : i = j
            · subst hij
              rw [hio] at hj
              cases hj
              rw [hd]
              simp only [Option.getD_some, upd_same]
              exact hV'
            · rw [if_neg hij] at hlj
              have hne : dj ≠ d := fun e => hij (hinj i j _ oj d hio hj hd (by rw [hdj, e]))
              have := hst _ j _ _ _ hlj hL' (hV j oj hj hlj)
              rw [hdj] at this ⊢
              simp only [Option.getD_some] at this ⊢
              rw [upd_other _ _ _ _ hne]
              exact this
        · have hallj := hord i (by omega) h1 listed hs' hi hc
          have him' : i = m := by
            by_cases h : m < i
            · have := hno m (Nat.le_refl _) (by omega)
              rw [hallj m h] at this
              cases this
            · omega
          subst him'
          have hfin := allV_elim (l.take i) 0 (fun j o hj => by rw [Nat.zero_add]; exact hV j o hj (hallj j (by have := (hmd j o hj).1; omega))) (hq _ g w (fun j => by
            by_cases hj : j < i
            · rw [hallj j hj, decide_eq_true hj]
            · rw [decide_eq_false hj]
              by_cases hjl : j < l.length
              · exact hno j (by omega) hjl
              · exact out_false listed j (by omega)) hT)
          have hfa := hfin a ha
          have hcn : cnt listed l.length = i := by
            have hz : ∀ k, i ≤ k → k ≤ l.length → cnt listed k = i := by
              intro k
              induction k with
              | zero => intro h _; rw [show i = 0 by omega]; rfl
              | succ k ihk =>
                intro h1 h2
                by_cases hk : i ≤ k
                · rw [cnt_succ, ihk hk (by omega), hno k hk (by omega)]; simp
                · have : k + 1 = i := by omega
                  rw [this]
                  exact cnt_all listed i hallj
            exact hz _ (by omega) (Nat.le_refl _)
          have htl := any_tail (rd := rd) (P := P) (m := i) (R := lift n Q) hb hord (fuel + 1) i listed a w (Nat.le_refl _) hs' hc (fun j hj => ⟨(fun h => by
            refine Nat.lt_of_not_le fun hij => ?_
            rw [hno j hij (by simpa using hj)] at h
            cases h), hallj j⟩) (by simp; omega) hfa
          exact htl.2 i hi
  have h0 : Is n dm a (mask ds f f) := by
    have : mask ds f f = f := by funext k; unfold mask; cases ds.elem k <;> rfl
    rw [this]; exact ha
  have hz : cnt (Array.replicate l.toArray.size false) l.length = 0 := by
    unfold cnt
    rw [List.length_eq_zero_iff]
    refine List.filter_eq_nil_iff.2 fun j hj => ?_
    rw [repl_false]
    simp
  refine main _ _ f a _ (by simp) (by rw [hz]; simp) ?_ (by intro j _ _; rw [repl_false]) h0 (by rw [show (fun j => (Array.replicate l.toArray.size false).getD j false) = fun _ => false from funext fun j => repl_false _ j]; exact hT) ?_
  · intro j o _ h; rw [repl_false] at h; cases h
  · intro j o _ h; rw [repl_false] at h; cases h
end
end Gw
end Go.Proofs.YtjjkhjieegmphaaDoor
