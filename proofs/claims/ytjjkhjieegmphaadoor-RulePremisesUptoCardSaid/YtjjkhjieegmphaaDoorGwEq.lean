/- Equality of structs and arrays; maps with keys of whatever type that is compared cell by cell. -/
import Derived.Test.YtjjkhjieegmphaaDoorGwRange
import Derived.ChangeKeysEq
import Derived.MapKept
namespace Go.Proofs.YtjjkhjieegmphaaDoor
open Go.RowKit
namespace Gw

/-- '==' of two values of type t -/
def EqV (P : Program) (m t : Nat) (x y : Value) (b : Bool) : Prop := ∀ (d : Nat) (w : World), (Op.equalIn (d + m) t x y).run P w = .ok b w
def EqF (P : Program) (m : Nat) (xs ys : Array Value) (fs : List Field) (b : Bool) : Prop := ∀ (d : Nat) (w : World), (Op.eqFields (d + m) xs ys fs).run P w = .ok b w
section
variable {P : Program} {f : Fr} {w : World} {d : Option Tmp} {ty : TypeId} {pos : String} {af : Array Edge} {gd : Option (Nat × Bool)}
theorem EqV.le {m m' t : Nat} {x y : Value} {b : Bool} (h : EqV P m t x y b) (hm : m ≤ m') : EqV P m' t x y b := fun d w => by
  have := h (d + (m' - m)) w
  rwa [show d + (m' - m) + m = d + m' by omega] at this
theorem EqV.int {t : Nat} {k k' : IntKind} {a b : Int} (h : P.underlying t = some (.int k')) : EqV P 1 t (.int k a) (.int k b) (decide (a = b)) := fun d w => by
  rw [run_equalIn_int w d t k k' a b h]; congr 1
theorem EqV.str {t : Nat} {a b : ByteArray} (h : P.underlying t = some .string) : EqV P 1 t (.string a) (.string b) (decide (a = b)) := fun d w => by
  rw [run_equalIn_string w d t a b h, beq_toList]
theorem EqV.bool {t : Nat} {a b : Bool} (h : P.underlying t = some .bool) : EqV P 1 t (.bool a) (.bool b) (decide (a = b)) := fun d w => by
  rw [run_equalIn_bool' w d t a b h]; congr 1
theorem EqF.nil {m : Nat} {xs ys : Array Value} : EqF P m xs ys [] true := fun d w => by simp [Op.eqFields]
theorem EqF.one {m : Nat} {xs ys : List Value} {fd : Field} {fs : List Field} {a b : Value} {r1 r2 : Bool} (hn : (fd.name == "_") = false) (ht : OneT P fd.type) (hx : xs[fd.offset]? = some a) (hy : ys[fd.offset]? = some b) (he : EqV P m fd.type a b r1)
    (hr : EqF P m xs.toArray ys.toArray fs r2) : EqF P m xs.toArray ys.toArray (fd :: fs) (r1 && r2) := fun d w => by
  have hn' : fd.name ≠ "_" := by intro e; rw [e] at hn; simp at hn
  simp only [Op.eqFields, hn', ne_eq, not_false_eq_true, if_true, Sem.run_bind, part, run_isAgg_false ht, Result.andThen_ok, Bool.false_eq_true, if_false, List.getElem?_toArray, hx, hy, Sem.run_pure, he d w]
  cases r1
  · simp
  · simpa using hr d w
theorem EqF.agg {m k : Nat} {xs ys : List Value} {fd : Field} {fs : List Field} {a b : List Value} {r1 r2 : Bool} (hn : (fd.name == "_") = false) (ht : AggT P fd.type k) (hx : (xs.drop fd.offset).take k = a) (hy : (ys.drop fd.offset).take k = b) (he : EqV P m fd.type (.agg a.toArray) (.agg b.toArray) r1)
    (hr : EqF P m xs.toArray ys.toArray fs r2) : EqF P m xs.toArray ys.toArray (fd :: fs) (r1 && r2) := fun d w => by
  have hn' : fd.name ≠ "_" := by intro e; rw [e] at hn; simp at hn
  subst hx hy
  have h1 : (part fd.type xs.toArray fd.offset).run P w = .ok (.agg ((xs.drop fd.offset).take k).toArray) w := by
    simp [part, run_isAgg_true ht, run_sizeOf ht.2, List.take_drop]
  have h2 : (part fd.type ys.toArray fd.offset).run P w = .ok (.agg ((ys.drop fd.offset).take k).toArray) w := by
    simp [part, run_isAgg_true ht, run_sizeOf ht.2, List.take_drop]
  simp only [Op.eqFields, hn', ne_eq, not_false_eq_true, if_true, Sem.run_bind, h1, h2, Result.andThen_ok, he d w]
  cases r1
  · simp
  · simpa using hr d w
theorem EqV.struct {m t : Nat} {fs : Array Field} {xs ys : Array Value} {r : Bool} (hu : P.underlying t = some (.struct fs)) (hp : P.stoodInHeld t = false) (h : EqF P m xs ys fs.toList r) : EqV P (m + 1) t (.agg xs) (.agg ys) r := fun d w => by
  have hf : P.fieldsOf t = fs := by unfold Program.fieldsOf; rw [hu]
  rw [show d + (m + 1) = (d + m) + 1 from rfl, run_equalIn_struct w (d + m) t xs ys (by rw [hf]; exact hu) hp, hf]
  exact h d w
/-- an array of n cells, each compared as 'eq' says -/
theorem EqV.arr {m t e n : Nat} {α : Type} [DecidableEq α] {enc : α → Value} {xs ys : List α} (hu : P.underlying t = some (.array n e)) (hi : (P.info? e).map (·.size) = some 1) (ho : OneT P e) (hx : xs.length = n) (hy : ys.length = n) (h : ∀ a b, EqV P m e (enc a) (enc b) (decide (a = b))) :
    EqV P (m + 1) t (.agg (xs.map enc).toArray) (.agg (ys.map enc).toArray) (decide (xs = ys)) := fun d w => by
  obtain ⟨i, hi1, hi2⟩ : ∃ i, P.info? e = some i ∧ i.size = 1 := by
    cases hq : P.info? e with
    | none => rw [hq] at hi; cases hi
    | some i => exact ⟨i, rfl, by rw [hq] at hi; simpa using hi⟩
  rw [show d + (m + 1) = (d + m) + 1 from rfl, run_equalIn_array w (d + m) _ _ hu hi1]
  have hc : P.cellsOf e = 1 := by unfold Program.cellsOf; rw [hi1]; exact hi2
  rw [hc]
  subst hx
  have key : ∀ (k j : Nat), j + k = xs.length → (Op.eqItems (d + m) e 1 (xs.map enc).toArray (ys.map enc).toArray (List.range' j k)).run P w = .ok (decide (xs.drop j = ys.drop j)) w := by
    intro k
    induction k with
    | zero => intro j hj; rw [List.drop_eq_nil_of_le (by omega), List.drop_eq_nil_of_le (by omega)]; simp [Op.eqItems]
    | succ k ih =>
      intro j hj
      have h1 : xs.drop j = xs[j] :: xs.drop (j + 1) := List.drop_eq_getElem_cons (by omega)
      have h2 : ys.drop j = ys[j] :: ys.drop (j + 1) := List.drop_eq_getElem_cons (by omega)
      rw [List.range'_succ]
      simp only [Op.eqItems, Sem.run_bind, part, run_isAgg_false ho, Result.andThen_ok, Bool.false_eq_true, if_false, Nat.mul_one]
      rw [show (xs.map enc).toArray[j]? = some (enc xs[j]) by simp [show j < xs.length by omega], show (ys.map enc).toArray[j]? = some (enc ys[j]) by simp [show j < ys.length by omega]]
      have h3 : decide (xs.drop j = ys.drop j) = (decide (xs[j] = ys[j]) && decide (xs.drop (j + 1) = ys.drop (j + 1))) := by
        rw [Bool.eq_iff_iff]
        simp only [decide_eq_true_eq, Bool.and_eq_true]
        rw [h1, h2, List.cons.injEq]
      simp only [Sem.run_pure, Result.andThen_ok, h _ _ d w]
      rw [h3]
      by_cases e1 : xs[j] = ys[j]
      · simp [e1, ih (j + 1) (by omega)]
      · simp [e1]
  have := key xs.length 0 (by omega)
  rw [List.range_eq_range']
  simpa using this

theorem does_eqv {t u m : TypeId} {x y : Operand} {a b : Array Value} {r : Bool} (hg : P.eqGuardType P.depth t = false) (h : EqV P m t (.agg a) (.agg b) r) (hm : m ≤ 10000) (hx : evF f x = .agg a) (hy : evF f y = .agg b) : Does P ⟨d, .binOp .eql t x y u, ty, pos, af, gd⟩ f w (.bool r) w := by
  have h1 := h.le hm 0 w
  simp only [Nat.zero_add] at h1
  simp only [Does, execOp, hx, hy, Sem.run_bind, run_eqGuard_agg w .eql t x y a b hg, Result.andThen_ok, run_eql_struct, h1, Sem.run_pure]
theorem does_nev {t u m : TypeId} {x y : Operand} {a b : Array Value} {r : Bool} (hg : P.eqGuardType P.depth t = false) (h : EqV P m t (.agg a) (.agg b) r) (hm : m ≤ 10000) (hx : evF f x = .agg a) (hy : evF f y = .agg b) : Does P ⟨d, .binOp .neq t x y u, ty, pos, af, gd⟩ f w (.bool (!r)) w := by
  have h1 := h.le hm 0 w
  simp only [Nat.zero_add] at h1
  simp only [Does, execOp, hx, hy, Sem.run_bind, run_eqGuard_agg w .neq t x y a b hg, Result.andThen_ok, run_neq_struct, h1, Sem.run_pure]
end

-- maps
/-- keys of the type t, written by enc -/
structure KeyT (P : Program) (t : Nat) {α : Type} [DecidableEq α] (enc : α → Value) : Prop where
  eq : ∀ (a b : α) (w : World), (Op.equal t (enc a) (enc b)).run P w = .ok (decide (a = b)) w
  check : ∀ (e : Bool) (a : α) (w : World), (Instr.checkKey e 10000 t (enc a)).run P w = .ok () w
  same : ∀ (a : α), Instr.sameBits 10000 (enc a) (enc a) = true
  now : ∃ desc, P.underlying t = some desc ∧ ∀ a b, Instr.sameNow desc (enc a) (enc b) = none ∨ Instr.sameNow desc (enc a) (enc b) = some (decide (a = b))

/-- no key of this value's is refused -/
def ChkV (P : Program) (m t : Nat) (v : Value) : Prop := ∀ (e : Bool) (d : Nat) (w : World), (Instr.checkKey e (d + m) t v).run P w = .ok () w
theorem ChkV.le {P : Program} {m m' t : Nat} {v : Value} (h : ChkV P m t v) (hm : m ≤ m') : ChkV P m' t v := fun e d w => by
  have := h e (d + (m' - m)) w
  rwa [show d + (m' - m) + m = d + m' by omega] at this
theorem ChkV.int {P : Program} {t : Nat} {k k' : IntKind} {a : Int} (h : P.underlying t = some (.int k')) : ChkV P 1 t (.int k a) := fun e d w => by simp [Instr.checkKey, run_underlying h]
theorem ChkV.str {P : Program} {t : Nat} {a : ByteArray} (h : P.underlying t = some .string) : ChkV P 1 t (.string a) := fun e d w => by simp [Instr.checkKey, run_underlying h]
theorem ChkV.bool {P : Program} {t : Nat} {a : Bool} (h : P.underlying t = some .bool) : ChkV P 1 t (.bool a) := fun e d w => by simp [Instr.checkKey, run_underlying h]
inductive ChkF (P : Program) (m : Nat) (xs : List Value) : List Field → Prop
  | nil : ChkF P m xs []
  | one {fd : Field} {fs : List Field} {a : Value} (ht : OneT P fd.type) (hx : xs[fd.offset]? = some a) (he : ChkV P m fd.type a) (hr : ChkF P m xs fs) : ChkF P m xs (fd :: fs)
  | agg {fd : Field} {fs : List Field} {a : List Value} {k : Nat} (ht : AggT P fd.type k) (hx : (xs.drop fd.offset).take k = a) (he : ChkV P m fd.type (.agg a.toArray)) (hr : ChkF P m xs fs) : ChkF P m xs (fd :: fs)
theorem ChkV.struct {P : Program} {m t : Nat} {fs : Array Field} {xs : List Value} (hu : P.underlying t = some (.struct fs)) (h : ChkF P m xs fs.toList) : ChkV P (m + 1) t (.agg xs.toArray) := fun e d w => by
  rw [show d + (m + 1) = (d + m) + 1 from rfl]
  unfold Instr.checkKey
  simp only [Sem.run_bind, run_underlying hu, Result.andThen_ok]
  rw [← Array.forIn_toList]
  generalize fs.toList = l at h
  clear hu
  induction h with
  | nil => simp
  | one ht hx he hr ih =>
    rename_i fd fs a
    rw [List.forIn_cons]
    by_cases hn : fd.name = "_"
    · simpa [hn] using ih
    · simpa [hn, part, run_isAgg_false ht, hx, he e d w] using ih
  | agg ht hx he hr ih =>
    rename_i fd fs a k
    subst hx
    have h1 : (part fd.type xs.toArray fd.offset).run P w = .ok (.agg ((xs.drop fd.offset).take k).toArray) w := by
      simp [part, run_isAgg_true ht, run_sizeOf ht.2, List.take_drop]
    rw [List.forIn_cons]
    by_cases hn : fd.name = "_"
    · simpa [hn] using ih
    · simpa [hn, h1, he e d w] using ih
theorem ChkV.arr {P : Program} {m t e n : Nat} {xs : List Value} (hu : P.underlying t = some (.array n e)) (hi : (P.info? e).map (·.size) = some 1) (ho : OneT P e) (hx : xs.length = n) (h : ∀ v ∈ xs, ChkV P m e v) : ChkV P (m + 1) t (.agg xs.toArray) := fun ee d w => by
  subst hx
  rw [show d + (m + 1) = (d + m) + 1 from rfl]
  unfold Instr.checkKey
  simp only [Sem.run_bind, run_underlying hu, Result.andThen_ok]
  simp only [Std.Legacy.Range.forIn_eq_forIn_range', Std.Legacy.Range.size, Nat.sub_zero, Nat.add_one_sub_one, Nat.div_one]
  have key : ∀ (k j : Nat), j + k = xs.length → ((forIn (List.range' j k) PUnit.unit fun i _ => do
      Instr.checkKey ee (d + m) e (← part e xs.toArray (i * (← sizeOf e)))
      pure (ForInStep.yield PUnit.unit) : Sem PUnit)).run P w = .ok PUnit.unit w := by
    intro k
    induction k with
    | zero => intro j _; simp
    | succ k ih =>
      intro j hj
      rw [List.range'_succ, List.forIn_cons]
      have hlt : j < xs.length := by omega
      have := ih (j + 1) (by omega)
      have hp : (part e xs.toArray j).run P w = .ok xs[j] w := by
        simp [part, run_isAgg_false ho, hlt]
      simp only [Sem.run_bind, run_sizeOf hi, Result.andThen_ok, Nat.mul_one, hp, Sem.run_pure, h _ (List.getElem_mem hlt) ee d w]
      exact this
  have := key xs.length 0 (by omega)
  rw [this]; rfl
theorem sameBits_one {k : Nat} {v : Value} (h : (match v with | .int .. | .string _ | .bool _ => true | _ => false) = true) : Instr.sameBits k v v = true := by
  cases v <;> simp at h <;> cases k <;> simp [Instr.sameBits, beq_toListBytes]
theorem sameBits_agg {k : Nat} {l : List Value} (h : ∀ v ∈ l, Instr.sameBits k v v = true) : Instr.sameBits (k + 1) (.agg l.toArray) (.agg l.toArray) = true := by
  have : ∀ (l : List Value), (∀ v ∈ l, Instr.sameBits k v v = true) → ((l.zip l).all fun q => Instr.sameBits k q.1 q.2) = true := by
    intro l
    induction l with
    | nil => intro _; rfl
    | cons a l ih => intro h; simp only [List.zip_cons_cons, List.all_cons, h a (by simp), Bool.true_and]; exact ih (fun v hv => h v (by simp [hv]))
  simp only [Instr.sameBits, beq_self_eq_true, Bool.true_and]
  exact this l h

/-- block m is a map with these keys and values, in the order in which they came -/
def MapB (w : World) (m : Nat) {α β : Type} (C : α → Value) (D : β → Value) (l : List (α × β)) : Prop :=
  ∃ (es : Array MapEntry) (clock : Nat), w.heap[m]? = some (.map es clock) ∧ es.toList.map (fun e => (e.key, e.val)) = l.map fun q => (C q.1, D q.2)
section
variable {P : Program} {f : Fr} {w w' : World} {d : Option Tmp} {ty : TypeId} {pos : String} {af : Array Edge} {gd : Option (Nat × Bool)} {α β : Type} {C : α → Value} {D : β → Value} {l : List (α × β)} {m : Nat}
theorem MapB.lt (h : MapB w m C D l) : m < w.heap.size := by obtain ⟨es, c, h, _⟩ := h; exact (Array.getElem?_eq_some_iff.1 h).1
theorem MapB.chg {S : Nat → Prop} (h : MapB w m C D l) (hc : Chg S w w') (hs : ¬ S m) : MapB w' m C D l := by
  have hl := h.lt
  obtain ⟨es, c, h, he⟩ := h
  exact ⟨es, c, (hc.block m hl hs).trans h, he⟩
theorem MapB.ext (h : MapB w m C D l) (hc : Ext w w') : MapB w' m C D l := h.chg hc (fun x => x)

/-- the value at a key -/
def look [DecidableEq α] (x : α) : List (α × β) → Option β
  | [] => none
  | (k, v) :: l => if x = k then some v else look x l
/-- a value is put at a key -/
def ins [DecidableEq α] (x : α) (y : β) : List (α × β) → List (α × β)
  | [] => [(x, y)]
  | (k, v) :: l => if x = k then (k, y) :: l else (k, v) :: ins x y l
/-- a key is struck -/
def del [DecidableEq α] (x : α) : List (α × β) → List (α × β)
  | [] => []
  | (k, v) :: l => if x = k then l else (k, v) :: del x l
/-- where a key stands -/
def spot [DecidableEq α] (x : α) : List (α × β) → Option Nat
  | [] => none
  | (k, _) :: l => if x = k then some 0 else (spot x l).map (· + 1)
theorem look_spot [DecidableEq α] (x : α) : ∀ (l : List (α × β)), look x l = (spot x l).bind fun i => (l[i]?).map (·.2)
  | [] => rfl
  | (k, v) :: l => by
    unfold look spot
    by_cases h : x = k
    · simp [h]
    · rw [if_neg h, if_neg h, look_spot x l]
      cases spot x l <;> simp
theorem ins_spot [DecidableEq α] (x : α) (y : β) : ∀ (l : List (α × β)), ins x y l = match spot x l with | none => l ++ [(x, y)] | some i => l.modify i fun q => (q.1, y)
  | [] => rfl
  | (k, v) :: l => by
    unfold ins spot
    by_cases h : x = k
    · simp [h]
    · rw [if_neg h, if_neg h, ins_spot x y l]
      cases spot x l <;> simp
theorem del_spot [DecidableEq α] (x : α) : ∀ (l : List (α × β)), del x l = match spot x l with | none => l | some i => l.eraseIdx i
  | [] => rfl
  | (k, v) :: l => by
    unfold del spot
    by_cases h : x = k
    · simp [h]
    · rw [if_neg h, if_neg h, del_spot x l]
      cases spot x l <;> simp
theorem spot_key [DecidableEq α] (x : α) : ∀ (l : List (α × β)) (i : Nat), spot x l = some i → ∃ v, l[i]? = some (x, v)
  | [], i, h => by cases h
  | (k, v) :: l, i, h => by
    unfold spot at h
    by_cases e : x = k
    · subst e
      rw [if_pos rfl] at h; cases h; exact ⟨v, rfl⟩
    · rw [if_neg e] at h
      cases hs : spot x l with
      | none => rw [hs] at h; cases h
      | some j =>
        rw [hs] at h
        cases h
        obtain ⟨v', hv⟩ := spot_key x l j hs
        exact ⟨v', by simpa using hv⟩

theorem run_findKey [DecidableEq α] {t : Nat} (K : KeyT P t C) (x : α) (es : List MapEntry) (l : List (α × β)) (he : es.map (fun e => (e.key, e.val)) = l.map fun q => (C q.1, D q.2)) (w : World) :
    (Instr.findKey t (C x) es).run P w = .ok ((spot x l).bind fun i => (l[i]?).map fun q => (i, D q.2)) w := by
  obtain ⟨desc, hu, hn⟩ := K.now
  have ask : ∀ (es : List MapEntry) (l : List (α × β)) (j : Nat), es.map (fun e => (e.key, e.val)) = l.map (fun q => (C q.1, D q.2)) → (Instr.findAsking t (C x) es j).run P w = .ok ((spot x l).bind fun i => (l[i]?).map fun q => (i + j, D q.2)) w := by
    intro es
    induction es with
    | nil => intro l j he; cases l with | nil => rfl | cons => simp at he
    | cons e es ih =>
      intro l j he
      cases l with
      | nil => simp at he
      | cons q l =>
        obtain ⟨k, v⟩ := q
        simp only [List.map_cons, List.cons.injEq, Prod.mk.injEq] at he
        obtain ⟨⟨h1, h2⟩, h3⟩ := he
        unfold Instr.findAsking spot
        simp only [Sem.run_bind, h1, K.eq, Result.andThen_ok]
        by_cases hk : x = k
        · simp [hk, h2]
        · simp only [hk, decide_false, Bool.false_eq_true, if_false]
          rw [ih l (j + 1) h3]
          cases spot x l with
          | none => rfl
          | some i => simp [Nat.add_assoc, Nat.add_comm 1 j]
  have now : ∀ (es : List MapEntry) (l : List (α × β)) (j : Nat), es.map (fun e => (e.key, e.val)) = l.map (fun q => (C q.1, D q.2)) → Instr.findNow desc (C x) es j = none ∨ Instr.findNow desc (C x) es j = some ((spot x l).bind fun i => (l[i]?).map fun q => (i + j, D q.2)) := by
    intro es
    induction es with
    | nil => intro l j he; cases l with | nil => exact .inr rfl | cons => simp at he
    | cons e es ih =>
      intro l j he
      cases l with
      | nil => simp at he
      | cons q l =>
        obtain ⟨k, v⟩ := q
        simp only [List.map_cons, List.cons.injEq, Prod.mk.injEq] at he
        obtain ⟨⟨h1, h2⟩, h3⟩ := he
        unfold Instr.findNow spot
        rw [h1]
        rcases hn x k with h | h
        · rw [h]; exact .inl rfl
        · rw [h]
          by_cases hk : x = k
          · simp [hk, h2]
          · simp only [hk, decide_false, if_false]
            rcases ih l (j + 1) h3 with h4 | h4
            · exact .inl h4
            · right; rw [h4]; cases spot x l with
              | none => rfl
              | some i => simp [Nat.add_assoc, Nat.add_comm 1 j]
  unfold Instr.findKey
  simp only [Sem.run_bind, run_underlying hu, Result.andThen_ok]
  rcases now es l 0 he with h | h
  · rw [h]; simpa using ask es l 0 he
  · rw [h]; simp

theorem does_lookup_ok [DecidableEq α] {t kt et : Nat} {x y : Operand} {key : α} {zv : β} (ht : P.underlying t = some (.map kt et)) (K : KeyT P kt C) (hz : (P.info? et).bind (·.zero) = some (D zv)) (hx : evF f x = .map (some m)) (hy : evF f y = C key) (hm : MapB w m C D l) :
    Does P ⟨d, .lookup t x y true, ty, pos, af, gd⟩ f w (.tuple #[D ((look key l).getD zv), .bool (look key l).isSome]) w := by
  obtain ⟨es, c, hb, he⟩ := hm
  have hz' : (zeroValue et).run P w = .ok (D zv) w := by
    cases hq : P.info? et with
    | none => simp [hq] at hz
    | some i => simp [hq] at hz; simp [zeroValue, typeInfo, hq, hz]
  simp only [Does, execOp, hx, hy, Instr.lookup, Sem.run_bind, run_underlying ht, Result.andThen_ok, MapKept.run_getObj_map hb, Sem.run_pure, K.check, run_findKey K key es.toList l he]
  cases hs : spot key l with
  | none => simp [look_spot, hs, hz']
  | some i =>
    obtain ⟨v, hv⟩ := spot_key key l i hs
    simp [look_spot, hs, hv]
/-- behind a step on the map's block -/
def MapStep (w w' : World) (m : Nat) (C : α → Value) (D : β → Value) (l : List (α × β)) : Prop := MapB w' m C D l ∧ Chg (· = m) w w' ∧ w'.heap.size = w.heap.size
theorem map_step {es es0 : Array MapEntry} {c c0 : Nat} (hb : w.heap[m]? = some (.map es0 c0)) (he : es.toList.map (fun e => (e.key, e.val)) = l.map fun q => (C q.1, D q.2)) : MapStep w (w.putObj m (.map es c)) m C D l :=
  ⟨⟨es, c, World.putObj_heap_same (Array.getElem?_eq_some_iff.1 hb).1, he⟩, Chg.put _ _ _ (by rw [hb]; exact fun _ _ _ h => by cases h) (Array.getElem?_eq_some_iff.1 hb).1, by simp⟩
theorem run_setObj_map' {es : Array MapEntry} {c : Nat} (o : Obj) (h : w.heap[m]? = some (.map es c)) : (setObj m o).run P w = .ok () (w.putObj m o) := by simp [setObj, Sem.run, h, World.putObj]
variable {rd : Option Nat} {n : Nat} {dm : List Nat} {ops : Array Oper} {Q : Post} {rest : List Oper}
theorem wl_mapUpdate [DecidableEq α] {t kt et : Nat} {x y z : Operand} {key : α} {v : β} (ht : P.underlying t = some (.map kt et)) (K : KeyT P kt C) (hx : evF f x = .map (some m)) (hy : evF f y = C key) (hz : evF f z = D v) (hm : MapB w m C D l)
    (h : ∀ w', MapB w' m C D (ins key v l) → Chg (· = m) w w' → w'.heap.size = w.heap.size → wl P rd n dm ops rest Q f w') : wl P rd n dm ops (⟨none, .mapUpdate t x y z, ty, pos, af, none⟩ :: rest) Q f w := by
  obtain ⟨es, c, hb, he⟩ := hm
  have hf := run_findKey K key es.toList l he w
  rw [ins_spot] at h
  cases hs : spot key l with
  | none =>
    rw [hs] at h hf
    obtain ⟨s1, s2, s3⟩ := map_step (w := w) (m := m) (C := C) (D := D) (es := es.push { key := C key, val := D v, born := c }) (c := c + 1) (l := l ++ [(key, v)]) hb (by simp [he])
    refine wl_acts ?_ (h _ s1 s2 s3)
    simp only [Acts, execOp, hx, hy, hz, Instr.mapUpdate, Sem.run_bind, run_underlying ht, Result.andThen_ok, MapKept.run_getObj_map hb, K.check, hf, Option.bind_none, run_setObj_map' _ hb, Sem.run_pure]
  | some i =>
    obtain ⟨v0, hv⟩ := spot_key key l i hs
    rw [hs] at h hf
    have hei : (es.toList[i]?).map (fun e => (e.key, e.val)) = some (C key, D v0) := by
      have := congrArg (fun l => l[i]?) he
      simp only [List.getElem?_map, hv, Option.map_some] at this
      exact this
    obtain ⟨e0, he0, hek⟩ : ∃ e0, es[i]? = some e0 ∧ e0.key = C key := by
      simp only [Array.getElem?_toList] at hei
      cases hq : es[i]? with
      | none => rw [hq] at hei; cases hei
      | some e0 => rw [hq] at hei; simp only [Option.map_some, Option.some.injEq, Prod.mk.injEq] at hei; exact ⟨e0, rfl, hei.1⟩
    have hmod : (es.modify i fun e => { e with key := C key, val := D v }).toList.map (fun e => (e.key, e.val)) = (l.modify i fun q => (q.1, v)).map fun q => (C q.1, D q.2) := by
      apply List.ext_getElem?
      intro j
      have hj := congrArg (fun l => l[j]?) he
      simp only [List.getElem?_map] at hj
      simp only [List.getElem?_map, Array.toList_modify, List.getElem?_modify]
      by_cases hij : i = j
      · subst hij
        simp only [if_true]
        rw [hv]
        simp only [Array.getElem?_toList, he0]
        rfl
      · simp only [hij, if_false]
        simpa using hj
    obtain ⟨s1, s2, s3⟩ := map_step (w := w) (m := m) (C := C) (D := D) (c := c) hb hmod
    refine wl_acts ?_ (h _ s1 s2 s3)
    have hst : (Instr.keyThatStays (C key) (C key)).run P w = .ok (C key) w := by
      unfold Instr.keyThatStays
      rw [K.same, if_pos rfl]; simp
    simp only [Acts, execOp, hx, hy, hz, Instr.mapUpdate, Sem.run_bind, run_underlying ht, Result.andThen_ok, MapKept.run_getObj_map hb, K.check, hf, hv, Option.bind_some, Option.map_some, he0, Option.getD_some, hek, hst, run_setObj_map' _ hb, Sem.run_pure]
theorem map_erase {α β : Type} (g : α → β) : ∀ (l : List α) (i : Nat), (l.eraseIdx i).map g = (l.map g).eraseIdx i
  | [], _ => rfl
  | _ :: _, 0 => rfl
  | a :: l, i + 1 => by simp [map_erase g l i]
theorem wl_delete [DecidableEq α] {dd : Tmp} {t kt et at_ : Nat} {x y : Operand} {key : α} (ht : P.underlying t = some (.map kt et)) (K : KeyT P kt C) (hx : evF f x = .map (some m)) (hy : evF f y = C key) (hm : MapB w m C D l) (hd : dd < n)
    (h : ∀ w', MapB w' m C D (del key l) → Chg (· = m) w w' → w'.heap.size = w.heap.size → wl P rd n dm ops rest Q (upd f dd (.tuple #[])) w') : wl P rd n dm ops (⟨some dd, .call ⟨.builtin .delete, #[x, y], #[t, at_]⟩, ty, pos, af, none⟩ :: rest) Q f w := by
  obtain ⟨es, c, hb, he⟩ := hm
  have hf := run_findKey K key es.toList l he w
  rw [del_spot] at h
  cases hs : spot key l with
  | none =>
    rw [hs] at h hf
    obtain ⟨s1, s2, s3⟩ := map_step (w := w) (m := m) (C := C) (D := D) (es := es) (c := c) (l := l) hb he
    refine wl_does ?_ hd (h _ s1 s2 s3)
    simp [Does, execOp, resolve, invoke, builtin, hx, hy, Builtin.delete_, run_underlying ht, MapKept.run_getObj_map hb, K.check, hf, run_setObj_map' _ hb]
  | some i =>
    obtain ⟨v0, hv⟩ := spot_key key l i hs
    rw [hs] at h hf
    have hmod : (es.eraseIdxIfInBounds i).toList.map (fun e => (e.key, e.val)) = (l.eraseIdx i).map fun q => (C q.1, D q.2) := by
      rw [Array.toList_eraseIdxIfInBounds, map_erase, he, ← map_erase]
    obtain ⟨s1, s2, s3⟩ := map_step (w := w) (m := m) (C := C) (D := D) (c := c) hb hmod
    refine wl_does ?_ hd (h _ s1 s2 s3)
    simp [Does, execOp, resolve, invoke, builtin, hx, hy, Builtin.delete_, run_underlying ht, MapKept.run_getObj_map hb, K.check, hf, hv, run_setObj_map' _ hb]
end
end Gw
end Go.Proofs.YtjjkhjieegmphaaDoor
