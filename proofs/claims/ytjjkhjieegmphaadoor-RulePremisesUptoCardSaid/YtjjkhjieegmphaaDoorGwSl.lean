/- Slices: a slice value by its three parts, what it reads as, what the call owns; len, index, literals, append. Over whatever program. -/
import Derived.Test.YtjjkhjieegmphaaDoorGwMem
import Derived.OwnWalk
import Derived.Maps.AppendAt
namespace Go.Proofs.YtjjkhjieegmphaaDoor
open Go.RowKit
/-- a slice value -/
structure SlV where
  p : Option Addr
  n : Nat
  c : Nat
@[irreducible] def SlV.v (x : SlV) : Value := .slice x.p x.n x.c
def SlV.nil : SlV := ⟨none, 0, 0⟩
theorem SlV.eq (x : SlV) : x.v = .slice x.p x.n x.c := by unfold SlV.v; rfl
theorem SlV.nil_eq : Value.slice none 0 0 = SlV.nil.v := by rw [SlV.eq]; rfl
theorem SlV.inj {x y : SlV} (h : x.v = y.v) : x = y := by
  rw [SlV.eq, SlV.eq] at h
  cases x; cases y; simp at h; simp [h]
theorem SlV.one (x : SlV) (v : Value) (h : v = x.v) : v.oneCell' = true := by subst h; rw [SlV.eq]; rfl
/-- a function value -/
inductive FnV where
  | nil
  | mk (fn : Fn) (first captured : Array Value)
def FnV.v : FnV → Value
  | .nil => .nilFunc
  | .mk a b c => .func a b c
theorem FnV.one (x : FnV) (v : Value) (h : v = x.v) : v.oneCell' = true := by subst h; cases x <;> rfl
def SlV.blk (x : SlV) : Nat := match x.p with | some a => a.block | none => 0
def SlV.off (x : SlV) : Nat := match x.p with | some a => a.off | none => 0

/-- the block that a slice points into -/
def SlV.fp (x : SlV) (i : Nat) : Prop := x.p ≠ none ∧ i = x.blk

namespace Gw
/-- the slice x reads as the rows (k cells each), which lie in blocks from lo to hi -/
structure Sl (w : World) (k : Nat) (x : SlV) (rows : List (List Value)) : Prop where
  len : x.n = rows.length
  row : ∀ r ∈ rows, r.length = k
  cells : ∀ i r, rows[i]? = some r → x.p = some ⟨x.blk, x.off, none⟩ ∧ Cells w x.blk (x.off + i * k) r
theorem Sl.nil (w : World) (k : Nat) : Sl w k SlV.nil [] := ⟨rfl, by simp, by simp⟩
theorem Sl.nil' (w : World) (k : Nat) (x : SlV) (h : x.n = 0) : Sl w k x [] := ⟨h, by simp, by simp⟩
theorem Sl.chg {S : Nat → Prop} {w w' : World} {k : Nat} {x : SlV} {rows : List (List Value)} (h : Sl w k x rows) (hc : Chg S w w') (hs : rows ≠ [] → ¬ S x.blk) : Sl w' k x rows :=
  ⟨h.len, h.row, fun i r hi => ⟨(h.cells i r hi).1, (h.cells i r hi).2.chg hc (hs (fun e => by subst e; simp at hi))⟩⟩
theorem Sl.keep {S : Nat → Prop} {w w' : World} {k : Nat} {x : SlV} {rows : List (List Value)} (h : Sl w k x rows) (hc : Chg S w w') (hs : ∀ i, x.fp i → ¬ S i) : Sl w' k x rows :=
  h.chg hc (fun hne => hs _ ⟨by cases rows with | nil => exact absurd rfl hne | cons r l => rw [(h.cells 0 r rfl).1]; simp, rfl⟩)
theorem Sl.ext {w w' : World} {k : Nat} {x : SlV} {rows : List (List Value)} (h : Sl w k x rows) (hc : Ext w w') : Sl w' k x rows := h.chg hc (fun _ x => x)
theorem Sl.lt {w : World} {k : Nat} {x : SlV} {rows : List (List Value)} (h : Sl w (k + 1) x rows) (hr : rows ≠ []) : x.blk < w.heap.size := by
  cases rows with
  | nil => exact absurd rfl hr
  | cons r l =>
    have h1 := h.row r (by simp)
    have h2 := (h.cells 0 r rfl).2
    cases r with
    | nil => simp at h1
    | cons v r => exact World.block_lt_of_cell? (a := ⟨x.blk, _, none⟩) w (h2 0 v rfl)

section
variable {P : Program} {f : Fr} {w : World} {d : Option Tmp} {ty : TypeId} {pos : String} {af : Array Edge} {gd : Option (Nat × Bool)}
theorem does_mv_l {x : Operand} {s : SlV} (h : evF f x = s.v) : Does P ⟨d, .move x, ty, pos, af, gd⟩ f w s.v w := does_move h
theorem does_as_l {x : Operand} {s : SlV} (h : evF f x = s.v) : Does P ⟨d, .assign x, ty, pos, af, gd⟩ f w s.v w := does_assign h
theorem does_as_nil : Does P ⟨d, .assign (.const (.slice none 0 0)), ty, pos, af, gd⟩ f w SlV.nil.v w := does_assign (by rw [evF_const, SlV.nil_eq])
theorem does_mv_nil : Does P ⟨d, .move (.const (.slice none 0 0)), ty, pos, af, gd⟩ f w SlV.nil.v w := does_move (by rw [evF_const, SlV.nil_eq])
theorem does_lenS {x : Operand} {t e k : Nat} {s : SlV} (ht : SliceT P t e k) (hx : evF f x = s.v) : Does P ⟨d, .call ⟨.builtin .len, #[x], #[t]⟩, ty, pos, af, gd⟩ f w (.int .i64 s.n) w :=
  does_len ht (by rw [hx, SlV.eq])
theorem does_indexS {x y : Operand} {t e k o' : Nat} {kd : IntKind} {i : Int} {s : SlV} {rows : List (List Value)} (ht : SliceT P t e k) (hx : evF f x = s.v) (hy : evF f y = .int kd i) (hS : Sl w k s rows) (h0 : 0 ≤ i) (h1 : i < rows.length)
    (ho : s.off + i.toNat * k = o') : Does P ⟨d, .indexAddr t x y, ty, pos, af, gd⟩ f w (.pointer (some ⟨s.blk, o', none⟩)) w := by
  have hlt : i.toNat < rows.length := by omega
  have hp := (hS.cells i.toNat _ (List.getElem?_eq_getElem hlt)).1
  exact does_indexSl (len := s.n) (cap := s.c) ht (by rw [hx, SlV.eq, hp]) hy h0 (by rw [hS.len]; exact h1) ho

variable {rd : Option Nat} {n : Nat} {dm : List Nat} {ops : Array Oper} {Q : Post} {rest : List Oper}

/-- parts laid one behind the other -/
theorem fill_seq (place : Nat → Option (Nat × Nat)) : ∀ (parts : List (Nat × Value)) (pre : List Value) (post : List Value) (m : Nat),
    (∀ j q, parts[j]? = some q → q.1 = m + j ∧ place (m + j) = some (pre.length + ((parts.take j).map (fun q => q.2.cells.size)).sum, q.2.cells.size)) →
    post.length = (parts.map (fun q => q.2.cells.size)).sum →
    Instr.fill place (pre ++ post).toArray parts = some (pre ++ (parts.map (fun q => q.2.cells.toList)).flatten).toArray
  | [], pre, post, m, _, hp => by
    have : post = [] := List.eq_nil_of_length_eq_zero (by simpa using hp)
    subst this
    simp [Instr.fill]
  | (i, v) :: rest, pre, post, m, h, hp => by
    have h0 := h 0 (i, v) rfl
    simp only [List.take_zero, List.map_nil, List.sum_nil, Nat.add_zero] at h0
    obtain ⟨rfl, hpl⟩ := h0
    have hlen : v.cells.size ≤ post.length := by simp at hp; omega
    have hset : ∀ (vs : List Value) (k : Nat) (a : List Value) (c : List Value), vs.length ≤ c.length → (vs.zipIdx k).foldl (fun (cs : Array Value) (q : Value × Nat) => cs.setIfInBounds (a.length - k + q.2) q.1) (a ++ c).toArray = (a ++ vs ++ c.drop vs.length).toArray ∨ a.length < k := by
      intro vs
      induction vs with
      | nil => intro k a c _; left; simp
      | cons u us ih =>
        intro k a c hc
        by_cases hk : a.length < k
        · exact Or.inr hk
        · left
          cases c with
          | nil => simp at hc
          | cons c0 c =>
            have e1 : a.length - k + k = a.length := by omega
            simp only [List.zipIdx_cons, List.foldl_cons, e1]
            have e2 : (a ++ c0 :: c).toArray.setIfInBounds a.length u = ((a ++ [u]) ++ c).toArray := by simp
            rw [e2]
            have := ih (k + 1) (a ++ [u]) c (by simpa using hc)
            rcases this with h1 | h1
            · have e3 : (a ++ [u]).length - (k + 1) = a.length - k := by simp
              rw [e3] at h1
              rw [h1]
              simp
            · simp at h1; omega
    rw [Instr.fill, hpl]
    simp only [ne_eq, not_true_eq_false]
    rw [if_neg (by simp; omega)]
    have e4 := hset v.cells.toList 0 pre post (by simpa using hlen)
    rcases e4 with e4 | e4
    · have e5 : (v.cells.zipIdx.foldl (fun cs (c, j) => cs.setIfInBounds (pre.length + j) c) (pre ++ post).toArray) = (pre ++ v.cells.toList ++ post.drop v.cells.size).toArray := by
        rw [← Array.foldl_toList, Array.toList_zipIdx]
        simpa using e4
      rw [e5]
      have := fill_seq place rest (pre ++ v.cells.toList) (post.drop v.cells.size) (i + 1) (fun j q hj => by
        have := h (j + 1) q (by simpa using hj)
        simp only [List.take_succ_cons, List.map_cons, List.sum_cons] at this
        refine ⟨by omega, ?_⟩
        rw [show i + 1 + j = i + (j + 1) by omega, this.2]
        simp; omega) (by simp at hp ⊢; omega)
      rw [this]
      simp
    · omega

/-- a slice literal all of whose elements are told, in order -/
theorem does_buildSlice {dd : Tmp} {gd : Option (Nat × Bool)} {t e k len : Nat} {parts : Array (Nat × Operand)} {vs : List Value} {rows : List (List Value)} (ht : SliceT P t e k) (hz : ∃ z, (P.info? e).bind (·.zero) = some z)
    (hv : parts.toList.map (fun q => (q.1, evF f q.2)) = vs.zipIdx.map (fun q => (q.2, q.1))) (hr : vs.map (fun v => v.cells.toList) = rows) (hk : ∀ r ∈ rows, r.length = k) (hlen : rows.length = len) (h24 : len * k ≤ 16777216) :
    ∃ w', Does P ⟨some dd, .buildSlice t len parts, ty, pos, af, gd⟩ f w (⟨some ⟨w.heap.size, 0, none⟩, len, len⟩ : SlV).v w' ∧ New w w' w.heap.size e rows.flatten := by
  obtain ⟨z, hz⟩ := hz
  subst hr
  have hvl : vs.length = len := by simpa using hlen
  have hsum : ∀ (l : List Value), (∀ v ∈ l, v.cells.size = k) → (l.map (fun v => v.cells.size)).sum = l.length * k := by
    intro l
    induction l with
    | nil => intro _; simp
    | cons v l ih => intro hl; simp [ih (fun x hx => hl x (by simp [hx])), hl v (by simp), Nat.add_mul]; omega
  have hk' : ∀ v ∈ vs, v.cells.size = k := fun v hv => by
    have := hk v.cells.toList (by simp only [List.mem_map]; exact ⟨v, hv, rfl⟩)
    simpa using this
  have hfill : ∀ zc : Array Value, zc.size = len * k → Instr.fill (fun i => some (i * k, k)) zc (vs.zipIdx.map (fun q => (q.2, q.1))) = some (vs.map (fun v => v.cells.toList)).flatten.toArray := by
    intro zc hzc
    have h1 := fill_seq (fun i => some (i * k, k)) (vs.zipIdx.map (fun q => (q.2, q.1))) [] zc.toList 0 (fun j q hj => by
      simp only [List.getElem?_map, List.getElem?_zipIdx, Option.map_map, Option.map_eq_some_iff] at hj
      obtain ⟨v, hj, rfl⟩ := hj
      have hjl : j < vs.length := (List.getElem?_eq_some_iff.1 hj).1
      have hvm : v ∈ vs := List.mem_of_getElem? hj
      refine ⟨by simp, ?_⟩
      have e1 : ((vs.zipIdx.map (fun q : Value × Nat => (q.2, q.1))).take j).map (fun q => q.2.cells.size) = (vs.take j).map (fun v => v.cells.size) := by
        rw [← List.map_take, List.map_map]
        have : (vs.zipIdx.take j).map Prod.fst = vs.take j := by rw [List.map_take]; simp [List.zipIdx_map_fst]
        rw [← this, List.map_map]
        rfl
      rw [e1, hsum (vs.take j) (fun x hx => hk' x (List.mem_of_mem_take hx))]
      simp [List.length_take, hk' v hvm]
      rw [Nat.min_eq_left (by omega)]) (by
      have e1 : (vs.zipIdx.map (fun q : Value × Nat => (q.2, q.1))).map (fun q => q.2.cells.size) = vs.map (fun v => v.cells.size) := by
        rw [List.map_map]
        have : vs.zipIdx.map Prod.fst = vs := by simp [List.zipIdx_map_fst]
        conv => rhs; rw [← this, List.map_map]
        rfl
      rw [e1, hsum vs hk']
      simp [hzc, hvl])
    simp only [List.nil_append, Array.toArray_toList] at h1
    rw [h1]
    congr 2
    rw [List.map_map]
    have : vs.zipIdx.map Prod.fst = vs := by simp [List.zipIdx_map_fst]
    conv => rhs; rw [← this, List.map_map]
    rfl
  refine ⟨w.alloc (.cells (vs.map (fun v => v.cells.toList)).flatten.toArray e), ?_, ⟨rfl, rfl⟩⟩
  unfold Does
  show (execOp (evF f) _).run P w = _
  unfold execOp
  have hp : (parts.map fun q => (q.1, evF f q.2)).toList = vs.zipIdx.map (fun q => (q.2, q.1)) := by rw [Array.toList_map]; exact hv
  simp only [Instr.buildSlice, Sem.run_bind, run_underlying ht.1, Result.andThen_ok, run_sizeOf ht.2]
  rw [if_neg (by simpa using Nat.not_lt.2 h24)]
  have hzero : (zeroValue e).run P w = .ok z w := by
    cases hq : P.info? e with
    | none => simp [hq] at hz
    | some i =>
      have : i.zero = some z := by simpa [hq] using hz
      simp [zeroValue, typeInfo, hq, this]
  by_cases h0 : len * k = 0
  · simp only [h0, if_true, Sem.run_pure, Result.andThen_ok, Sem.run_bind]
    rw [show (Array.map (fun x => (x.fst, evF f x.snd)) parts).toList = _ from hp, hfill _ (by simp [h0])]
    simp [newRow, SlV.eq]
  · simp only [h0, if_false, Sem.run_bind, hzero, Result.andThen_ok, Sem.run_pure]
    rw [show (Array.map (fun x => (x.fst, evF f x.snd)) parts).toList = _ from hp, hfill _ (by simp)]
    simp [newRow, SlV.eq]

theorem wl_buildSlice {dd : Tmp} {t e k len : Nat} {parts : Array (Nat × Operand)} {vs : List Value} {rows : List (List Value)} (ht : SliceT P t e k) (hz : ∃ z, (P.info? e).bind (·.zero) = some z)
    (hv : parts.toList.map (fun q => (q.1, evF f q.2)) = vs.zipIdx.map (fun q => (q.2, q.1))) (hr : vs.map (fun v => v.cells.toList) = rows) (hk : ∀ r ∈ rows, r.length = k) (hlen : rows.length = len) (h24 : len * k ≤ 16777216) (hd : dd < n)
    (h : ∀ b w' (s : SlV), New w w' b e rows.flatten → s = ⟨some ⟨b, 0, none⟩, len, len⟩ → wl P rd n dm ops rest Q (upd f dd s.v) w') : wl P rd n dm ops (⟨some dd, .buildSlice t len parts, ty, pos, af, none⟩ :: rest) Q f w := by
  obtain ⟨w', h1, h2⟩ := does_buildSlice (P := P) (f := f) (w := w) (dd := dd) (ty := ty) (pos := pos) (af := af) (gd := none) ht hz hv hr hk hlen h24
  exact wl_does h1 hd (h _ _ _ h2 rfl)

/-- one element -/
theorem wl_lit1 {dd : Tmp} {t e k : Nat} {x : Operand} {v : Value} {r : List Value} (ht : SliceT P t e k) (hz : ∃ z, (P.info? e).bind (·.zero) = some z) (hx : evF f x = v) (hr : v.cells = r.toArray) (hk : r.length = k) (h24 : k ≤ 16777216) (hd : dd < n)
    (h : ∀ b w' (s : SlV), New w w' b e r → s = ⟨some ⟨b, 0, none⟩, 1, 1⟩ → wl P rd n dm ops rest Q (upd f dd s.v) w') : wl P rd n dm ops (⟨some dd, .buildSlice t 1 #[(0, x)], ty, pos, af, none⟩ :: rest) Q f w :=
  wl_buildSlice (vs := [v]) (rows := [r]) ht hz (by simp [hx]) (by simp [hr]) (by simpa using hk) rfl (by simpa using h24) hd (fun b w' s hn hs => h b w' s (by simpa using hn) hs)
/-- two elements -/
theorem wl_lit2 {dd : Tmp} {t e k : Nat} {x y : Operand} {v u : Value} {r q : List Value} (ht : SliceT P t e k) (hz : ∃ z, (P.info? e).bind (·.zero) = some z) (hx : evF f x = v) (hy : evF f y = u) (hr : v.cells = r.toArray) (hq : u.cells = q.toArray) (hk : r.length = k) (hkq : q.length = k) (h24 : 2 * k ≤ 16777216) (hd : dd < n)
    (h : ∀ b w' (s : SlV), New w w' b e (r ++ q) → s = ⟨some ⟨b, 0, none⟩, 2, 2⟩ → wl P rd n dm ops rest Q (upd f dd s.v) w') : wl P rd n dm ops (⟨some dd, .buildSlice t 2 #[(0, x), (1, y)], ty, pos, af, none⟩ :: rest) Q f w :=
  wl_buildSlice (vs := [v, u]) (rows := [r, q]) ht hz (by simp [hx, hy]) (by simp [hr, hq]) (by simp [hk, hkq]) rfl h24 hd (fun b w' s hn hs => h b w' s (by simpa using hn) hs)

/-- a block made new, read as a slice -/
theorem Sl.of_blk {w : World} {b e k m c : Nat} {rows : List (List Value)} (hb : Blk w b e rows.flatten) (hk : ∀ r ∈ rows, r.length = k) (hm : m = rows.length) : Sl w k ⟨some ⟨b, 0, none⟩, m, c⟩ rows := by
  refine ⟨hm, hk, fun i r hi => ⟨rfl, ?_⟩⟩
  have hflat : ∀ (rows : List (List Value)) (i : Nat) (r : List Value), (∀ r ∈ rows, r.length = k) → rows[i]? = some r → (rows.flatten.drop (i * k)).take k = r := by
    intro rows
    induction rows with
    | nil => intro i r _ h; simp at h
    | cons r0 rows ih =>
      intro i r hk h
      have h0 := hk r0 (by simp)
      cases i with
      | zero =>
        simp at h; subst h
        simp [h0]
      | succ i =>
        have := ih i r (fun r hr => hk r (by simp [hr])) (by simpa using h)
        rw [List.flatten_cons, show (i + 1) * k = r0.length + i * k by rw [h0, Nat.add_mul]; omega, List.drop_append, List.drop_eq_nil_of_le (by omega), List.nil_append, Nat.add_sub_cancel_left]
        exact this
  have := Blk.cells hb (o := i * k) (k := k) (hflat rows i r hk hi)
  simpa [SlV.blk, SlV.off] using this

-- append
/-- the rows' cells, one behind the other -/
theorem flat_rows {k : Nat} : ∀ {rows : List (List Value)}, (∀ r ∈ rows, r.length = k) → rows.flatten.length = rows.length * k
  | [], _ => by simp
  | a :: l, h => by simp [flat_rows (rows := l) fun r hr => h r (by simp [hr]), h a (by simp), Nat.add_mul]; omega
theorem flat_at {k : Nat} (rows : List (List Value)) (i : Nat) (r : List Value) (j : Nat) (hj : j < k) (hk : ∀ r ∈ rows, r.length = k) (h : rows[i]? = some r) : rows.flatten[i * k + j]? = r[j]? := by
  induction rows generalizing i with
  | nil => simp at h
  | cons r0 rows ih =>
    have h0 := hk r0 (by simp)
    cases i with
    | zero =>
      simp at h; subst h
      rw [List.flatten_cons, List.getElem?_append_left (by omega)]
      simp
    | succ i =>
      have := ih i (fun r hr => hk r (by simp [hr])) (by simpa using h)
      rw [List.flatten_cons, List.getElem?_append_right (by rw [h0, Nat.add_mul]; omega)]
      rw [← this]
      congr 1
      rw [h0, Nat.add_mul]; omega
/-- the call owns the slice: it lies at the begin of a block, and may be written behind its end, as far as its room goes -/
structure Own (w : World) (lo e k : Nat) (x : SlV) (rows : List (List Value)) : Prop where
  own : (x = SlV.nil ∧ rows = []) ∨ ∃ g cap cur, x = ⟨some ⟨g, 0, none⟩, rows.length, cap⟩ ∧ lo ≤ g ∧ w.heap[g]? = some (.cells cur e (0, 0)) ∧ rows.length ≤ cap ∧ cap * k ≤ cur.size ∧ cur.toList.take (rows.length * k) = rows.flatten
  row : ∀ r ∈ rows, r.length = k
theorem Own.nil (w : World) (lo e k : Nat) : Own w lo e k SlV.nil [] := ⟨.inl ⟨rfl, rfl⟩, by simp⟩
theorem Own.of {w : World} {lo e k : Nat} {x : SlV} {rows : List (List Value)} (h : w.ownsRow lo e k x.v rows.length rows.flatten) (hr : ∀ r ∈ rows, r.length = k) : Own w lo e k x rows := by
  refine ⟨?_, hr⟩
  rcases h.2 with ⟨hv, hn⟩ | ⟨g, cap, cur, hv, hg, hh, hnc, hm, hs, ht⟩
  · left
    rw [SlV.nil_eq] at hv
    exact ⟨SlV.inj hv, List.eq_nil_of_length_eq_zero hn⟩
  · exact .inr ⟨g, cap, cur, SlV.inj (by rw [hv, SlV.eq]), hg, hh, hnc, by omega, ht⟩
theorem Own.shape {w : World} {lo e k : Nat} {x : SlV} {rows : List (List Value)} (h : Own w lo e k x rows) : (x = SlV.nil ∧ rows = []) ∨ (x.p = some ⟨x.blk, 0, none⟩ ∧ x.n = rows.length ∧ lo ≤ x.blk ∧ x.blk < w.heap.size ∧ ∀ j v, rows.flatten[j]? = some v → w.cell? ⟨x.blk, j, none⟩ = some v) := by
  rcases h.own with h0 | ⟨g, cap, cur, rfl, hg, hh, _, _, ht⟩
  · exact .inl h0
  · right
    refine ⟨rfl, rfl, hg, (Array.getElem?_eq_some_iff.1 hh).1, fun j v hj => ?_⟩
    show w.cell? ⟨g, j, none⟩ = _
    rw [cell_of_row w g j cur e _ hh]
    rw [← ht] at hj
    rw [List.getElem?_take] at hj
    split at hj
    · simpa using hj
    · cases hj
theorem Own.sl {w : World} {lo e k : Nat} {x : SlV} {rows : List (List Value)} (h : Own w lo e k x rows) : Sl w k x rows := by
  rcases h.shape with ⟨rfl, rfl⟩ | ⟨hp, hn, _, _, hc⟩
  · exact Sl.nil w k
  · refine ⟨hn, h.row, fun i r hi => ?_⟩
    have ho : x.off = 0 := by unfold SlV.off; rw [hp]
    rw [ho]
    refine ⟨hp, fun j v hj => ?_⟩
    have hjk : j < k := by rw [← h.row r (List.mem_of_getElem? hi)]; exact (List.getElem?_eq_some_iff.1 hj).1
    rw [Nat.zero_add]
    refine hc _ _ ?_
    rw [flat_at rows i r j hjk h.row hi]
    exact hj
theorem Own.chg {S : Nat → Prop} {w w' : World} {lo e k : Nat} {x : SlV} {rows : List (List Value)} (h : Own w lo e k x rows) (hc : Chg S w w') (hs : rows ≠ [] ∨ x.p ≠ none → ¬ S x.blk) : Own w' lo e k x rows := by
  refine ⟨?_, h.row⟩
  rcases h.own with h0 | ⟨g, cap, cur, rfl, hg, hh, r⟩
  · exact .inl h0
  · refine .inr ⟨g, cap, cur, rfl, hg, ?_, r⟩
    rw [hc.block g (Array.getElem?_eq_some_iff.1 hh).1 (hs (Or.inr (by simp)))]
    exact hh
theorem Own.keep {S : Nat → Prop} {w w' : World} {lo e k : Nat} {x : SlV} {rows : List (List Value)} (h : Own w lo e k x rows) (hc : Chg S w w') (hs : ∀ i, x.fp i → ¬ S i) : Own w' lo e k x rows :=
  h.chg hc (fun hne => hs _ ⟨by rcases h.shape with ⟨rfl, rfl⟩ | ⟨hp, _⟩ <;> simp_all [SlV.nil], rfl⟩)
theorem Own.lt {w : World} {lo e k : Nat} {x : SlV} {rows : List (List Value)} (h : Own w lo e k x rows) : ∀ i, x.fp i → i < w.heap.size := by
  rintro i ⟨h1, rfl⟩
  rcases h.shape with ⟨rfl, rfl⟩ | ⟨hp, _, _, hl, _⟩
  · exact absurd rfl h1
  · exact hl
theorem Own.ext {w w' : World} {lo e k : Nat} {x : SlV} {rows : List (List Value)} (h : Own w lo e k x rows) (hc : Ext w w') : Own w' lo e k x rows := h.chg hc (fun _ x => x)
theorem Own.mono {w : World} {lo lo' e k : Nat} {x : SlV} {rows : List (List Value)} (h : Own w lo e k x rows) (hl : lo' ≤ lo) : Own w lo' e k x rows := by
  refine ⟨?_, h.row⟩
  rcases h.own with h0 | ⟨g, cap, cur, h1, hg, r⟩
  · exact .inl h0
  · exact .inr ⟨g, cap, cur, h1, Nat.le_trans hl hg, r⟩
theorem Own.room {w : World} {lo e k : Nat} {x : SlV} {rows : List (List Value)} (h : Own w lo e k x rows) : x.n ≤ x.c := by
  rcases h.own with ⟨rfl, _⟩ | ⟨g, cap, cur, rfl, _, _, h1, _⟩
  · exact Nat.le_refl _
  · exact h1
/-- the begin of it, with room up to c -/
theorem Own.pre {w : World} {lo e k : Nat} {x : SlV} {rows : List (List Value)} (h : Own w lo e k x rows) {i c : Nat} (hi : i ≤ rows.length) (hic : i ≤ c) (hc : c ≤ x.c) : Own w lo e k ⟨x.p, i, c⟩ (rows.take i) := by
  have hl : (rows.take i).length = i := by simp [hi]
  refine ⟨?_, fun r hr => h.row r (List.mem_of_mem_take hr)⟩
  rcases h.own with ⟨rfl, rfl⟩ | ⟨g, cap, cur, rfl, hg, hh, h1, h2, h3⟩
  · have hi0 : i = 0 := by simpa using hi
    have hc0 : c = 0 := Nat.le_zero.1 hc
    subst hi0 hc0
    exact .inl ⟨rfl, rfl⟩
  · refine .inr ⟨g, c, cur, by rw [hl], hg, hh, by rw [hl]; exact hic, Nat.le_trans (Nat.mul_le_mul_right k hc) h2, ?_⟩
    rw [hl]
    have e1 : (rows.take i).flatten = rows.flatten.take (i * k) := by
      have := List.take_append_drop i rows
      conv => rhs; rw [← this, List.flatten_append]
      have hfl := flat_rows (k := k) (rows := rows.take i) fun r hr => h.row r (List.mem_of_mem_take hr)
      rw [hl] at hfl
      rw [← hfl, List.take_left]
    rw [e1, ← h3, List.take_take]
    congr 1
    exact (Nat.min_eq_left (Nat.mul_le_mul_right k hi)).symm

/-- the elements' type: k cells, so many bytes -/
def ElemT (P : Program) (e k bytes : Nat) : Prop := ∃ i z, P.info? e = some i ∧ i.zero = some z ∧ i.size = k ∧ i.bytes = bytes ∧ z.cells.size = k ∧ 0 < k
theorem ElemT.of {e k bytes : Nat} {z : Value} (h : (P.info? e).map (fun i => (i.zero, i.size, i.bytes)) = some (some z, k, bytes)) (hz : z.cells.size = k) (hk : 0 < k) : ElemT P e k bytes := by
  obtain ⟨i, h1, h2, h3, h4⟩ := info_parts h
  exact ⟨i, z, h1, h2, h3, h4, hz, hk⟩
theorem ElemT.zero {e k bytes : Nat} (h : ElemT P e k bytes) : ∃ z, (P.info? e).bind (·.zero) = some z := by
  obtain ⟨i, z, hi, hz, _⟩ := h
  exact ⟨z, by simp [hi, hz]⟩
theorem wl_append {dd : Tmp} {t e k bytes lo : Nat} {x y : Operand} {s r : SlV} {rows news : List (List Value)} (ht : SliceT P t e k) (he : ElemT P e k bytes) (hx : evF f x = s.v) (hy : evF f y = r.v) (hs : Own w lo e k s rows) (hr : Sl w k r news) (hne : news ≠ [])
    (h1 : ∀ l ∈ news, ∀ v ∈ l, v.oneCell' = true) (hm : (rows.length + news.length) * bytes ≤ 140737488355328) (hm2 : rows.length + news.length ≤ 140737488355328) (hlo : lo ≤ w.heap.size) (hd : dd < n)
    (h : ∀ (s' : SlV) w', Own w' lo e k s' (rows ++ news) → Chg s.fp w w' → (∀ i, s'.fp i → s.fp i ∨ w.heap.size ≤ i) → wl P rd n dm ops rest Q (upd f dd s'.v) w') : wl P rd n dm ops (⟨some dd, .call ⟨.builtin .append, #[x, y], #[t, t]⟩, ty, pos, af, none⟩ :: rest) Q f w := by
  obtain ⟨i, z, hi, hz, hsz, hby, hzs, hk0⟩ := he
  have hp : r.p = some ⟨r.blk, r.off, none⟩ := by
    cases news with
    | nil => exact absurd rfl hne
    | cons l news => exact (hr.cells 0 l rfl).1
  have hnl : news.flatten.length = news.length * k := flat_rows hr.row
  have hol : rows.flatten.length = rows.length * k := flat_rows hs.row
  have hpos : 0 < news.length := List.length_pos_iff.2 hne
  have hnews : ∀ j u, news.flatten[j]? = some u → w.cell? ((⟨r.blk, r.off, none⟩ : Addr).add j) = some u := by
    intro j u hj
    rw [add_addr]
    have hlt : j < news.length * k := by rw [← hnl]; exact (List.getElem?_eq_some_iff.1 hj).1
    have hq : j / k < news.length := Nat.div_lt_of_lt_mul (by rw [Nat.mul_comm]; exact hlt)
    have hc := (hr.cells (j / k) _ (List.getElem?_eq_getElem hq)).2
    have hmod : j % k < k := Nat.mod_lt _ hk0
    have hf := flat_at news (j / k) _ (j % k) hmod hr.row (List.getElem?_eq_getElem hq)
    rw [Nat.div_add_mod' j k, hj] at hf
    have := hc (j % k) u hf.symm
    rw [Nat.add_assoc, Nat.div_add_mod' j k] at this
    exact this
  have hrow : ∀ l ∈ rows ++ news, l.length = k := fun l hl => (List.mem_append.1 hl).elim (hs.row l) (hr.row l)
  have hwrap : ∀ (s' : SlV) w', (Builtin.append_ #[t, t] ty #[s.v, .slice (some ⟨r.blk, r.off, none⟩) news.length r.c]).run P w = .ok s'.v w' → Does P ⟨some dd, .call ⟨.builtin .append, #[x, y], #[t, t]⟩, ty, pos, af, none⟩ f w s'.v w' := by
    intro s' w' hrun
    unfold Does
    show (execOp (evF f) _).run P w = _
    unfold execOp
    have hrv : r.v = .slice (some ⟨r.blk, r.off, none⟩) news.length r.c := by rw [SlV.eq, hp, hr.len]
    simp only [resolve, invoke, builtin, Sem.run_bind, Sem.run_pure, Result.andThen_ok, List.map_toArray, List.map_cons, List.map_nil, hx, hy]
    rw [hrv, hrun]
    rfl
  -- a block of its own
  have fresh : ∀ (old : Nat), (Builtin.append_ #[t, t] ty #[s.v, .slice (some ⟨r.blk, r.off, none⟩) news.length r.c]).run P w = .ok (.slice (some ⟨w.heap.size, 0, none⟩) (rows.length + news.length) (grownCap w (rows.length + news.length) old e)) (w.drew.alloc (.cells (rows.flatten.toArray ++ news.flatten.toArray ++ Builtin.zeroCells z.cells (grownCap w (rows.length + news.length) old e - (rows.length + news.length))) e)) → wl P rd n dm ops (⟨some dd, .call ⟨.builtin .append, #[x, y], #[t, t]⟩, ty, pos, af, none⟩ :: rest) Q f w := by
    intro old hr2
    have hge := grownCap_ge w (rows.length + news.length) old e
    refine wl_does (v := (⟨some ⟨w.heap.size, 0, none⟩, rows.length + news.length, grownCap w (rows.length + news.length) old e⟩ : SlV).v) (hwrap _ _ (by simp only [SlV.eq] at hr2 ⊢; exact hr2)) hd (h _ _ ⟨.inr ⟨w.heap.size, grownCap w (rows.length + news.length) old e, _, by simp, hlo, heap_alloc_new w.drew _, by simpa using hge, ?_, ?_⟩, hrow⟩ ⟨rfl, rfl, rfl, by simp, fun b hb _ => heap_alloc_old (w := w.drew) (h := hb) .., froz_alloc w.drew _ (thawed.cells _ _)⟩ (fun j hj => .inr (Nat.le_of_eq hj.2.symm)))
    · simp only [Array.size_append, List.size_toArray, size_zeroCells, hzs, hol, hnl, ← Nat.add_mul]
      exact Nat.mul_le_mul_right k (by omega)
    · simp only [Array.toList_append, List.append_assoc, List.flatten_append, List.length_append]
      rw [← List.append_assoc, Nat.add_mul, ← hol, ← hnl, ← List.length_append]
      exact List.take_left
  rcases hs.own with ⟨rfl, rfl⟩ | ⟨g, cap, cur, rfl, hg, hh, hnc, hcs, htake⟩
  · have hr2 := run_append_nil (P := P) w t ty e i z ht.1 hi hz ⟨r.blk, r.off, none⟩ news.length r.c news.flatten (by rw [hnl, hsz]) hnews hpos (by omega) (by have := hm; simp only [List.length_nil, Nat.zero_add] at this; rw [hby]; omega)
    refine fresh 0 ?_
    rw [← SlV.nil_eq]
    simpa using hr2
  · by_cases hroom : rows.length + news.length ≤ cap
    · have hfit : rows.length * i.size + news.flatten.length ≤ cur.size := by rw [hnl, hsz, ← Nat.add_mul]; exact Nat.le_trans (Nat.mul_le_mul_right _ hroom) hcs
      have hr2 := run_append_room (P := P) w t ty e i ht.1 hi g rows.length cap cur hh ⟨r.blk, r.off, none⟩ news.length r.c news.flatten (by rw [hnl, hsz]) hnews (fun u hu => by obtain ⟨l, hl, hul⟩ := List.mem_flatten.1 hu; exact h1 l hl u hul) hroom hfit
      rw [hsz] at hr2 hfit
      refine wl_does (v := (⟨some ⟨g, 0, none⟩, rows.length + news.length, cap⟩ : SlV).v) (hwrap _ _ (by simp only [SlV.eq] at hr2 ⊢; exact hr2)) hd (h _ _ ⟨.inr ⟨g, cap, _, by simp, hg, setRow_heap w g cur _ e _ hh, by simpa using hroom, ?_, ?_⟩, hrow⟩ ⟨rfl, rfl, rfl, by simp, fun b hb hS => setRow_other w g b _ (fun e => hS ⟨by simp, e⟩), froz_at g (by rw [setRow_heap w g cur _ e _ hh]; exact thawed.cells _ _) (by rw [hh]; exact thawed.cells _ _) fun k hk => setRow_other w g k _ hk⟩ (fun j hj => .inl hj))
      · simp only [List.size_toArray, List.length_append, List.length_take, List.length_drop, Array.length_toList]
        omega
      · rw [htake, List.flatten_append, List.length_append, Nat.add_mul, ← hol, ← hnl, ← List.length_append]
        exact List.take_left
    · have holds : ∀ j u, rows.flatten[j]? = some u → w.cell? ((⟨g, 0, none⟩ : Addr).add j) = some u := by
        intro j u hj
        rw [add_addr, Nat.zero_add, cell_of_row w g j cur e _ hh]
        rw [← htake, List.getElem?_take] at hj
        split at hj
        · simpa using hj
        · cases hj
      have hr2 := run_append_grow (P := P) w t ty e i z ht.1 hi hz ⟨g, 0, none⟩ rows.length cap rows.flatten (by rw [hsz]; exact hol) holds ⟨r.blk, r.off, none⟩ news.length r.c news.flatten (by rw [hnl, hsz]) hnews (by omega) (by omega) (growslice_fits (by omega) (by rw [hby]; exact hm))
      exact fresh cap (by rw [SlV.eq]; exact hr2)

-- what is read, and what is pushed, by typed lists
/-- a slice that may be read -/
structure Rd (w : World) (k : Nat) (x : SlV) (rows : List (List Value)) : Prop where
  sl : Sl w k x rows
  lt : ∀ i, x.fp i → i < w.heap.size
  room : x.n ≤ x.c
theorem Rd.ext {w w' : World} {k : Nat} {x : SlV} {rows : List (List Value)} (h : Rd w k x rows) (hc : Ext w w') : Rd w' k x rows := ⟨h.sl.ext hc, fun i hi => Nat.lt_of_lt_of_le (h.lt i hi) hc.size, h.room⟩
theorem Rd.keep {S : Nat → Prop} {w w' : World} {k : Nat} {x : SlV} {rows : List (List Value)} (h : Rd w k x rows) (hc : Chg S w w') (hs : ∀ i, x.fp i → ¬ S i) : Rd w' k x rows := ⟨h.sl.keep hc hs, fun i hi => Nat.lt_of_lt_of_le (h.lt i hi) hc.size, h.room⟩
theorem Own.toRd {w : World} {lo e k : Nat} {x : SlV} {rows : List (List Value)} (h : Own w lo e k x rows) : Rd w k x rows := ⟨h.sl, h.lt, h.room⟩
theorem Rd.at {α : Type} {C : α → List Value} {w : World} {k : Nat} {x : SlV} {l : List α} (h : Rd w k x (l.map C)) {i : Nat} {a : α} (hi : l[i]? = some a) : Cells w x.blk (x.off + i * k) (C a) :=
  (h.sl.cells i (C a) (by simp [hi])).2
theorem Rd.one {α : Type} {C : α → List Value} {w : World} {k : Nat} {x : SlV} {l : List α} (h : Rd w k x (l.map C)) {i : Nat} {a : α} {v : Value} (hi : l[i]? = some a) (hv : C a = [v]) : w.cell? ⟨x.blk, x.off + i * k, none⟩ = some v := by
  have := h.at hi 0 v (by rw [hv]; rfl)
  simpa using this
theorem Rd.len {α : Type} {C : α → List Value} {w : World} {k : Nat} {x : SlV} {l : List α} (h : Rd w k x (l.map C)) : (x.n : Int) = (l.length : Int) := by rw [h.sl.len]; simp
theorem Blk.rd1 {α : Type} {C : α → List Value} {w : World} {b et k c : Nat} {r : SlV} {a : α} (hb : Blk w b et (C a)) (hk : (C a).length = k) (hr : r = ⟨some ⟨b, 0, none⟩, 1, c⟩) (hc : 1 ≤ c := by decide) : Rd w k r ([a].map C) := by
  subst hr
  exact ⟨Sl.of_blk (by simpa using hb) (by simpa using hk) rfl, fun i hi => by have := hb.lt; have := hi.2; subst this; exact hb.lt, hc⟩
theorem Blk.rdl {α : Type} {C : α → List Value} {w : World} {b et k n c : Nat} {r : SlV} {l : List α} (hb : Blk w b et (l.map C).flatten) (hk : ∀ a ∈ l, (C a).length = k) (hr : r = ⟨some ⟨b, 0, none⟩, n, c⟩) (hn : n = l.length) (hc : n ≤ c := by decide) : Rd w k r (l.map C) := by
  subst hr hn
  exact ⟨Sl.of_blk hb (by simpa using hk) (by simp), fun i hi => by have := hb.lt; have := hi.2; subst this; exact hb.lt, hc⟩
theorem fp_at {r : SlV} {b n c : Nat} (hr : r = ⟨some ⟨b, 0, none⟩, n, c⟩) {i : Nat} (hi : r.fp i) : i = b := by subst hr; exact hi.2
theorem Rd.nil (w : World) (k : Nat) : Rd w k SlV.nil [] := ⟨Sl.nil w k, fun _ hi => absurd rfl hi.1, Nat.le_refl _⟩
theorem does_lenR {α : Type} {C : α → List Value} {d : Option Tmp} {gd : Option (Nat × Bool)} {x : Operand} {t e k k' : Nat} {s : SlV} {l : List α} (ht : SliceT P t e k) (hx : evF f x = s.v) (h : Rd w k' s (l.map C)) : Does P ⟨d, .call ⟨.builtin .len, #[x], #[t]⟩, ty, pos, af, gd⟩ f w (.int .i64 l.length) w :=
  Does.val (does_lenS ht hx) (by rw [h.len])
theorem does_indexR {α : Type} {C : α → List Value} {d : Option Tmp} {gd : Option (Nat × Bool)} {x y : Operand} {t e k : Nat} {kd : IntKind} {i : Int} {s : SlV} {l : List α} (ht : SliceT P t e k) (hx : evF f x = s.v) (hy : evF f y = .int kd i) (h : Rd w k s (l.map C)) (h0 : 0 ≤ i) (h1 : i < l.length) :
    Does P ⟨d, .indexAddr t x y, ty, pos, af, gd⟩ f w (.pointer (some ⟨s.blk, s.off + i.toNat * k, none⟩)) w := does_indexS ht hx hy h.sl h0 (by simpa using h1) rfl
/-- one element is pushed, out of a literal's block -/
theorem wl_push {α : Type} {C : α → List Value} {dd : Tmp} {t e k bytes b et : Nat} {x y : Operand} {s r : SlV} {l : List α} {a : α} (ht : SliceT P t e k) (he : ElemT P e k bytes) (hx : evF f x = s.v) (hy : evF f y = r.v) (hs : Own w 0 e k s (l.map C)) (hb : Blk w b et (C a)) (hr : r = ⟨some ⟨b, 0, none⟩, 1, 1⟩)
    (hk : (C a).length = k) (h1 : ∀ v ∈ C a, v.oneCell' = true) (hm : (l.length + 1) * bytes ≤ 140737488355328) (hm2 : l.length + 1 ≤ 140737488355328) (hd : dd < n)
    (h : ∀ (s' : SlV) w', Own w' 0 e k s' ((l ++ [a]).map C) → Chg s.fp w w' → (∀ i, s'.fp i → s.fp i ∨ w.heap.size ≤ i) → wl P rd n dm ops rest Q (upd f dd s'.v) w') : wl P rd n dm ops (⟨some dd, .call ⟨.builtin .append, #[x, y], #[t, t]⟩, ty, pos, af, none⟩ :: rest) Q f w := by
  subst hr
  refine wl_append (news := [C a]) ht he hx hy hs (Sl.of_blk (by simpa using hb) (by simpa using hk) rfl) (by simp) (by simpa using h1) (by simpa using hm) (by simpa using hm2) (Nat.zero_le _) hd fun s' w' ho hc hg => ?_
  exact h s' w' (by simpa using ho) hc hg
theorem wl_push2 {α : Type} {C : α → List Value} {dd : Tmp} {t e k bytes b et : Nat} {x y : Operand} {s r : SlV} {l : List α} {a c : α} (ht : SliceT P t e k) (he : ElemT P e k bytes) (hx : evF f x = s.v) (hy : evF f y = r.v) (hs : Own w 0 e k s (l.map C)) (hb : Blk w b et (C a ++ C c)) (hr : r = ⟨some ⟨b, 0, none⟩, 2, 2⟩)
    (hk : (C a).length = k) (hk2 : (C c).length = k) (h1 : ∀ v ∈ C a, v.oneCell' = true) (h2 : ∀ v ∈ C c, v.oneCell' = true) (hm : (l.length + 2) * bytes ≤ 140737488355328) (hm2 : l.length + 2 ≤ 140737488355328) (hd : dd < n)
    (h : ∀ (s' : SlV) w', Own w' 0 e k s' ((l ++ [a, c]).map C) → Chg s.fp w w' → (∀ i, s'.fp i → s.fp i ∨ w.heap.size ≤ i) → wl P rd n dm ops rest Q (upd f dd s'.v) w') : wl P rd n dm ops (⟨some dd, .call ⟨.builtin .append, #[x, y], #[t, t]⟩, ty, pos, af, none⟩ :: rest) Q f w := by
  subst hr
  refine wl_append (news := [C a, C c]) ht he hx hy hs (Sl.of_blk (by simpa using hb) (by simp [hk, hk2]) rfl) (by simp) (by intro l hl; simp only [List.mem_cons, List.not_mem_nil, or_false] at hl; rcases hl with rfl | rfl <;> assumption) (by simpa using hm) (by simpa using hm2) (Nat.zero_le _) hd fun s' w' ho hc hg => ?_
  exact h s' w' (by simpa using ho) hc hg
end
/-- the cells of an int -/
def IC (n : Int) : List Value := [.int .i64 n]
end Gw
end Go.Proofs.YtjjkhjieegmphaaDoor
