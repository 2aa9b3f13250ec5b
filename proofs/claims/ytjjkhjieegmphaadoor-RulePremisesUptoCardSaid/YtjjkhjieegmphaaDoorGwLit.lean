/- Literals and appends by typed lists, and what they make of what a call knows. -/
import Derived.Test.YtjjkhjieegmphaaDoorGwPure
import Derived.Test.YtjjkhjieegmphaaDoorGwDraw2
namespace Go.Proofs.YtjjkhjieegmphaaDoor
open Go.RowKit
namespace Gw
def FC (x : FnV) : List Value := [x.v]
def LC (x : SlV) : List Value := [x.v]
def SC (s : ByteArray) : List Value := [.string s]
def bc (b : Bool) : List Value := [.bool b]
def ic (k : IntKind) (n : Int) : List Value := [.int k n]
theorem SlV.cells (x : SlV) : x.v.cells = #[x.v] := by rw [SlV.eq]; rfl
theorem consP {i : Nat} {a b : Value} {l l' : List (Nat × Value)} (h : a = b) (hl : l = l') : (i, a) :: l = (i, b) :: l' := by rw [h, hl]
theorem Cells.sub {w : World} {b o i k : Nat} {l l' : List Value} (h : Cells w b o l) (hl : (l.drop i).take k = l') : Cells w b (o + i) l' := by
  intro j v hj
  subst hl
  rw [List.getElem?_take] at hj
  split at hj
  · rw [List.getElem?_drop] at hj
    rw [Nat.add_assoc]; exact h _ _ hj
  · cases hj
theorem Cells.get {w : World} {b o i : Nat} {l : List Value} {v : Value} (h : Cells w b o l) (hl : l[i]? = some v) : w.cell? ⟨b, o + i, none⟩ = some v := h _ _ hl
section
variable {P : Program} {rd : Option Nat} {n : Nat} {dm : List Nat} {ops : Array Oper} {Q : Post} {f : Fr} {w : World} {rest : List Oper} {ty : TypeId} {pos : String} {af : Array Edge}
theorem flat_len {α : Type} {C : α → List Value} {k : Nat} : ∀ {l : List α}, (∀ a ∈ l, (C a).length = k) → ((l.map C).flatten).length = l.length * k
  | [], _ => by simp
  | a :: l, h => by
    have := flat_len (C := C) (l := l) fun b hb => h b (by simp [hb])
    simp only [List.map_cons, List.flatten_cons, List.length_append, List.length_cons, h a (by simp), this, Nat.add_mul]
    omega
theorem does_buildv {d : Option Tmp} {gd : Option (Nat × Bool)} {t : Nat} {pl : List (Nat × Nat)} {z out : List Value} {parts : Array (Nat × Operand)} {vs : List (Nat × Value)} (hb : BuT P t pl z) (hv : parts.toList.map (fun q => (q.1, evF f q.2)) = vs) (hf : Bld pl z vs out) : Does P ⟨d, .build t parts, ty, pos, af, gd⟩ f w (.agg out.toArray) w :=
  does_build hb (hv ▸ hf)
theorem does_lits {α : Type} {C : α → List Value} {l : List α} {vs : List Value} {dd : Tmp} {gd : Option (Nat × Bool)} {t e k len : Nat} {parts : Array (Nat × Operand)} (ht : SliceT P t e k) (hz : ∃ z, (P.info? e).bind (·.zero) = some z)
    (hv : parts.toList.map (fun q => (q.1, evF f q.2)) = vs.zipIdx.map (fun q => (q.2, q.1))) (hr : vs.map (fun v => v.cells.toList) = l.map C) (hk : ∀ a ∈ l, (C a).length = k) (h24 : len * k ≤ 16777216 ∧ len ≤ 16777216) (hlen : l.length = len) :
    ∃ (s : SlV) (w' : World), Does P ⟨some dd, .buildSlice t len parts, ty, pos, af, gd⟩ f w s.v w' ∧ Ext w w' ∧ Own w' 0 e k s (l.map C) ∧ ∀ i, s.fp i → i = w.heap.size := by
  have hk' : ∀ r ∈ l.map C, r.length = k := by
    intro r hr; obtain ⟨a, ha, rfl⟩ := List.mem_map.1 hr; exact hk a ha
  obtain ⟨w', h1, hn⟩ := does_buildSlice (P := P) (f := f) (w := w) (dd := dd) (ty := ty) (pos := pos) (af := af) (gd := gd) ht hz hv hr hk' (by simpa using hlen) h24.1
  refine ⟨_, w', h1, hn.ext, ⟨.inr ⟨_, len, (l.map C).flatten.toArray, ?_, Nat.zero_le _, hn.blk, ?_, ?_, ?_⟩, hk'⟩, fun i hi => hi.2⟩
  · simp [hlen]
  · simp [hlen]
  · simp [flat_len hk, hlen]
  · simp [flat_len hk, List.take_of_length_le]
theorem wl_lits {α : Type} {C : α → List Value} {l : List α} {vs : List Value} {dd : Tmp} {t e k len : Nat} {parts : Array (Nat × Operand)} (ht : SliceT P t e k) (hz : ∃ z, (P.info? e).bind (·.zero) = some z)
    (hv : parts.toList.map (fun q => (q.1, evF f q.2)) = vs.zipIdx.map (fun q => (q.2, q.1))) (hr : vs.map (fun v => v.cells.toList) = l.map C) (hk : ∀ a ∈ l, (C a).length = k) (h24 : len * k ≤ 16777216 ∧ len ≤ 16777216) (hlen : l.length = len) (hd : dd < n)
    (h : ∀ b w' (s : SlV), (Own w' 0 e k s (l.map C) ∧ ∀ i, s.fp i → i = b) → (Ext w w' ∧ w.heap.size ≤ b) → wl P rd n dm ops rest Q (upd f dd s.v) w') : wl P rd n dm ops (⟨some dd, .buildSlice t len parts, ty, pos, af, none⟩ :: rest) Q f w := by
  obtain ⟨s, w', h1, h2, h3, h4⟩ := does_lits (P := P) (f := f) (w := w) (dd := dd) (ty := ty) (pos := pos) (af := af) (gd := none) ht hz hv hr hk h24 hlen
  exact wl_does h1 hd (h w.heap.size w' s ⟨h3, h4⟩ ⟨h2, Nat.le_refl _⟩)
theorem does_allocN {dd : Tmp} {gd : Option (Nat × Bool)} {t : TypeId} {l : List Value} (hz : ZeroT P t l) : ∃ w', Does P ⟨some dd, .alloc t, ty, pos, af, gd⟩ f w (.pointer (some ⟨w.heap.size, 0, none⟩)) w' ∧ New w w' w.heap.size t l := by
  obtain ⟨v, hv, rfl⟩ := hz
  refine ⟨w.alloc (.cells v.cells t), ?_, ⟨rfl, by simp⟩⟩
  cases hq : P.info? t with
  | none => simp [hq] at hv
  | some i =>
    have hi : i.zero = some v := by simpa [hq] using hv
    simp [Does, execOp, Instr.alloc, zeroValue, typeInfo, hq, hi, newVar, newRow]
theorem newc {P : Program} {g : FuncId} {args : Array Value} {w : World} {R V : Value → World → Prop} (h : Calls P g args w fun e w' => ∃ v, e = .returned v ∧ R v w') (hR : ∀ v w', R v w' → Ext w w' ∧ V v w') : Calls P g args w fun e w' => ∃ v, e = .returned v ∧ Ext w w' ∧ V v w' :=
  CallsIn.mono (F := fen none) (n := 0) (callsIn_wide.2 h) (by rintro e w' ⟨v, rfl, hv⟩; exact ⟨v, rfl, (hR v w' hv).1, (hR v w' hv).2⟩) |> callsIn_wide.1
/-- elements are pushed, out of what is read -/
theorem wl_appends {α : Type} {C : α → List Value} {dd : Tmp} {t e k bytes : Nat} {x y : Operand} {s r : SlV} {l m : List α} (ht : SliceT P t e k) (he : ElemT P e k bytes) (hx : evF f x = s.v) (hy : evF f y = r.v) (hs : Own w 0 e k s (l.map C)) (hr : Rd w k r (m.map C)) (hne : m ≠ [])
    (h1 : ∀ a ∈ m, ∀ v ∈ C a, v.oneCell' = true) (hm : (l.length + m.length) * bytes ≤ 140737488355328) (hm2 : l.length + m.length ≤ 140737488355328) (hd : dd < n)
    (h : ∀ (s' : SlV) w', Own w' 0 e k s' ((l ++ m).map C) → Chg s.fp w w' → (∀ i, s'.fp i → s.fp i ∨ w.heap.size ≤ i) → wl P rd n dm ops rest Q (upd f dd s'.v) w') : wl P rd n dm ops (⟨some dd, .call ⟨.builtin .append, #[x, y], #[t, t]⟩, ty, pos, af, none⟩ :: rest) Q f w := by
  refine wl_append (news := m.map C) ht he hx hy hs hr.sl (by simpa using hne) ?_ (by simpa using hm) (by simpa using hm2) (Nat.zero_le _) hd fun s' w' ho hc hg => h s' w' (by simpa using ho) hc hg
  intro r hr v hv
  obtain ⟨a, ha, rfl⟩ := List.mem_map.1 hr
  exact h1 a ha v hv
/-- nothing is pushed -/
theorem does_append0 {dd : Option Tmp} {gd : Option (Nat × Bool)} {t e k : Nat} {x y : Operand} {s r : SlV} (ht : SliceT P t e k) (hx : evF f x = s.v) (hy : evF f y = r.v) (hs : s.n ≤ s.c) (hr : r.n = 0) : Does P ⟨dd, .call ⟨.builtin .append, #[x, y], #[t, t]⟩, ty, pos, af, gd⟩ f w s.v w := by
  obtain ⟨sp, sn, sc⟩ := s
  obtain ⟨rp, rn, rc⟩ := r
  simp only at hs hr
  subst hr
  unfold Does execOp
  simp only [resolve, invoke, builtin, Sem.run_bind, Sem.run_pure, Result.andThen_ok, List.map_toArray, List.map_cons, List.map_nil, hx, hy, SlV.eq]
  have hl : ∀ a : Addr, (loadCells a 0).run P w = .ok #[] w := fun a => rfl
  cases rp with
  | none => cases sp <;> simp [Builtin.append_, run_underlying ht.1, run_sizeOf ht.2, Builtin.lenOf, Builtin.firstCells, hs, storeCells]
  | some a => cases sp <;> simp [Builtin.append_, run_underlying ht.1, run_sizeOf ht.2, Builtin.lenOf, Builtin.firstCells, hs, storeCells, hl]
/-- any list is pushed -/
theorem wl_appendm {α : Type} {C : α → List Value} {dd : Tmp} {t e k bytes : Nat} {x y : Operand} {s r : SlV} {l m : List α} (ht : SliceT P t e k) (he : ElemT P e k bytes) (hx : evF f x = s.v) (hy : evF f y = r.v) (hs : Own w 0 e k s (l.map C)) (hr : Rd w k r (m.map C))
    (h1 : ∀ a, ∀ v ∈ C a, v.oneCell' = true) (hm : (l.length + m.length) * bytes ≤ 140737488355328) (hm2 : l.length + m.length ≤ 140737488355328) (hd : dd < n)
    (h : ∀ (s' : SlV) w', Own w' 0 e k s' ((l ++ m).map C) → Chg s.fp w w' → (∀ i, s'.fp i → s.fp i ∨ w.heap.size ≤ i) → wl P rd n dm ops rest Q (upd f dd s'.v) w') : wl P rd n dm ops (⟨some dd, .call ⟨.builtin .append, #[x, y], #[t, t]⟩, ty, pos, af, none⟩ :: rest) Q f w := by
  by_cases hne : m = []
  · subst hne
    refine wl_does (does_append0 ht hx hy hs.room (by have := hr.sl.len; simpa using this)) hd ?_
    exact h s w (by simpa using hs) (Chg.refl _ _) (fun i hi => .inl hi)
  · exact wl_appends ht he hx hy hs hr hne (fun a _ => h1 a) hm hm2 hd h
theorem set_flat {α : Type} {C : α → List Value} {a : α} {v : Value} (hv : C a = [v]) : ∀ (l : List α) (j : Nat), (∀ b ∈ l, (C b).length = 1) → j < l.length → ((l.set j a).map C).flatten = ((l.map C).flatten).set j v
  | [], _, _, hj => by simp at hj
  | b :: l, j, hb, hj => by
    obtain ⟨u, hu⟩ : ∃ u, C b = [u] := by
      match hq : C b, hb b (by simp) with
      | [u], _ => exact ⟨u, rfl⟩
    cases j with
    | zero => simp [hv, hu]
    | succ j => simp only [List.set_cons_succ, List.map_cons, List.flatten_cons, hu, List.singleton_append, set_flat hv l j (fun c hc => hb c (by simp [hc])) (by simpa using hj)]
/-- an element of one cell is written -/
theorem wl_store1 {α : Type} {C : α → List Value} {t e : Nat} {x y : Operand} {s : SlV} {l : List α} {a : α} {v : Value} {i : Int} (ht : OneT P t) (hx : evF f x = .pointer (some ⟨s.blk, s.off + i.toNat * 1, none⟩)) (hy : evF f y = v) (hs : Own w 0 e 1 s (l.map C)) (hi : 0 ≤ i ∧ i < l.length) (hv : C a = [v]) (h1 : v.oneCell' = true)
    (h : ∀ w', Own w' 0 e 1 s ((l.set i.toNat a).map C) → Chg s.fp w w' → wl P rd n dm ops rest Q f w') : wl P rd n dm ops (⟨none, .store t x y, ty, pos, af, none⟩ :: rest) Q f w := by
  have hrow : ∀ r ∈ ((l.set i.toNat a).map C), r.length = 1 := by
    intro r hr
    obtain ⟨b, hb, rfl⟩ := List.mem_map.1 hr
    rcases List.mem_or_eq_of_mem_set hb with hb | rfl
    · exact hs.row _ (List.mem_map.2 ⟨b, hb, rfl⟩)
    · rw [hv]; rfl
  have hone : ∀ b ∈ l, (C b).length = 1 := fun b hb => hs.row _ (List.mem_map.2 ⟨b, hb, rfl⟩)
  have hfl : ∀ {l : List α}, (∀ b ∈ l, (C b).length = 1) → ((l.map C).flatten).length = l.length := fun h => by have := flat_len (k := 1) h; simpa using this
  have hset := set_flat hv l i.toNat hone (by omega)
  have hsz : ((l.set i.toNat a).map C).flatten.length = l.length := by rw [hset, List.length_set]; exact hfl hone
  have hll := hfl hone
  rcases hs.own with ⟨_, hn⟩ | ⟨g, cap, cur, rfl, hlo, hg, hnc, hcs, htk⟩
  · simp at hn; subst hn; simp at hi; omega
  · have hlt : i.toNat < cur.toList.length := by
      simp at hnc hcs; simp; omega
    have hx' : evF f x = .pointer (some ⟨g, i.toNat, none⟩) := by rw [hx]; simp [SlV.blk, SlV.off]
    refine wl_store (l := cur.toList) (l' := cur.toList.set i.toNat v) ht hx' hy (by show w.heap[g]? = _; simpa using hg) hlt h1 rfl fun w' hb hc _ => ?_
    refine h w' ⟨.inr ⟨g, cap, (cur.toList.set i.toNat v).toArray, by simp, hlo, hb, by simpa using hnc, by simpa using hcs, ?_⟩, hrow⟩ (hc.mono fun j _ hj => ⟨by simp, by rw [hj]; rfl⟩)
    rw [hset, ← htk]
    simp [List.take_set]
theorem add_addr' (b o k : Nat) : (⟨b, o, none⟩ : Addr).add k = ⟨b, o + k, none⟩ := by unfold Addr.add; split <;> simp_all
/-- a part of a slice -/
theorem does_sliceG {d : Option Tmp} {gd : Option (Nat × Bool)} {t e k l h m : Nat} {x : Operand} {lo hi mx : Option Operand} {s : SlV} (ht : SliceT P t e k) (hx : evF f x = s.v) (hb : (Instr.sliceBounds true s.n s.c (lo.map (evF f)) (hi.map (evF f)) (mx.map (evF f))).run P w = .ok (l, h, m) w) :
    Does P ⟨d, .slice t x lo hi mx, ty, pos, af, gd⟩ f w (⟨if m = l then s.p else s.p.map (·.add (l * k)), h - l, m - l⟩ : SlV).v w := by
  have he : P.elem t = e := by unfold Program.elem; rw [ht.1]
  unfold Does execOp
  simp only [hx, SlV.eq, Sem.run_bind, run_sliceAt_slice (P := P) w t _ _ _ _ (by rw [he]; exact ht.1)]
  simp only [Instr.slice, Sem.run_bind, run_underlying ht.1, Result.andThen_ok, hb, run_sizeOf ht.2, Sem.run_pure]
theorem bounds_hi {n c : Nat} {kd : IntKind} {i : Int} (h0 : 0 ≤ i) (h1 : i ≤ c) : (Instr.sliceBounds true n c none (some (.int kd i)) none).run P w = .ok (0, i.toNat, c) w := by
  simp [Instr.sliceBounds, run_sliceBound, h0, h1]
theorem bounds_him {n c : Nat} {kd kd' : IntKind} {i : Int} (h0 : 0 ≤ i) (h1 : i ≤ c) : (Instr.sliceBounds true n c none (some (.int kd i)) (some (.int kd' i))).run P w = .ok (0, i.toNat, i.toNat) w := by
  have h2 : i ≤ (i.toNat : Int) := by omega
  simp [Instr.sliceBounds, run_sliceBound, h0, h1, run_sliceBound (P := P) w kd i i.toNat .slice3B h0 h2]
theorem bounds_lo {n c : Nat} {kd : IntKind} {i : Int} (h0 : 0 ≤ i) (h1 : i ≤ n) : (Instr.sliceBounds true n c (some (.int kd i)) none none).run P w = .ok (i.toNat, n, c) w := by
  simp [Instr.sliceBounds, run_sliceBound, h0, h1]
theorem flat_take {α : Type} {C : α → List Value} {k : Nat} : ∀ (l : List α) (i : Nat), (∀ a ∈ l, (C a).length = k) → ((l.take i).map C).flatten = ((l.map C).flatten).take (i * k)
  | [], _, _ => by simp
  | a :: l, 0, _ => by simp
  | a :: l, i + 1, h => by
    have ha := h a (by simp)
    simp only [List.take_succ_cons, List.map_cons, List.flatten_cons]
    rw [flat_take l i (fun b hb => h b (by simp [hb])), Nat.add_mul, Nat.one_mul, Nat.add_comm, ← ha, List.take_length_add_append]
/-- s[:i] and s[:i:i] of a slice that is owned -/
theorem does_pre {α : Type} {C : α → List Value} {d : Option Tmp} {gd : Option (Nat × Bool)} {t e k : Nat} {x y : Operand} {s : SlV} {l : List α} {kd : IntKind} {i : Int} (ht : SliceT P t e k) (hx : evF f x = s.v) (hy : evF f y = .int kd i) (hs : Own w 0 e k s (l.map C)) (hi : 0 ≤ i ∧ i ≤ l.length) :
    Does P ⟨d, .slice t x none (some y) none, ty, pos, af, gd⟩ f w (⟨s.p, i.toNat, s.c⟩ : SlV).v w := by
  have hn := hs.sl.len
  rw [List.length_map] at hn
  have := hs.room
  refine (does_sliceG (l := 0) (h := i.toNat) (m := s.c) ht hx (by simp only [Option.map_none, Option.map_some, hy]; exact bounds_hi hi.1 (by omega))).val ?_
  cases hp : s.p <;> simp [SlV.eq, hp, Addr.add]
theorem does_clip {α : Type} {C : α → List Value} {d : Option Tmp} {gd : Option (Nat × Bool)} {t e k : Nat} {x y z : Operand} {s : SlV} {l : List α} {kd kd' : IntKind} {i : Int} (ht : SliceT P t e k) (hx : evF f x = s.v) (hy : evF f y = .int kd i) (hz : evF f z = .int kd' i) (hs : Own w 0 e k s (l.map C)) (hi : 0 ≤ i ∧ i ≤ l.length) :
    Does P ⟨d, .slice t x none (some y) (some z), ty, pos, af, gd⟩ f w (⟨s.p, i.toNat, i.toNat⟩ : SlV).v w := by
  have hn := hs.sl.len
  rw [List.length_map] at hn
  have := hs.room
  refine (does_sliceG (l := 0) (h := i.toNat) (m := i.toNat) ht hx (by simp only [Option.map_none, Option.map_some, hy, hz]; exact bounds_him hi.1 (by omega))).val ?_
  cases hp : s.p <;> simp [SlV.eq, hp, Addr.add]
theorem Own.preL {α : Type} {C : α → List Value} {e k : Nat} {s : SlV} {l : List α} {i : Int} (hs : Own w 0 e k s (l.map C)) (hi : 0 ≤ i ∧ i ≤ l.length) {c : Nat} (hc : i.toNat ≤ c) (hc2 : c ≤ s.c) : Own w 0 e k ⟨s.p, i.toNat, c⟩ ((l.take i.toNat).map C) := by
  rw [List.map_take]
  exact hs.pre (by simp; omega) hc hc2
theorem Own.clip {α : Type} {C : α → List Value} {e k : Nat} {s : SlV} {l : List α} {i : Int} (hs : Own w 0 e k s (l.map C)) (hi : 0 ≤ i ∧ i ≤ l.length) : i.toNat ≤ s.c := by
  have hn := hs.sl.len
  have := hs.room
  rw [List.length_map] at hn
  omega
/-- s[i:] of a slice that is read -/
theorem does_suf {α : Type} {C : α → List Value} {d : Option Tmp} {gd : Option (Nat × Bool)} {t e k : Nat} {x y : Operand} {s : SlV} {l : List α} {kd : IntKind} {i : Int} (ht : SliceT P t e k) (hx : evF f x = s.v) (hy : evF f y = .int kd i) (hs : Rd w k s (l.map C)) (hi : 0 ≤ i ∧ i ≤ l.length) :
    Does P ⟨d, .slice t x (some y) none none, ty, pos, af, gd⟩ f w (⟨if s.c = i.toNat then s.p else s.p.map (·.add (i.toNat * k)), s.n - i.toNat, s.c - i.toNat⟩ : SlV).v w := by
  have hn := hs.sl.len
  rw [List.length_map] at hn
  exact does_sliceG (l := i.toNat) (h := s.n) (m := s.c) ht hx (by simp only [Option.map_none, Option.map_some, hy]; exact bounds_lo hi.1 (by omega))
theorem Rd.suf {α : Type} {C : α → List Value} {k : Nat} {s : SlV} {l : List α} {i : Int} (hs : Rd w k s (l.map C)) (hi : 0 ≤ i ∧ i ≤ l.length) : Rd w k ⟨if s.c = i.toNat then s.p else s.p.map (·.add (i.toNat * k)), s.n - i.toNat, s.c - i.toNat⟩ ((l.drop i.toNat).map C) ∧ ∀ j, SlV.fp ⟨if s.c = i.toNat then s.p else s.p.map (·.add (i.toNat * k)), s.n - i.toNat, s.c - i.toNat⟩ j → s.fp j := by
  have hn := hs.sl.len
  rw [List.length_map] at hn
  have hfp : ∀ j, SlV.fp ⟨if s.c = i.toNat then s.p else s.p.map (·.add (i.toNat * k)), s.n - i.toNat, s.c - i.toNat⟩ j → s.fp j := by
    rintro j ⟨h1, rfl⟩
    cases hp : s.p with
    | none => simp [hp] at h1
    | some a =>
      refine ⟨by simp [hp], ?_⟩
      simp only [SlV.blk, hp]
      by_cases hc : s.c = i.toNat
      · simp [hc]
      · simp only [hc, if_false, Option.map_some]; unfold Addr.add; split <;> rfl
  refine ⟨⟨⟨by simp [hn], fun r hr => ?_, fun j r hj => ?_⟩, fun j hj => hs.lt j (hfp j hj), by have := hs.room; simp only; omega⟩, hfp⟩
  · obtain ⟨a, ha, rfl⟩ := List.mem_map.1 hr
    exact hs.sl.row _ (List.mem_map.2 ⟨a, List.mem_of_mem_drop ha, rfl⟩)
  · have hj' : (l.map C)[i.toNat + j]? = some r := by
      rw [List.getElem?_map] at hj ⊢
      rw [List.getElem?_drop] at hj
      exact hj
    obtain ⟨hp, hc⟩ := hs.sl.cells _ _ hj'
    have hlt : i.toNat + j < l.length := by
      have := (List.getElem?_eq_some_iff.1 hj').1; simpa using this
    have hne : ¬ s.c = i.toNat := by have := hs.room; omega
    have e1 : (SlV.mk (if s.c = i.toNat then s.p else s.p.map (·.add (i.toNat * k))) (s.n - i.toNat) (s.c - i.toNat)).p = some ⟨s.blk, s.off + i.toNat * k, none⟩ := by
      simp only [hne, if_false, hp, Option.map_some]; rw [add_addr']
    have e2 : SlV.blk (SlV.mk (if s.c = i.toNat then s.p else s.p.map (·.add (i.toNat * k))) (s.n - i.toNat) (s.c - i.toNat)) = s.blk := by
      unfold SlV.blk at *; rw [e1]
    have e3 : SlV.off (SlV.mk (if s.c = i.toNat then s.p else s.p.map (·.add (i.toNat * k))) (s.n - i.toNat) (s.c - i.toNat)) = s.off + i.toNat * k := by
      unfold SlV.off at *; rw [e1]
    rw [e2, e3]
    refine ⟨e1, ?_⟩
    rw [Nat.add_assoc, ← Nat.add_mul]
    exact hc
/-- a slice of so many zeros, of one cell each -/
theorem wl_make1 {α : Type} {C : α → List Value} {dd : Tmp} {t e bytes : Nat} {x y : Operand} {z : α} {v : Value} {i : Int} {kl kc : IntKind} (ht : SliceT P t e 1) (he : ElemT P e 1 bytes) (hz : (P.info? e).bind (·.zero) = some v) (hx : evF f x = .int kl i) (hy : evF f y = .int kc i) (hC : C z = [v]) (h1 : v.cells = #[v]) (h0 : 0 ≤ i) (hm : i.toNat * bytes ≤ 140737488355328) (hm2 : i.toNat ≤ 16777216) (hd : dd < n)
    (h : ∀ b w' (s : SlV), (Own w' 0 e 1 s ((List.replicate i.toNat z).map C) ∧ ∀ i, s.fp i → i = b) → (Ext w w' ∧ w.heap.size ≤ b) → wl P rd n dm ops rest Q (upd f dd s.v) w') : wl P rd n dm ops (⟨some dd, .makeSlice t x y, ty, pos, af, none⟩ :: rest) Q f w := by
  obtain ⟨ti, z', hi, hz', hsz, hby, hzs, _⟩ := he
  have hzv : z' = v := by rw [hi] at hz; simp only [Option.bind_some, hz'] at hz; exact Option.some.inj hz
  subst hzv
  obtain ⟨w', hr, hown, hgr⟩ := run_makeSlice_full (P := P) w 0 t e ti z' 1 ht.1 hi hz' hsz kl kc i.toNat (by omega) (by rw [hby, Nat.mul_comm]; omega) (by unfold maxLen; omega) (Nat.zero_le _)
  have hb1 : bytes * i.toNat ≤ 281474976710656 := by rw [Nat.mul_comm]; omega
  have hb2 : (bytes : Int) * (i.toNat : Int) ≤ 281474976710656 := by
    have h : ((bytes * i.toNat : Nat) : Int) ≤ 281474976710656 := by omega
    rwa [Int.natCast_mul] at h
  have hw' := run_makeSlice (P := P) (w := w) t e ti z' ht.1 hi hz' kl kc (i.toNat : Int) (i.toNat : Int) (Int.natCast_nonneg _) (Int.le_refl _) (by rw [hsz, Nat.mul_one, Int.toNat_natCast]; exact hm2) (by rw [hby]; exact hb2) (by omega)
  have hE : Ext w w' := ⟨hgr.os, hgr.tape, hgr.output, hgr.size, fun b hb _ => hgr.block b hb (by simp), by
    rw [hr] at hw'
    injection hw' with _ hw2
    rw [hw2]
    exact froz_alloc _ _ (thawed.cells _ _)⟩
  have hfl : (madeCells z'.cells (i.toNat * 1)).toList = ((List.replicate i.toNat z).map C).flatten := by
    rw [h1]
    simp only [madeCells, Array.toList_map, Array.toList_range, List.map_replicate, hC]
    refine List.ext_getElem? fun j => ?_
    by_cases hj : j < i.toNat
    · have : (List.replicate i.toNat [z']).flatten = List.replicate i.toNat z' := by
        generalize i.toNat = m
        induction m with
        | zero => rfl
        | succ m ih => simp [List.replicate_succ, ih]
      rw [this]
      simp [hj, Nat.mod_one]
    · have : (List.replicate i.toNat [z']).flatten = List.replicate i.toNat z' := by
        generalize i.toNat = m
        induction m with
        | zero => rfl
        | succ m ih => simp [List.replicate_succ, ih]
      rw [this]
      simp [hj]
  refine wl_does (v := (⟨some ⟨w.heap.size, 0, none⟩, i.toNat, i.toNat⟩ : SlV).v) (w' := w') ?_ hd (h w.heap.size w' _ ⟨Own.of ?_ ?_, fun j hj => hj.2⟩ ⟨hE, Nat.le_refl _⟩)
  · unfold Does execOp
    simp only [hx, hy]
    rw [show i = (i.toNat : Int) by omega, SlV.eq]
    simp only [Int.toNat_natCast]
    simp only [Sem.run_bind, hr, Result.andThen_ok, Sem.run_pure]
  · rw [SlV.eq]; simp only [List.length_map, List.length_replicate]; rw [← hfl]; exact hown
  · intro r hr
    obtain ⟨b, hb, rfl⟩ := List.mem_map.1 hr
    rw [(List.mem_replicate.1 hb).2, hC]; rfl
end
section
variable {A : Nat → Prop} {N : Oth} {w0 w w' : World} {L Z : List OA}
theorem St.lit (h : St A N w0 w L Z) {α : Type} {C : α → List Value} {l : List α} {e k b : Nat} {s : SlV} (ho : Own w' 0 e k s (l.map C) ∧ ∀ i, s.fp i → i = b) (hx : Ext w w' ∧ w.heap.size ≤ b) (hl : l.length ≤ 140737488355328) : St A N w0 w' (oS e k C s l :: L) Z :=
  h.add (b := oS e k C s l) (G := s.fp) hx.1 ⟨⟨ho.1, hl⟩, fun _ => Iff.rfl⟩ (fun i hi => by rw [ho.2 i hi]; exact hx.2)
theorem St.sufZ (h : St A N w0 w L Z) (n : Nat) {k : Nat} {α : Type} {C : α → List Value} {s : SlV} {l : List α} {i : Int} (hi : 0 ≤ i ∧ i ≤ l.length) (q : Z[n]? = some (fS k C s l) := by rfl) :
    St A N w0 w L (fS k C ⟨if s.c = i.toNat then s.p else s.p.map (·.add (i.toNat * k)), s.n - i.toNat, s.c - i.toNat⟩ (l.drop i.toNat) :: Z) :=
  h.part n (a := fS k C s l) (fun _ hF => ⟨_, ⟨⟨(Rd.suf hF.1.1 hi).1, by have := hF.1.2; simp only [List.length_drop]; omega⟩, fun _ => Iff.rfl⟩, fun j hj => (hF.2 j).2 ((Rd.suf hF.1.1 hi).2 j hj)⟩) q
/-- while a slice that is owned is being turned, the rest is known -/
theorem St.away (h : St A N w0 w L Z) (n : Nat) {e k : Nat} {α : Type} {C : α → List Value} {s : SlV} {l : List α} {L' : List OA} (q : L[n]? = some (oS e k C s l) := by rfl) (q' : L.eraseIdx n = L' := by rfl) {v : World} (hc : Chg s.fp w v) : St A (N.or s.fp) w0 v L' Z := by
  subst q'
  obtain ⟨U, hU, hN, hA, hL, hZ, hW⟩ := h
  obtain ⟨F, hF, hFU, hR⟩ := hL.front n q
  have hlt : ∀ i, s.fp i → U i := fun i hi => hFU i ((hF.2 i).2 hi)
  refine ⟨fun i => U i ∧ ¬ F i, fun i hi => ⟨(hU i hi.1).1, Nat.lt_of_lt_of_le (hU i hi.1).2.1 hc.size, fun q => q.elim (hU i hi.1).2.2 (fun q => hi.2 ((hF.2 i).2 q))⟩, fun i hi => Nat.lt_of_lt_of_le (hi.elim (hN i) (fun q => (hU i (hlt i q)).2.1)) hc.size, hA.thenChg hc (fun i hi hs => ((hU i (hlt i hs)).1).elim id (fun q => absurd hi (by omega))), Sep.chg hc hR (fun i hi hs => hi.2 ((hF.2 i).2 hs)), fun z hz => ?_, Wat.chg (N := N) hW hc (fun i hi => (hU i (hlt i hi)).2.2)⟩
  obtain ⟨G, g, hG⟩ := hZ z hz
  refine ⟨G, z.loc g hc (fun i hi hs => hG i hi (.inl (hlt i hs))), fun i hi q => hG i hi ?_⟩
  rcases q with q | q | q
  · exact .inl q.1
  · exact .inr q
  · exact .inl (hlt i q)
/-- slices that an operation has made new, known in a later world, read from now on -/
theorem St.addS (h : St A N w0 w L Z) (hc : Ext w w') {k : Nat} {α : Type} {C : α → List Value} {s : SlV} {l : List α} (hr : Rd w' k s (l.map C)) (hl : l.length ≤ 140737488355328) (hf : ∀ i, s.fp i → w.heap.size ≤ i) : St A N w0 w' L (fS k C s l :: Z) :=
  h.addZ (b := fS k C s l) (G := s.fp) hc ⟨⟨hr, hl⟩, fun _ => Iff.rfl⟩ hf
theorem St.addS2 (h : St A N w0 w L Z) (hc : Ext w w') {k k' : Nat} {α β : Type} {C : α → List Value} {C' : β → List Value} {s s' : SlV} {l : List α} {l' : List β} (hr : Rd w' k s (l.map C)) (hl : l.length ≤ 140737488355328) (hf : ∀ i, s.fp i → w.heap.size ≤ i)
    (hr' : Rd w' k' s' (l'.map C')) (hl' : l'.length ≤ 140737488355328) (hf' : ∀ i, s'.fp i → w.heap.size ≤ i) : St A N w0 w' L (fS k' C' s' l' :: fS k C s l :: Z) := by
  have h1 := h.addS hc hr hl hf
  have h2 := h.addS hc hr' hl' hf'
  obtain ⟨U, hU, hN, hA, hL, hZ, hW⟩ := h
  refine ⟨U, fun i hi => ⟨(hU i hi).1, Nat.lt_of_lt_of_le (hU i hi).2.1 hc.size, (hU i hi).2.2⟩, fun i hi => Nat.lt_of_lt_of_le (hN i hi) hc.size, hA.thenExt hc, Sep.chg hc hL (fun _ _ x => x), fun z hz => ?_, hW.chg hc (fun _ x => x.elim)⟩
  have old : ∀ (x : SlV), (∀ i, x.fp i → w.heap.size ≤ i) → ∀ i, x.fp i → ¬ (U i ∨ N i) := fun x hx i hi q => by
    have := hx i hi
    rcases q with q | q
    · exact absurd (hU i q).2.1 (by omega)
    · exact absurd (hN i q) (by omega)
  rcases List.mem_cons.1 hz with rfl | hz
  · exact ⟨s'.fp, ⟨⟨hr', hl'⟩, fun _ => Iff.rfl⟩, old s' hf'⟩
  rcases List.mem_cons.1 hz with rfl | hz
  · exact ⟨s.fp, ⟨⟨hr, hl⟩, fun _ => Iff.rfl⟩, old s hf⟩
  · exact (hZ.chg hc (fun _ x => x.elim) (fun _ hi => .inl hi)) z hz
/-- pieces that are made new -/
def NewZ (w w' : World) (Zs : List OA) : Prop := ∀ z ∈ Zs, ∃ F, z.holds w' F ∧ ∀ i, F i → w.heap.size ≤ i
theorem NewZ.nil : NewZ w w' [] := fun _ h => by simp at h
theorem NewZ.s {k : Nat} {α : Type} {C : α → List Value} {s : SlV} {l : List α} {Zs : List OA} (hr : Rd w' k s (l.map C)) (hl : l.length ≤ 140737488355328) (hf : ∀ i, s.fp i → w.heap.size ≤ i) (h : NewZ w w' Zs) : NewZ w w' (fS k C s l :: Zs) := fun z hz => by
  rcases List.mem_cons.1 hz with rfl | hz
  · exact ⟨s.fp, ⟨⟨hr, hl⟩, fun _ => Iff.rfl⟩, hf⟩
  · exact h z hz
theorem NewZ.b {b t : Nat} {l : List Value} {Zs : List OA} (hb : Blk w' b t l) (hl : w.heap.size ≤ b) (h : NewZ w w' Zs) : NewZ w w' (oB b t l :: Zs) := fun z hz => by
  rcases List.mem_cons.1 hz with rfl | hz
  · exact ⟨(· = b), ⟨hb, fun _ => Iff.rfl⟩, fun i hi => by rw [hi]; exact hl⟩
  · exact h z hz
theorem St.addZs (h : St A N w0 w L Z) (hc : Ext w w') {Zs Z' : List OA} (hz : NewZ w w' Zs) (e : Zs ++ Z = Z' := by rfl) : St A N w0 w' L Z' := by
  subst e
  obtain ⟨U, hU, hN, hA, hL, hZ, hW⟩ := h
  refine ⟨U, fun i hi => ⟨(hU i hi).1, Nat.lt_of_lt_of_le (hU i hi).2.1 hc.size, (hU i hi).2.2⟩, fun i hi => Nat.lt_of_lt_of_le (hN i hi) hc.size, hA.thenExt hc, Sep.chg hc hL (fun _ _ x => x), fun z hz' => ?_, hW.chg hc (fun _ x => x.elim)⟩
  rcases List.mem_append.1 hz' with hz' | hz'
  · obtain ⟨F, g, hF⟩ := hz z hz'
    refine ⟨F, g, fun i hi q => ?_⟩
    have := hF i hi
    rcases q with q | q
    · exact absurd (hU i q).2.1 (by omega)
    · exact absurd (hN i q) (by omega)
  · exact (hZ.chg hc (fun _ x => x.elim) (fun _ hi => .inl hi)) z hz'
theorem St.newAt (h : St A N w0 w L Z) (hc : Ext w w') {b t : Nat} {l : List Value} (hb : Blk w' b t l) (hl : w.heap.size ≤ b) : St A N w0 w' (oB b t l :: L) Z :=
  h.add (b := oB b t l) (G := (· = b)) hc ⟨hb, fun _ => Iff.rfl⟩ (fun i hi => by rw [hi]; exact hl)
/-- while a block is being turned, the rest is known -/
theorem St.awayB (h : St A N w0 w L Z) (n : Nat) {b t : Nat} {l : List Value} {L' : List OA} (q : L[n]? = some (oB b t l) := by rfl) (q' : L.eraseIdx n = L' := by rfl) {v : World} (hc : Chg (· = b) w v) : St A (N.or (· = b)) w0 v L' Z := by
  subst q'
  obtain ⟨U, hU, hN, hA, hL, hZ, hW⟩ := h
  obtain ⟨F, hF, hFU, hR⟩ := hL.front n q
  have hlt : U b := hFU b ((hF.2 b).2 rfl)
  refine ⟨fun i => U i ∧ ¬ F i, fun i hi => ⟨(hU i hi.1).1, Nat.lt_of_lt_of_le (hU i hi.1).2.1 hc.size, fun q => q.elim (hU i hi.1).2.2 (fun q => hi.2 ((hF.2 i).2 q))⟩, fun i hi => Nat.lt_of_lt_of_le (hi.elim (hN i) (fun q => by rw [q]; exact (hU b hlt).2.1)) hc.size, hA.thenChg hc (fun i hi hs => by rw [hs] at hi ⊢; exact ((hU b hlt).1).elim id (fun q => absurd hi (by omega))), Sep.chg hc hR (fun i hi hs => hi.2 ((hF.2 i).2 hs)), fun z hz => ?_, Wat.chg (N := N) hW hc (fun i hi => by rw [hi]; exact (hU b hlt).2.2)⟩
  obtain ⟨G, g, hG⟩ := hZ z hz
  refine ⟨G, z.loc g hc (fun i hi hs => hG i hi (.inl (by rw [hs]; exact hlt))), fun i hi q => hG i hi ?_⟩
  rcases q with q | q | q
  · exact .inl q.1
  · exact .inr q
  · exact .inl (by rw [q]; exact hlt)
end
end Gw
end Go.Proofs.YtjjkhjieegmphaaDoor
