/- Memory: blocks, what a step leaves as it was, and the rules of the operations that read, make and write blocks. Over whatever program. -/
import Derived.Test.YtjjkhjieegmphaaDoorGwOps
namespace Go.Proofs.YtjjkhjieegmphaaDoor
open Go.RowKit
namespace Gw

/-- w' is w but for the blocks S and new ones -/
structure Chg (S : Nat → Prop) (w w' : World) : Prop where
  os : w'.os = w.os
  tape : w'.tape = w.tape
  output : w'.output = w.output
  size : w.heap.size ≤ w'.heap.size
  block : ∀ k, k < w.heap.size → ¬ S k → w'.heap[k]? = w.heap[k]?
  froz : ∀ a, w'.frozen? a = w.frozen? a
/-- nothing that was there has turned -/
abbrev Ext (w w' : World) : Prop := Chg (fun _ => False) w w'
/-- what no address of which is frozen -/
def thawed (o : Option Obj) : Prop := ∀ c t q, o = some (.cells c t q) → q = (0, 0)
theorem thawed.none : thawed none := fun _ _ _ h => by cases h
theorem thawed.cells (c : Array Value) (t : TypeId) : thawed (some (.cells c t (0, 0))) := fun _ _ _ h => by cases h; rfl
theorem thawed.not {w : World} {a : Addr} (h : thawed w.heap[a.block]?) : w.frozen? a = false := by
  unfold World.frozen?
  split
  · rename_i c t lo hi e
    have := h _ _ _ e
    cases this
    simp
  · rfl
theorem froz_at {w w' : World} (b : Nat) (h1 : thawed w'.heap[b]?) (h2 : thawed w.heap[b]?) (hk : ∀ k, k ≠ b → w'.heap[k]? = w.heap[k]?) (a : Addr) : w'.frozen? a = w.frozen? a := by
  by_cases h : a.block = b
  · subst h; rw [h1.not, h2.not]
  · unfold World.frozen?; rw [hk _ h]
theorem froz_alloc (w : World) (o : Obj) (h : thawed (some o)) (a : Addr) : (w.alloc o).frozen? a = w.frozen? a := by
  refine froz_at w.heap.size (by rw [show (w.alloc o).heap[w.heap.size]? = some o from heap_alloc_new w o]; exact h) (by simp [thawed.none]) (fun k hk => ?_) a
  by_cases hl : k < w.heap.size
  · exact heap_alloc_old (h := hl) ..
  · rw [Array.getElem?_eq_none (show (w.alloc o).heap.size ≤ k by rw [show (w.alloc o).heap.size = w.heap.size + 1 by simp]; omega), Array.getElem?_eq_none (by omega)]
theorem Chg.refl (S : Nat → Prop) (w : World) : Chg S w w := ⟨rfl, rfl, rfl, Nat.le_refl _, fun _ _ _ => rfl, fun _ => rfl⟩
theorem Ext.refl (w : World) : Ext w w := Chg.refl _ w
theorem Chg.trans {S : Nat → Prop} {a b c : World} (h : Chg S a b) (k : Chg S b c) : Chg S a c :=
  ⟨k.os.trans h.os, k.tape.trans h.tape, k.output.trans h.output, Nat.le_trans h.size k.size, fun i hi hs => (k.block i (Nat.lt_of_lt_of_le hi h.size) hs).trans (h.block i hi hs), fun a => (k.froz a).trans (h.froz a)⟩
theorem Chg.mono {S T : Nat → Prop} {a b : World} (h : Chg S a b) (hst : ∀ k, k < a.heap.size → S k → T k) : Chg T a b :=
  ⟨h.os, h.tape, h.output, h.size, fun i hi hs => h.block i hi (fun hS => hs (hst i hi hS)), h.froz⟩
theorem Chg.trans' {S T U : Nat → Prop} {a b c : World} (h : Chg S a b) (k : Chg T b c) (h1 : ∀ i, i < a.heap.size → S i → U i) (h2 : ∀ i, i < a.heap.size → T i → U i) : Chg U a c :=
  ⟨k.os.trans h.os, k.tape.trans h.tape, k.output.trans h.output, Nat.le_trans h.size k.size,
   fun i hi hs => (k.block i (Nat.lt_of_lt_of_le hi h.size) (fun hT => hs (h2 i hi hT))).trans (h.block i hi (fun hS => hs (h1 i hi hS))), fun a => (k.froz a).trans (h.froz a)⟩
/-- a step on what is new leaves the old as it was -/
theorem Ext.step {S : Nat → Prop} {a b c : World} (h : Ext a b) (k : Chg S b c) (hS : ∀ i, S i → a.heap.size ≤ i) : Ext a c :=
  h.trans' k (fun _ _ x => x) (fun i hi hs => absurd (hS i hs) (by omega))
theorem Chg.thenExt {S : Nat → Prop} {a b c : World} (h : Chg S a b) (k : Ext b c) : Chg S a c := h.trans (k.mono fun _ _ x => x.elim)
theorem Chg.thenChg {S T : Nat → Prop} {a b c : World} (h : Chg S a b) (k : Chg T b c) (hs : ∀ i, i < a.heap.size → T i → S i) : Chg S a c := h.trans' k (fun _ _ x => x) hs
theorem Ext.drawn (w : World) : Ext w { w with drawn := w.drawn + 1 } := ⟨rfl, rfl, rfl, Nat.le_refl _, fun _ _ _ => rfl, fun _ => rfl⟩
theorem Ext.below {w w' : World} (h : Ext w w') : Below w.heap.size w w' := ⟨h.os, h.tape, h.output, h.size, fun k hk => h.block k hk (fun x => x)⟩

/-- a block that holds the cells l -/
def Blk (w : World) (b : Nat) (t : TypeId) (l : List Value) : Prop := w.heap[b]? = some (.cells l.toArray t (0, 0))
theorem Blk.lt {w : World} {b : Nat} {t : TypeId} {l : List Value} (h : Blk w b t l) : b < w.heap.size := (Array.getElem?_eq_some_iff.1 h).1
theorem Blk.chg {S : Nat → Prop} {w w' : World} {b : Nat} {t : TypeId} {l : List Value} (h : Blk w b t l) (hc : Chg S w w') (hs : ¬ S b) : Blk w' b t l := (hc.block b h.lt hs).trans h
theorem Blk.ext {w w' : World} {b : Nat} {t : TypeId} {l : List Value} (h : Blk w b t l) (hc : Ext w w') : Blk w' b t l := h.chg hc (fun x => x)

/-- cells from a place on -/
def Cells (w : World) (b o : Nat) (l : List Value) : Prop := ∀ j v, l[j]? = some v → w.cell? ⟨b, o + j, none⟩ = some v
theorem Blk.cells {w : World} {b : Nat} {t : TypeId} {l : List Value} (h : Blk w b t l) {o k : Nat} {l' : List Value} (hl : (l.drop o).take k = l') : Cells w b o l' := by
  intro j v hj
  subst hl
  rw [cell_of_row w b (o + j) _ t _ h]
  rw [List.getElem?_take] at hj
  split at hj
  · rw [List.getElem?_drop] at hj
    simpa using hj
  · cases hj
theorem Blk.all {w : World} {b : Nat} {t : TypeId} {l : List Value} (h : Blk w b t l) (k : Nat) (hk : l.length = k) : Cells w b 0 l :=
  h.cells (o := 0) (k := k) (by rw [List.drop_zero]; exact List.take_of_length_le (Nat.le_of_eq hk))
theorem Blk.cell {w : World} {b : Nat} {t : TypeId} {l : List Value} (h : Blk w b t l) {o : Nat} {v : Value} (hl : l[o]? = some v) : w.cell? ⟨b, o, none⟩ = some v := by
  rw [cell_of_row w b o _ t _ h]; simpa using hl
theorem Cells.chg {S : Nat → Prop} {w w' : World} {b o : Nat} {l : List Value} (h : Cells w b o l) (hc : Chg S w w') (hs : ¬ S b) : Cells w' b o l := by
  intro j v hj
  have hw := h j v hj
  have hlt : b < w.heap.size := World.block_lt_of_cell? (a := ⟨b, o + j, none⟩) w hw
  rw [World.cell?_of_block (w := w) (w' := w') (a := ⟨b, o + j, none⟩) (hc.block b hlt hs)]
  exact hw
theorem cell_chg {S : Nat → Prop} {w w' : World} {b o : Nat} {v : Value} (h : w.cell? ⟨b, o, none⟩ = some v) (hc : Chg S w w') (hs : ¬ S b) : w'.cell? ⟨b, o, none⟩ = some v := by
  have hlt : b < w.heap.size := World.block_lt_of_cell? (a := ⟨b, o, none⟩) w h
  rw [World.cell?_of_block (w := w) (w' := w') (a := ⟨b, o, none⟩) (hc.block b hlt hs)]
  exact h

-- types
/-- a struct or an array of k cells -/
def AggT (P : Program) (t k : Nat) : Prop := (∃ d, P.underlying t = some d ∧ (match d with | .struct _ | .array _ _ => true | _ => false) = true) ∧ (P.info? t).map (·.size) = some k
/-- a type of one cell -/
def OneT (P : Program) (t : Nat) : Prop := (∃ d, P.underlying t = some d ∧ (match d with | .struct _ | .array _ _ => true | _ => false) = false) ∧ (P.info? t).map (·.size) = some 1
/-- field i of struct s lies from cell off on -/
def FieldT (P : Program) (s i off : Nat) : Prop := ∃ fs fd k, P.underlying s = some (.struct fs) ∧ fs[i]? = some fd ∧ fd.offset = off ∧ (P.info? fd.type).map (·.size) = some (k + 1)
/-- and is of the type ft -/
def FieldV (P : Program) (s i off ft : Nat) : Prop := ∃ fs fd, P.underlying s = some (.struct fs) ∧ fs[i]? = some fd ∧ fd.offset = off ∧ fd.type = ft
def SliceT (P : Program) (t e k : Nat) : Prop := P.underlying t = some (.slice e) ∧ (P.info? e).map (·.size) = some k
def ArrT (P : Program) (t len e k : Nat) : Prop := P.underlying t = some (.array len e) ∧ (P.info? e).map (·.size) = some k
def ZeroT (P : Program) (t : Nat) (z : List Value) : Prop := ∃ v, (P.info? t).bind (·.zero) = some v ∧ v.cells.toList = z
def Callable (P : Program) (g : FuncId) : Prop := ∃ fn, P.funcs[g]? = some fn ∧ (fn.name == "runtime.NumGoroutine") = false ∧ fn.body.isNone = false

section
variable {P : Program} {f : Fr} {w : World} {d : Option Tmp} {ty : TypeId} {pos : String} {af : Array Edge} {gd : Option (Nat × Bool)}

theorem run_sizeOf {t k : Nat} (h : (P.info? t).map (·.size) = some k) (w : World) : (sizeOf t).run P w = .ok k w := by
  cases hq : P.info? t with
  | none => simp [hq] at h
  | some i => simp [sizeOf, typeInfo, hq] at h ⊢; exact h
theorem run_isAgg_true {t k : Nat} (h : AggT P t k) (w : World) : (isAgg t).run P w = .ok true w := by
  obtain ⟨⟨d, hu, hd⟩, _⟩ := h
  unfold isAgg
  rw [Sem.run_bind, run_underlying hu w]
  cases d <;> simp_all
theorem run_isAgg_false {t : Nat} (h : OneT P t) (w : World) : (isAgg t).run P w = .ok false w := by
  obtain ⟨⟨d, hu, hd⟩, _⟩ := h
  unfold isAgg
  rw [Sem.run_bind, run_underlying hu w]
  cases d <;> simp_all
theorem add_addr (b o n : Nat) : (⟨b, o, none⟩ : Addr).add n = ⟨b, o + n, none⟩ := by unfold Addr.add; split <;> simp_all

theorem run_loadVar_agg {t k b o : Nat} {l : List Value} (ht : AggT P t k) (hc : Cells w b o l) (hk : l.length = k) : (loadVar t ⟨b, o, none⟩).run P w = .ok (.agg l.toArray) w := by
  have hl : (loadCells ⟨b, o, none⟩ l.length).run P w = .ok l.toArray w :=
    run_loadCells_list (P := P) w ⟨b, o, none⟩ l (fun j v hv => by rw [add_addr]; exact hc j v hv)
  rw [hk] at hl
  simp [loadVar, Sem.run_bind, run_isAgg_true ht, run_sizeOf ht.2, hl]
theorem run_loadVar_one {t b o : Nat} {v : Value} (ht : OneT P t) (hc : w.cell? ⟨b, o, none⟩ = some v) : (loadVar t ⟨b, o, none⟩).run P w = .ok v w := by
  simp [loadVar, Sem.run_bind, run_isAgg_false ht, hc]

theorem does_load_agg {x : Operand} {t k b o : Nat} {l : List Value} (ht : AggT P t k) (hx : evF f x = .pointer (some ⟨b, o, none⟩)) (hc : Cells w b o l) (hk : l.length = k) : Does P ⟨d, .load t x, ty, pos, af, gd⟩ f w (.agg l.toArray) w := by
  simp [Does, execOp, hx, Instr.loadAt, Instr.sureAddr, run_loadVar_agg ht hc hk]
theorem does_load {x : Operand} {t b o : Nat} {v : Value} (ht : OneT P t) (hx : evF f x = .pointer (some ⟨b, o, none⟩)) (hc : w.cell? ⟨b, o, none⟩ = some v) : Does P ⟨d, .load t x, ty, pos, af, gd⟩ f w v w := by
  simp [Does, execOp, hx, Instr.loadAt, Instr.sureAddr, run_loadVar_one ht hc]
theorem does_fieldAddr {x : Operand} {s i off b o o' : Nat} (ht : FieldT P s i off) (hx : evF f x = .pointer (some ⟨b, o, none⟩)) (ho : o + off = o') : Does P ⟨d, .fieldAddr s x i, ty, pos, af, gd⟩ f w (.pointer (some ⟨b, o', none⟩)) w := by
  obtain ⟨fs, fd, k, hu, hf, hoff, hz⟩ := ht
  subst ho hoff
  simp [Does, execOp, hx, Instr.fieldAt, Instr.sureAddr, run_underlying hu, hf, fieldPlace, run_sizeOf hz, add_addr]
theorem does_indexSl {x y : Operand} {t e k b o len cap o' : Nat} {kd : IntKind} {i : Int} (ht : SliceT P t e k) (hx : evF f x = .slice (some ⟨b, o, none⟩) len cap) (hy : evF f y = .int kd i) (h0 : 0 ≤ i) (h1 : i < len) (ho : o + i.toNat * k = o') :
    Does P ⟨d, .indexAddr t x y, ty, pos, af, gd⟩ f w (.pointer (some ⟨b, o', none⟩)) w := by
  subst ho
  simp [Does, execOp, hx, hy, Instr.indexAt, asIntOf, run_underlying ht.1, h0, h1, run_sizeOf ht.2, add_addr]
theorem does_indexArr {x y : Operand} {t e k b o len o' : Nat} {kd : IntKind} {i : Int} (ht : ArrT P t len e k) (hx : evF f x = .pointer (some ⟨b, o, none⟩)) (hy : evF f y = .int kd i) (h0 : 0 ≤ i) (h1 : i < len) (ho : o + i.toNat * k = o') :
    Does P ⟨d, .indexAddr t x y, ty, pos, af, gd⟩ f w (.pointer (some ⟨b, o', none⟩)) w := by
  subst ho
  simp [Does, execOp, hx, hy, Instr.indexAt, Instr.sureAddr, asIntOf, run_underlying ht.1, h0, h1, run_sizeOf ht.2, add_addr]
theorem does_len {x : Operand} {t e k : Nat} {p : Option Addr} {n c : Nat} (ht : SliceT P t e k) (hx : evF f x = .slice p n c) : Does P ⟨d, .call ⟨.builtin .len, #[x], #[t]⟩, ty, pos, af, gd⟩ f w (.int .i64 n) w := by
  unfold Does execOp
  simp only [resolve, invoke, Sem.run_bind, Sem.run_pure, Result.andThen_ok, List.map_toArray, List.map_cons, List.map_nil, builtin, hx, Builtin.len_]
  simp [run_underlying ht.1, goInt]
theorem does_field_agg {x : Operand} {s i off ft k : Nat} {l l' : List Value} (ht : FieldV P s i off ft) (hf : AggT P ft k) (hx : evF f x = .agg l.toArray) (hl : (l.drop off).take k = l') : Does P ⟨d, .field s x i, ty, pos, af, gd⟩ f w (.agg l'.toArray) w := by
  obtain ⟨fs, fd, hu, hfi, rfl, rfl⟩ := ht
  subst hl
  simp [Does, execOp, hx, Instr.field, run_underlying hu, hfi, part, run_isAgg_true hf, run_sizeOf hf.2, asAgg, List.take_drop]
theorem does_field {x : Operand} {s i off ft : Nat} {l : List Value} {v : Value} (ht : FieldV P s i off ft) (hf : OneT P ft) (hx : evF f x = .agg l.toArray) (hl : l[off]? = some v) : Does P ⟨d, .field s x i, ty, pos, af, gd⟩ f w v w := by
  obtain ⟨fs, fd, hu, hfi, rfl, rfl⟩ := ht
  simp [Does, execOp, hx, Instr.field, run_underlying hu, hfi, part, run_isAgg_false hf, asAgg, hl]

theorem retOne_agg {p t k b o : Nat} {l : List Value} (ht : AggT P t k) (hp : f p = .pointer (some ⟨b, o, none⟩)) (hc : Cells w b o l) (hk : l.length = k) : RetOne P (.cell p t) f w (.agg l.toArray) := by
  unfold RetOne retSem
  simp [hp, asAddr, run_loadVar_agg ht hc hk]
theorem retOne_one {p t b o : Nat} {v : Value} (ht : OneT P t) (hp : f p = .pointer (some ⟨b, o, none⟩)) (hc : w.cell? ⟨b, o, none⟩ = some v) : RetOne P (.cell p t) f w v := by
  unfold RetOne retSem
  simp [hp, asAddr, run_loadVar_one ht hc]

/-- a struct or an array is put together: the zero value, part by part -/
def Bld (pl : List (Nat × Nat)) (cs : List Value) (vals : List (Nat × Value)) (out : List Value) : Prop := Instr.fill (fun i => pl.toArray[i]?) cs.toArray vals = some out.toArray
def BuT (P : Program) (t : Nat) (pl : List (Nat × Nat)) (z : List Value) : Prop := ∀ parts, P.built t parts = Instr.fill (fun i => pl.toArray[i]?) z.toArray parts
theorem Bld.nil {pl : List (Nat × Nat)} {cs : List Value} : Bld pl cs [] cs := rfl
theorem foldl_put : ∀ (vs : List Value) (k o : Nat) (a : Array Value) , o + k + vs.length ≤ a.size → (vs.zipIdx k).foldl (fun (cs : Array Value) (q : Value × Nat) => cs.setIfInBounds (o + q.2) q.1) a = (a.toList.take (o + k) ++ vs ++ a.toList.drop (o + k + vs.length)).toArray
  | [], k, o, a, h => by simp
  | u :: us, k, o, a, h => by
    simp only [List.length_cons] at h
    simp only [List.zipIdx_cons, List.foldl_cons]
    rw [foldl_put us (k + 1) o _ (by simp; omega)]
    have hs : (a.setIfInBounds (o + k) u).toList = a.toList.take (o + k) ++ u :: a.toList.drop (o + k + 1) := by
      rw [Array.toList_setIfInBounds, List.set_eq_take_append_cons_drop, if_pos (by simp; omega)]
    rw [hs]
    have e : (a.toList.take (o + k)).length = o + k := by simp; omega
    congr 1
    rw [show o + (k + 1) = (a.toList.take (o + k)).length + 1 by omega, List.take_append, show (a.toList.take (o + k)).length + 1 + us.length = (a.toList.take (o + k)).length + (us.length + 1) by omega, List.drop_append]
    simp [e]
    rw [List.take_of_length_le (by omega : (List.take (o + k) a.toList).length ≤ o + k + 1), List.drop_eq_nil_of_le (by omega : (List.take (o + k) a.toList).length ≤ o + k + (us.length + 1)), List.nil_append, show o + k + 1 + us.length = o + k + (us.length + 1) by omega]
theorem Bld.step {pl : List (Nat × Nat)} {cs cs' out l : List Value} {i off k : Nat} {v : Value} {rest : List (Nat × Value)} (hpl : pl.toArray[i]? = some (off, k)) (hv : v.cells = l.toArray) (hk : l.length = k) (hlen : off + k ≤ cs.length)
    (he : cs.take off ++ l ++ cs.drop (off + k) = cs') (h : Bld pl cs' rest out) : Bld pl cs ((i, v) :: rest) out := by
  subst hk he
  unfold Bld at h ⊢
  rw [Instr.fill, hpl]
  simp only [hv, List.size_toArray]
  rw [if_neg (by simp; omega)]
  have e := foldl_put l 0 off cs.toArray (by simpa using hlen)
  simp only [Nat.add_zero] at e
  have e5 : (l.toArray.zipIdx.foldl (fun cs (c, j) => cs.setIfInBounds (off + j) c) cs.toArray) = (cs.take off ++ l ++ cs.drop (off + l.length)).toArray := by
    rw [← Array.foldl_toList, Array.toList_zipIdx]
    exact e
  rw [e5]
  exact h
theorem Bld.one {pl : List (Nat × Nat)} {cs cs' out : List Value} {i off : Nat} {v : Value} {rest : List (Nat × Value)} (hpl : pl.toArray[i]? = some (off, 1)) (hv : v.oneCell' = true) (hlen : off < cs.length)
    (he : cs.set off v = cs') (h : Bld pl cs' rest out) : Bld pl cs ((i, v) :: rest) out := by
  have hc : v.cells = #[v] := by cases v <;> simp_all [Value.oneCell', Value.cells]
  refine Bld.step (l := [v]) hpl hc rfl (by omega) ?_ h
  rw [← he, List.set_eq_take_append_cons_drop, if_pos hlen]
  simp
theorem does_build {t : Nat} {pl : List (Nat × Nat)} {z out : List Value} {parts : Array (Nat × Operand)} (hb : BuT P t pl z) (hf : Bld pl z (parts.toList.map fun q => (q.1, evF f q.2)) out) : Does P ⟨d, .build t parts, ty, pos, af, gd⟩ f w (.agg out.toArray) w := by
  have h := run_build (P := P) w t (parts.map fun q => (q.1, evF f q.2)) out.toArray (by rw [hb, Array.toList_map]; exact hf)
  unfold Does
  show (execOp (evF f) _).run P w = _
  unfold execOp
  simp only [Sem.run_bind, h, Result.andThen_ok, Sem.run_pure]

theorem does_build0 {t : Nat} {z : List Value} (hb : P.built t [] = some z.toArray) : Does P ⟨d, .build t #[], ty, pos, af, gd⟩ f w (.agg z.toArray) w := by
  have h := run_build (P := P) w t #[] z.toArray hb
  unfold Does
  show (execOp (evF f) _).run P w = _
  unfold execOp
  have e : ((#[] : Array (Nat × Operand)).map fun q => (q.1, evF f q.2)) = #[] := by simp
  simp only [Sem.run_bind, e, h, Result.andThen_ok, Sem.run_pure]

theorem does_call {g : FuncId} {xs : Array Operand} {ats : Array TypeId} (hg : Callable P g) : Enters P ⟨d, .call ⟨.value (.func g), xs, ats⟩, ty, pos, af, gd⟩ f w g (xs.toList.map (evF f)).toArray := by
  obtain ⟨fn, hf, hn, hb⟩ := hg
  have hx : (xs.toList.map (evF f)).toArray = xs.map (evF f) := by rw [← Array.toList_map]
  have h1 : execOp (evF f) ⟨d, .call ⟨.value (.func g), xs, ats⟩, ty, pos, af, gd⟩ = callFunc g (#[] ++ xs.map (evF f) ++ #[]) := rfl
  unfold Enters
  rw [h1, hx]
  simp only [callFunc, Sem.run_bind, run_program, Result.andThen_ok, hf, hn, hb]
  simp

theorem cons2 {a b : Value} {l l' : List Value} (h : a = b) (hl : l = l') : a :: l = b :: l' := by rw [h, hl]
theorem does_callg {g : FuncId} {xs : Array Operand} {ats : Array TypeId} {l : List Value} (hg : Callable P g) (hx : xs.toList.map (evF f) = l) : Enters P ⟨d, .call ⟨.value (.func g), xs, ats⟩, ty, pos, af, gd⟩ f w g l.toArray := hx ▸ does_call hg

theorem does_callv {c : Operand} {g : FuncId} {fi ca xs ats : _} (hg : Callable P g) (hv : evF f c = .func (.func g) fi ca) : Enters P ⟨d, .call ⟨.value c, xs, ats⟩, ty, pos, af, gd⟩ f w g (fi.toList ++ xs.toList.map (evF f) ++ ca.toList).toArray := by
  obtain ⟨fn, hf, hn, hb⟩ := hg
  have h1 : execOp (evF f) ⟨d, .call ⟨.value c, xs, ats⟩, ty, pos, af, gd⟩ = (do let d ← Deferred.ofValue (evF f c) (xs.map (evF f)); invoke d.target d.args) := rfl
  have hx : (fi.toList ++ xs.toList.map (evF f) ++ ca.toList).toArray = fi ++ xs.map (evF f) ++ ca := by
    apply Array.toList_inj.1
    simp
  unfold Enters
  rw [h1, hx, hv]
  simp only [Deferred.ofValue, Sem.run_bind, Sem.run_pure, Result.andThen_ok, invoke, callFunc, run_program, hf, hn, hb]
  simp
theorem does_func {fn : Fn} {first captured : Array Operand} {fi ca : Array Value} (h1 : first.map (evF f) = fi) (h2 : captured.map (evF f) = ca) : Does P ⟨d, .makeFunc fn first captured, ty, pos, af, gd⟩ f w (.func fn fi ca) w := by
  subst h1 h2; rfl
theorem does_funcl {fn : Fn} {fs cs : List Operand} : Does P ⟨d, .makeFunc fn fs.toArray cs.toArray, ty, pos, af, gd⟩ f w (.func fn (fs.map (evF f)).toArray (cs.map (evF f)).toArray) w := does_func (by simp) (by simp)
theorem does_mv_f {x : Operand} {a : Fn} {b c : Array Value} (h : evF f x = .func a b c) : Does P ⟨d, .move x, ty, pos, af, gd⟩ f w (.func a b c) w := does_move h
theorem does_as_f {x : Operand} {a : Fn} {b c : Array Value} (h : evF f x = .func a b c) : Does P ⟨d, .assign x, ty, pos, af, gd⟩ f w (.func a b c) w := does_assign h
theorem does_mv_m {x : Operand} {v : Option Nat} (h : evF f x = .map v) : Does P ⟨d, .move x, ty, pos, af, gd⟩ f w (.map v) w := does_move h
theorem does_as_m {x : Operand} {v : Option Nat} (h : evF f x = .map v) : Does P ⟨d, .assign x, ty, pos, af, gd⟩ f w (.map v) w := does_assign h
theorem does_as_a {x : Operand} {v : Array Value} (h : evF f x = .agg v) : Does P ⟨d, .assign x, ty, pos, af, gd⟩ f w (.agg v) w := does_assign h
theorem does_as_t {x : Operand} {v : Array Value} (h : evF f x = .tuple v) : Does P ⟨d, .assign x, ty, pos, af, gd⟩ f w (.tuple v) w := does_assign h
theorem does_max {x y : Operand} {ats : Array TypeId} {k : IntKind} {a b : Int} (hx : evF f x = .int k a) (hy : evF f y = .int k b) : Does P ⟨d, .call ⟨.builtin .max, #[x, y], ats⟩, ty, pos, af, gd⟩ f w (.int k (if a < b then b else a)) w := by
  unfold Does execOp
  simp only [resolve, invoke, Sem.run_bind, Sem.run_pure, Result.andThen_ok, List.map_toArray, List.map_cons, List.map_nil, builtin, hx, hy, Builtin.max_]
  simp [Builtin.max2]
theorem does_min {x y : Operand} {ats : Array TypeId} {k : IntKind} {a b : Int} (hx : evF f x = .int k a) (hy : evF f y = .int k b) : Does P ⟨d, .call ⟨.builtin .min, #[x, y], ats⟩, ty, pos, af, gd⟩ f w (.int k (if b < a then b else a)) w := by
  unfold Does execOp
  simp only [resolve, invoke, Sem.run_bind, Sem.run_pure, Result.andThen_ok, List.map_toArray, List.map_cons, List.map_nil, builtin, hx, hy, Builtin.min_]
  simp [Builtin.min2]

-- new blocks, and stores
/-- w' is w with one block more -/
structure New (w w' : World) (b : Nat) (t : TypeId) (l : List Value) : Prop where
  at_ : b = w.heap.size
  eq : w' = w.alloc (.cells l.toArray t)
theorem New.blk {w w' : World} {b : Nat} {t : TypeId} {l : List Value} (h : New w w' b t l) : Blk w' b t l := by
  obtain ⟨rfl, rfl⟩ := h
  exact heap_alloc_new w _
theorem New.ext {w w' : World} {b : Nat} {t : TypeId} {l : List Value} (h : New w w' b t l) : Ext w w' := by
  obtain ⟨rfl, rfl⟩ := h
  exact ⟨rfl, rfl, rfl, by simp, fun k hk _ => heap_alloc_old (h := hk) .., froz_alloc _ _ (thawed.cells _ _)⟩
theorem New.size {w w' : World} {b : Nat} {t : TypeId} {l : List Value} (h : New w w' b t l) : w'.heap.size = w.heap.size + 1 := by
  obtain ⟨rfl, rfl⟩ := h
  simp

variable {rd : Option Nat} {n : Nat} {dm : List Nat} {ops : Array Oper} {Q : Post} {rest : List Oper}

/-- a byte of a text -/
def sb (s : ByteArray) (i : Nat) : Int := ((s[i]?).map fun b => (b.toNat : Int)).getD 0
theorem sb_byte (s : ByteArray) (i : Nat) : 0 ≤ sb s i ∧ sb s i < 256 := by
  unfold sb
  cases s[i]? with
  | none => decide
  | some b => have := b.toNat_lt; simp; omega
theorem does_indexStr {x y : Operand} {t : Nat} {kd : IntKind} {i : Int} {s : ByteArray} (ht : P.underlying t = some .string) (hx : evF f x = .string s) (hy : evF f y = .int kd i) (h0 : 0 ≤ i) (h1 : i < s.size) : Does P ⟨d, .index t x y, ty, pos, af, gd⟩ f w (.int .u8 (sb s i.toNat)) w := by
  have hlt : i.toNat < s.size := by omega
  simp [Does, execOp, hx, hy, Instr.index, asIntOf, run_underlying ht, h0, hlt, sb]
theorem does_lenStr {x : Operand} {t : Nat} {s : ByteArray} (ht : P.underlying t = some .string) (hx : evF f x = .string s) : Does P ⟨d, .call ⟨.builtin .len, #[x], #[t]⟩, ty, pos, af, gd⟩ f w (.int .i64 s.size) w := by
  unfold Does execOp
  simp only [resolve, invoke, Sem.run_bind, Sem.run_pure, Result.andThen_ok, List.map_toArray, List.map_cons, List.map_nil, builtin, hx, Builtin.len_]
  simp [goInt, run_underlying ht]
/-- a guarded call that leaves the old as it was -/
theorem wl_gcall2 {dd : Tmp} {op : Op} {j : Nat} {pol c t : Bool} {v : Value} {oj : Oper} {dj : Tmp} {g : FuncId} {args : Array Value} (hj : ops[j]? = some oj) (hdj : oj.dst = some dj) (ht : f dj = gv c (.bool t)) (hdn : dj < n)
    (he : (c && (t == pol)) = true → Enters P ⟨some dd, op, ty, pos, af, some (j, pol)⟩ f w g args) (hd : dd < n)
    (hc : (c && (t == pol)) = true → Calls P g args w fun e w' => ∃ v', e = .returned v' ∧ (v' = v ∧ Ext w w'))
    (h : ∀ w', Ext w w' → wl P rd n dm ops rest Q (upd f dd (gv (c && (t == pol)) v)) w') : wl P rd n dm ops (⟨some dd, op, ty, pos, af, some (j, pol)⟩ :: rest) Q f w := fun a ha => by
  refine wpListIn_step fun K hK => ?_
  rw [wanted_gv ha rfl hj hdj ht hdn]
  cases hcc : (c && (t == pol)) with
  | true =>
    rw [if_pos rfl]
    refine op_wp ha (he hcc) (by simp) (show _ ∧ _ from ⟨fun h => (by cases h), ?_⟩)
    refine CallsIn.mono (show CallsIn (fen rd) _ P g args w _ from callsIn_wide.2 (hc hcc)) ?_
    rintro e w' ⟨v', rfl, rfl, hx⟩
    have h2 := h w' hx
    rw [hcc, gv_yes rfl] at h2
    exact hK _ _ (h2 _ (ha.put hd _))
  | false =>
    rw [if_neg (by simp)]
    have h2 := h w (Ext.refl w)
    rw [hcc, gv_f] at h2
    exact ⟨fun _ _ => trivial, hK _ _ (h2 _ (ha.put hd _))⟩
theorem wl_gcall {dd : Tmp} {op : Op} {j : Nat} {pol t : Bool} {v : Value} {oj : Oper} {dj : Tmp} {g : FuncId} {args : Array Value} (hj : ops[j]? = some oj) (hdj : oj.dst = some dj) (ht : f dj = .bool t) (hdn : dj < n)
    (he : (t == pol) = true → Enters P ⟨some dd, op, ty, pos, af, some (j, pol)⟩ f w g args) (hd : dd < n)
    (hc : (t == pol) = true → Calls P g args w fun e w' => ∃ v', e = .returned v' ∧ (v' = v ∧ Ext w w'))
    (h : ∀ w', Ext w w' → wl P rd n dm ops rest Q (upd f dd (gv (t == pol) v)) w') : wl P rd n dm ops (⟨some dd, op, ty, pos, af, some (j, pol)⟩ :: rest) Q f w :=
  wl_gcall2 (c := true) hj hdj (by rw [ht]; exact gv_t _) hdn he hd hc h
theorem wl_box {dd : Tmp} {x : Operand} {t : TypeId} {v : Value} {l : List Value} (hx : evF f x = v) (hl : v.cells.toList = l) (hd : dd < n)
    (h : ∀ b w', New w w' b t l → wl P rd n dm ops rest Q (upd f dd (.pointer (some ⟨b, 0, none⟩))) w') : wl P rd n dm ops (⟨some dd, .box t x, ty, pos, af, none⟩ :: rest) Q f w := by
  refine wl_does (v := .pointer (some ⟨w.heap.size, 0, none⟩)) (w' := w.alloc (.cells l.toArray t)) ?_ hd (h _ _ ⟨rfl, rfl⟩)
  subst hx hl
  simp [Does, execOp, Instr.box, newVar, newRow]
theorem wl_alloc {dd : Tmp} {t : TypeId} {l : List Value} (hz : ZeroT P t l) (hd : dd < n)
    (h : ∀ b w', New w w' b t l → wl P rd n dm ops rest Q (upd f dd (.pointer (some ⟨b, 0, none⟩))) w') : wl P rd n dm ops (⟨some dd, .alloc t, ty, pos, af, none⟩ :: rest) Q f w := by
  obtain ⟨v, hv, rfl⟩ := hz
  refine wl_does (v := .pointer (some ⟨w.heap.size, 0, none⟩)) (w' := w.alloc (.cells v.cells t)) ?_ hd (h _ _ ⟨rfl, by simp⟩)
  cases hq : P.info? t with
  | none => simp [hq] at hv
  | some i =>
    have hi : i.zero = some v := by simpa [hq] using hv
    simp [Does, execOp, Instr.alloc, zeroValue, typeInfo, hq, hi, newVar, newRow]

theorem wl_box_agg {dd : Tmp} {x : Operand} {t : TypeId} {l : List Value} (hx : evF f x = .agg l.toArray) (hd : dd < n)
    (h : ∀ b w', New w w' b t l → wl P rd n dm ops rest Q (upd f dd (.pointer (some ⟨b, 0, none⟩))) w') : wl P rd n dm ops (⟨some dd, .box t x, ty, pos, af, none⟩ :: rest) Q f w :=
  wl_box hx rfl hd h
theorem wl_box_i {dd : Tmp} {x : Operand} {t : TypeId} {k : IntKind} {v : Int} (hx : evF f x = .int k v) (hd : dd < n)
    (h : ∀ b w', New w w' b t [.int k v] → wl P rd n dm ops rest Q (upd f dd (.pointer (some ⟨b, 0, none⟩))) w') : wl P rd n dm ops (⟨some dd, .box t x, ty, pos, af, none⟩ :: rest) Q f w :=
  wl_box hx rfl hd h
theorem wl_box_p {dd : Tmp} {x : Operand} {t : TypeId} {v : Option Addr} (hx : evF f x = .pointer v) (hd : dd < n)
    (h : ∀ b w', New w w' b t [.pointer v] → wl P rd n dm ops rest Q (upd f dd (.pointer (some ⟨b, 0, none⟩))) w') : wl P rd n dm ops (⟨some dd, .box t x, ty, pos, af, none⟩ :: rest) Q f w :=
  wl_box hx rfl hd h
theorem wl_box_f {dd : Tmp} {x : Operand} {t : TypeId} {a : Fn} {b c : Array Value} (hx : evF f x = .func a b c) (hd : dd < n)
    (h : ∀ bb w', New w w' bb t [.func a b c] → wl P rd n dm ops rest Q (upd f dd (.pointer (some ⟨bb, 0, none⟩))) w') : wl P rd n dm ops (⟨some dd, .box t x, ty, pos, af, none⟩ :: rest) Q f w :=
  wl_box hx rfl hd h

theorem setRow_chg {w : World} {b : Nat} {t : TypeId} {l l' : List Value} (hb : Blk w b t l) : Blk (w.setRow b l'.toArray) b t l' ∧ Chg (· = b) w (w.setRow b l'.toArray) ∧ (w.setRow b l'.toArray).heap.size = w.heap.size :=
  ⟨setRow_heap w b _ _ t _ hb, ⟨rfl, rfl, rfl, by simp, fun k _ hk => setRow_other w b k _ hk, froz_at b (by rw [setRow_heap w b _ _ t _ hb]; exact thawed.cells _ _) (by rw [hb]; exact thawed.cells _ _) fun k hk => setRow_other w b k _ hk⟩, by simp⟩
theorem store_all {l vs : List Value} {k : Nat} (h : l.length = k) : l.take 0 ++ vs ++ l.drop (0 + k) = vs := by subst h; simp
theorem wl_store_agg {t s k b o : Nat} {x y : Operand} {l vs l' : List Value} (ht : AggT P s k) (hx : evF f x = .pointer (some ⟨b, o, none⟩)) (hy : evF f y = .agg vs.toArray) (hb : Blk w b t l) (hk : vs.length = k) (hl : o + k ≤ l.length)
    (h1 : ∀ v ∈ vs, v.oneCell' = true) (he : l.take o ++ vs ++ l.drop (o + k) = l')
    (h : ∀ w', Blk w' b t l' → Chg (· = b) w w' → w'.heap.size = w.heap.size → wl P rd n dm ops rest Q f w') : wl P rd n dm ops (⟨none, .store s x y, ty, pos, af, none⟩ :: rest) Q f w := by
  subst he hk
  obtain ⟨r1, r2, r3⟩ := setRow_chg (l' := l.take o ++ vs ++ l.drop (o + vs.length)) hb
  refine wl_acts ?_ (h _ r1 r2 r3)
  have := run_storeCells_at (P := P) b o t vs 0 l.toArray w hb (by simpa using hl) h1
  simp only [Nat.add_zero] at this
  simp [Acts, execOp, hx, hy, Instr.storeAt, Instr.sureAddr, storeVar, run_sizeOf ht.2, Value.cells, this]
theorem wl_store {t s b o : Nat} {x y : Operand} {l l' : List Value} {v : Value} (ht : OneT P s) (hx : evF f x = .pointer (some ⟨b, o, none⟩)) (hy : evF f y = v) (hb : Blk w b t l) (hl : o < l.length)
    (h1 : v.oneCell' = true) (he : l.set o v = l')
    (h : ∀ w', Blk w' b t l' → Chg (· = b) w w' → w'.heap.size = w.heap.size → wl P rd n dm ops rest Q f w') : wl P rd n dm ops (⟨none, .store s x y, ty, pos, af, none⟩ :: rest) Q f w := by
  subst he
  have hs : l.set o v = l.take o ++ [v] ++ l.drop (o + 1) := by
    rw [List.set_eq_take_append_cons_drop, if_pos hl]; simp
  obtain ⟨r1, r2, r3⟩ := setRow_chg (l' := l.set o v) hb
  refine wl_acts ?_ (h _ r1 r2 r3)
  have := run_storeCells_at (P := P) b o t [v] 0 l.toArray w hb (by simp; omega) (by simpa using h1)
  simp only [Nat.add_zero] at this
  have hc : v.cells = #[v] := by cases v <;> simp_all [Value.oneCell', Value.cells]
  rw [hs]
  simp at this
  simp [Acts, execOp, hx, hy, Instr.storeAt, Instr.sureAddr, storeVar, run_sizeOf ht.2, hc, this]
end
end Gw
end Go.Proofs.YtjjkhjieegmphaaDoor
