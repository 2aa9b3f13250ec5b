/- TypesProve, where what it reads is of the bulk that the row names: the row's statement and its card. The variable errors.errorType reads as the program lays it. Printed by card13.py, a program of mine. -/
import Derived.Test.YtjebgcoknpcadaaGreatDoorMP5
import Derived.Test.YtjebgcoknpcadaaGreatDoorCards
import Derived.Test.YtjebgcoknpcadaaGreatDoorTie
import Derived.WalkKit
import Derived.ProofKit
import Derived.OpenShut
import Derived.Deep.DeepHandedRow
import Derived.Deep.Slices
import Derived.LaidHandle
import Derived.Lib.LaidTab
set_option linter.unusedVariables false
set_option linter.unusedSimpArgs false
section
namespace Go.Proofs.YtjebgcoknpcadaaGreatDoor
open Gw Go.ChangeShapes Go.WideShapes Go.ChangeAt Go.RowKit
set_option maxRecDepth 100000
theorem ownKnob_none : ownKnob PP.godebug = none := by kernel_rfl
theorem laidOut_PP : laidOutB PP = true := by kernel_rfl
theorem trodAll_stays {H : Type} {enc : TypeId × Value → H} {W W' : World} {sp : Nat → Bool} : ∀ {ts : List TypeId} {vs : List Value} {ds : List (DataW H)} {ps : List MemPlace}, (∀ t ∈ ts, PP.readableRec t = true ∧ t < PP.types.size) →
  DataW.TrodAll enc PP W 0 (fun _ => true) true ts vs ds ps → (∀ p ∈ ps, W.sameAt W' p) → (∀ p ∈ ps, sp p.block = true) → DataW.TrodAll enc PP W' 0 sp true ts vs ds ps
 | [], vs, ds, ps, _, h, _, _ => by
  obtain ⟨rfl, rfl, rfl⟩ := trodAll_nil h
  exact trodAll_mk0
 | t :: ts, vs, ds, ps, hr, h, h1, h2 => by
  obtain ⟨v, vs, d, ds, p, q, rfl, rfl, rfl, h0, h3⟩ := trodAll_cons h
  have ht := hr t (by simp)
  exact trodAll_cons_mk (WideElems.Trod_stays laidOut_PP ht.1 ht.2 h0 (fun x hx => h1 x (by simp [hx])) (fun x hx => h2 x (by simp [hx])))
   (trodAll_stays (fun t ht => hr t (by simp [ht])) h3 (fun x hx => h1 x (by simp [hx])) (fun x hx => h2 x (by simp [hx])))
def oth0 : Oth := ⟨fun _ => False, [], fun _ h => by cases h⟩
section
variable {P : Program} {W : World} {b t : Nat} {k : IntKind} {v : Value}
theorem cell_int (ht : P.underlying t = some (.int k)) (h : Cell.okWide P W .any b t v) : ∃ n, v = .int k n ∧ k.has n := by
 simp only [Cell.okWide, ht] at h
 cases v <;> simp_all [Cell.ok]
theorem int_of (ht : P.underlying t = some (.int k)) (h : Value.okWide P W .any b t v) : ∃ n, v = .int k n ∧ k.has n := by
 unfold Value.okWide at h
 rw [ht] at h
 exact cell_int ht h
end
section
variable {H : Type} {enc : TypeId × Value → H} {P : Program} {W : World} {t : TypeId} {fuel : Nat} {cs : List Value} {x : DataW H × List MemPlace} {sp : Nat → Bool} {hd : Bool} {b0 : Nat}
theorem take_one {l : List Value} {o : Nat} {v : Value} (h : (l.drop o).take 1 = [v]) : l[o]? = some v := by
 have : ((l.drop o).take 1)[0]? = some v := by rw [h]; rfl
 rw [List.getElem?_take] at this
 simpa using this
theorem fld_int {i off ft : Nat} {k : IntKind} (hf : jn P t i off ft) (hk : P.underlying ft = some (.int k)) (hc : P.cellsOf ft = 1) (h : DataW.trod enc P W b0 sp hd fuel t cs = some x) : ∃ n, cs[off]? = some (.int k n) := by
 obtain ⟨fs, fd, hu, hi, rfl, rfl⟩ := hf
 obtain ⟨xs, n, _, _, hl, hx, hall⟩ := DataW.trod_struct hu h
 have h1 := hall i fd hi
 have h2 : i < xs.length := by rw [hx]; exact (Array.getElem?_eq_some_iff.1 hi).1
 rw [List.getElem?_eq_getElem h2, hc] at h1
 obtain ⟨n, e, _⟩ := DataW.trod_int hk h1
 exact ⟨n, take_one e⟩
theorem fld_str {i off ft : Nat} (hf : jn P t i off ft) (hk : P.underlying ft = some .string) (hc : P.cellsOf ft = 1) (h : DataW.trod enc P W b0 sp hd fuel t cs = some x) : ∃ s : ByteArray, cs[off]? = some (.string s) ∧ s.size ≤ maxLen := by
 obtain ⟨fs, fd, hu, hi, rfl, rfl⟩ := hf
 obtain ⟨xs, n, _, _, hl, hx, hall⟩ := DataW.trod_struct hu h
 have h1 := hall i fd hi
 have h2 : i < xs.length := by rw [hx]; exact (Array.getElem?_eq_some_iff.1 hi).1
 rw [List.getElem?_eq_getElem h2, hc] at h1
 obtain ⟨s, e, _, hs⟩ := DataW.trod_string hk h1
 exact ⟨s, take_one e, hs⟩
theorem slice_of {α : Type} [Inhabited α] {e k : Nat} {C : α → List Value} {Q : α → Prop} {base : Nat} {v : Value} {d : DataW H} {ps : List MemPlace} (ht : P.underlying t = some (.slice e)) (hk : P.cellsOf e = k) (hC : ∀ a, (C a).length = k) (hk0 : 0 < k)
  (hel : ∀ (n : Nat) (cs : List Value) (x : DataW H × List MemPlace), DataW.trod enc P W 0 (fun _ => true) true n e cs = some x → ∃ a, cs = C a ∧ Q a)
  (hval : Value.okWide P W .any base t v) (h : DataW.Trod enc P W 0 (fun _ => true) true t v d ps) :
  ∃ (l : List α) (s : SlV), v = s.v ∧ Rd W k s (l.map C) ∧ (∀ a ∈ l, Q a) ∧ (l = [] ∨ ∃ elems spare, d = .slice elems spare ∧ elems.length = l.length) := by
 obtain ⟨a0, len0, cap0, rfl⟩ := okWide_slice ht hval
 obtain ⟨fuel, hf⟩ := h
 rcases Deep.open_slice ht hf with ⟨h1, h2⟩ | ⟨a, len, cap, m, n, D, Pl, h1, _, hlc, hcm, hm, h2, hx⟩
 ·simp [Value.cells] at h1
  obtain ⟨rfl, rfl, rfl⟩ := h1
  exact ⟨[], SlV.nil, SlV.nil_eq, Rd.nil W k, by simp, .inl rfl⟩
 ·simp [Value.cells] at h1
  obtain ⟨rfl, rfl, rfl⟩ := h1
  have hval2 := hval
  simp only [Value.okWide, ht, Cell.okWide, Cell.ok] at hval2
  obtain ⟨_, _, _, hspot, row, cells, hshape, _⟩ := hval2
  obtain ⟨ab, ao, asp⟩ := a
  obtain rfl : asp = none := hspot
  simp only at hshape
  have hlt : ab < W.heap.size := by
   unfold World.shape? at hshape
   cases hh : W.heap[ab]? with
   | none => rw [hh] at hshape; cases hshape
   | some o => exact (Array.getElem?_eq_some_iff.1 hh).1
  have hmc : m = cap0 := by rw [hm]; rfl
  obtain ⟨f, hfx⟩ := Deep.choose_lt (α := α) (n := len0) (p := fun i y => W.cells? 0 ((⟨ab, ao, none⟩ : Addr).add (i * P.cellsOf e)) (P.cellsOf e) = some (C y) ∧ Q y) (fun i hi => by
   obtain ⟨cs', hc, ht'⟩ := hx i (by omega)
   obtain ⟨y, rfl, hq⟩ := hel _ _ _ ht'
   exact ⟨y, hc, hq⟩)
  refine ⟨(List.range len0).map f, ⟨some ⟨ab, ao, none⟩, len0, cap0⟩, by rw [SlV.eq], ⟨⟨by simp, ?_, ?_⟩, ?_, hlc⟩, ?_, .inr ⟨_, _, by simpa using congrArg Prod.fst h2, by simp⟩⟩
  ·intro r hr
   obtain ⟨y, _, rfl⟩ := List.mem_map.1 hr
   exact hC y
  ·intro i r hr
   rw [List.getElem?_map, List.getElem?_map] at hr
   have hi : i < len0 := by
    refine Nat.lt_of_not_le fun q => ?_
    rw [List.getElem?_eq_none (by simpa using q)] at hr; cases hr
   rw [List.getElem?_eq_getElem (by simpa using hi)] at hr
   simp only [List.getElem_range, Option.map_some, Option.some.injEq] at hr
   subst hr
   obtain ⟨h3, _⟩ := hfx i hi
   obtain ⟨_, hl, hc⟩ := World.cells?_some h3
   refine ⟨rfl, fun j v hv => ?_⟩
   have hj : j < k := by have := (List.getElem?_eq_some_iff.1 hv).1; rw [hC] at this; exact this
   have h4 := hc j (by rw [hk]; exact hj)
   rw [hv] at h4
   have hadd : ((⟨ab, ao, none⟩ : Addr).add (i * P.cellsOf e)).add j = ⟨ab, ao + i * k + j, none⟩ := by
    rw [hk]
    unfold Addr.add
    by_cases h5 : i * k = 0
    ·by_cases h6 : j = 0
     ·simp [h5, h6]
     ·simp [h5, h6]
    ·by_cases h6 : j = 0
     ·simp [h5, h6]
     ·simp [h5, h6]
   rw [hadd] at h4
   exact h4
  ·rintro i ⟨_, rfl⟩
   exact hlt
  ·intro y hy
   obtain ⟨i, hi, rfl⟩ := List.mem_map.1 hy
   exact (hfx i (List.mem_range.1 hi)).2
end
instance : Inhabited Nd := ⟨Nd.z⟩
theorem nds_of {H : Type} {enc : TypeId × Value → H} {W : World} {base : Nat} {v : Value} {d : DataW H} {ps : List MemPlace} (hval : Value.okWide PP W .any base un v) (h : DataW.Trod enc PP W 0 (fun _ => true) true un v d ps) :
  ∃ (l : List Nd) (s : SlV), v = s.v ∧ Rd W 4 s (l.map Nd.C) ∧ (∀ a ∈ l, a.name.size < 9223372036854775808) ∧ (l = [] ∨ ∃ elems spare, d = .slice elems spare ∧ elems.length = l.length) := by
 refine slice_of z9.1 (by kernel_rfl) Nd.len (by decide) (fun n cs x hx => ?_) hval h
 obtain ⟨a, ha⟩ := fld_int jl un_api_Kind (by kernel_rfl) hx
 obtain ⟨b, hb, hbs⟩ := fld_str fv_Nd_name yM (by kernel_rfl) hx
 obtain ⟨c, hc⟩ := fld_int fv_Nd_l un_int (by kernel_rfl) hx
 obtain ⟨d, hd⟩ := fld_int fv_Nd_r un_int (by kernel_rfl) hx
 obtain ⟨fs, fd, hu, _⟩ := jl
 obtain ⟨xs, n', _, _, hl, _⟩ := DataW.trod_struct hu hx
 have hl : cs.length = 4 := hl.trans (by kernel_rfl)
 refine ⟨⟨a, b, c, d⟩, ?_, by have : maxLen = 9223372036854775807 := rfl; show b.size < _; omega⟩
 match cs, hl with
 | [v0, v1, v2, v3], _ =>
  simp at ha hb hc hd
  subst ha hb hc hd
  rfl
theorem bulk_one {H : Type} (d : DataW H) : 1 ≤ Rows.uptoBulk d := by
 cases d with
 | lit l => cases l <;> simp [Rows.uptoBulk]
 | nil => simp [Rows.uptoBulk]
 | ptr d => simp [Rows.uptoBulk]
 | slice elems spare => simp [Rows.uptoBulk]
 | agg parts => simp [Rows.uptoBulk]
 | iface t d => simp [Rows.uptoBulk]
 | map entries => simp [Rows.uptoBulk]
 | held h => simp [Rows.uptoBulk]
theorem bulk_part {H : Type} {d : DataW H} {l : List (DataW H)} (h : d ∈ l) : Rows.uptoBulk d ≤ Rows.uptoBulkAll l := by
 induction l with
 | nil => cases h
 | cons x r ih =>
  simp only [Rows.uptoBulkAll]
  cases List.mem_cons.1 h with
  | inl e => subst e; omega
  | inr e => have := ih e; omega
theorem bulk_len {H : Type} (l : List (DataW H)) : l.length ≤ Rows.uptoBulkAll l := by
 induction l with
 | nil => simp [Rows.uptoBulkAll]
 | cons x r ih => have := bulk_one x; simp only [Rows.uptoBulkAll, List.length_cons]; omega
theorem small_len {H : Type} {α : Type} {l : List α} {d : DataW H} {ds : List (DataW H)} (hk : Rows.uptoSmall H ds = true) (hd : d ∈ ds) (h : l = [] ∨ ∃ elems spare, d = .slice elems spare ∧ elems.length = l.length) : l.length ≤ 1048576 := by
 rcases h with rfl | ⟨elems, spare, rfl, he⟩
 ·simp
 ·have h1 := bulk_part hd
  have h2 := bulk_len elems
  have h3 : Rows.uptoBulkAll ds ≤ 1048576 := by simpa [Rows.uptoSmall] using hk
  simp only [Rows.uptoBulk] at h1
  omega
def Held (W : World) (Z : List OA) : Prop := ∀ z ∈ Z, ∃ F, z.holds W F
theorem Held.nil {W : World} : Held W [] := fun _ h => by cases h
theorem Held.cons {W : World} {z : OA} {Z : List OA} (h : ∃ F, z.holds W F) (hz : Held W Z) : Held W (z :: Z) := fun x hx => by
 rcases List.mem_cons.1 hx with rfl | hx
 ·exact h
 ·exact hz x hx
theorem Held.s {W : World} {Z : List OA} {k : Nat} {α : Type} {C : α → List Value} {s : SlV} {l : List α} (hr : Rd W k s (l.map C)) (hl : l.length ≤ 140737488355328) (hz : Held W Z) : Held W (fS k C s l :: Z) :=
 .cons ⟨s.fp, ⟨hr, hl⟩, fun _ => Iff.rfl⟩ hz
theorem stheld {W : World} {Z : List OA} (h : Held W Z) : St (fun _ => False) oth0 W W [] Z :=
 ⟨fun _ => False, fun _ h => h.elim, fun _ h => h.elim, Chg.refl _ _, trivial, fun z hz => by
  obtain ⟨F, hF⟩ := h z hz
  exact ⟨F, hF, fun i _ q => q.elim (fun x => x) (fun x => x)⟩, fun d hd => absurd hd (by simp [oth0])⟩
theorem gEt : PP.globalNamed "errors.errorType" = some 0 := by kernel_rfl
theorem gRt : (PP.cutTypes.find? (·.1 == "internal/reflectlite.rtype")).map (·.2) = some 282 := by kernel_rfl
theorem gSize : PP.types.size = 347 := by kernel_rfl
theorem gRow : ((List.range 347).filter fun t => PP.rowNamed t [101, 114, 114, 111, 114]) = [140] := by kernel_rfl
theorem gHandle : typeHandle PP 140 = .pointer (some ⟨4, 140, none⟩) := by kernel_rfl
theorem et_core {W : World} (h : handlesMet PP [("errors.errorType", Rows.laid_errors_errorType)] W) : Et W := by
 obtain ⟨name, u, ty, e1, e2, e3, e4, e5⟩ := h _ (List.mem_singleton.2 rfl)
 have en : name = [101, 114, 114, 111, 114] := (Option.some.inj e1).symm
 subst en
 obtain rfl := Option.some.inj (gRt.symm.trans e2)
 have hm : ty ∈ (List.range 347).filter fun t => PP.rowNamed t [101, 114, 114, 111, 114] := List.mem_filter.2 ⟨List.mem_range.2 (by rw [← gSize]; exact e3), e4⟩
 rw [gRow] at hm
 obtain rfl := List.mem_singleton.1 hm
 rw [gHandle] at e5
 intro j v hj
 cases j with
 | zero => simp at hj; subst hj; simpa [etV] using World.var?_cell gEt e5 0
 | succ j => simp at hj
theorem Held.et {W : World} {Z : List OA} (h : Et W) (hz : Held W Z) : Held W (oEt :: Z) := .cons ⟨fun i => i = 0, h, fun _ => Iff.rfl⟩ hz
-- terms
instance : Inhabited Term := ⟨Term.z⟩
instance : Inhabited PTerm := ⟨PTerm.z⟩
theorem bulk_get {H : Type} {xs : List (DataW H × List MemPlace)} {i : Nat} {z : DataW H × List MemPlace} (h : xs[i]? = some z) : Rows.uptoBulk z.1 ≤ Rows.uptoBulkAll (xs.map (·.1)) :=
 bulk_part (List.mem_map.2 ⟨z, List.mem_of_getElem? h, rfl⟩)
theorem bigA_of {w : World} {μ α : Type} {R : μ → α → OA} : ∀ {ms : List μ} {l : List α}, ms.length = l.length → (∀ (i : Nat) m x, ms[i]? = some m → l[i]? = some x → ∃ F, (R m x).holds w F) → ∃ F, (bigA R ms l).holds w F
 | [], [], _, _ => ⟨fun _ => False, trivial, fun _ x => x⟩
 | m :: ms, x :: xs, hl, h => by
  obtain ⟨F, hF⟩ := h 0 m x rfl rfl
  obtain ⟨G, hG⟩ := bigA_of (ms := ms) (l := xs) (by simpa using hl) fun i m x h1 h2 => h (i + 1) m x (by simpa using h1) (by simpa using h2)
  exact ⟨fun i => F i ∨ G i, F, G, hF, hG, fun _ => Iff.rfl⟩
 | [], _ :: _, hl, _ => by simp at hl
 | _ :: _, [], hl, _ => by simp at hl
theorem nmL_of : ∀ {l : List PTerm}, (∀ x ∈ l, nmT x) → nmL l
 | [], _ => trivial
 | x :: l, h => ⟨h x (by simp), nmL_of fun y hy => h y (by simp [hy])⟩
theorem sizeL_bulk {H : Type} : ∀ {l : List PTerm} {ds : List (DataW H)}, l.length = ds.length → (∀ (i : Nat) x d, l[i]? = some x → ds[i]? = some d → sizeT x ≤ Rows.uptoBulk d) → sizeL l ≤ Rows.uptoBulkAll ds
 | [], [], _, _ => by simp [sizeL]
 | x :: l, d :: ds, hl, h => by
  have h1 := h 0 x d rfl rfl
  have h2 := sizeL_bulk (l := l) (ds := ds) (by simpa using hl) fun i x d h3 h4 => h (i + 1) x d (by simpa using h3) (by simpa using h4)
  simp only [sizeL, Rows.uptoBulkAll]; omega
 | [], _ :: _, hl, _ => by simp at hl
 | _ :: _, [], hl, _ => by simp at hl
theorem term_trod {H : Type} {enc : TypeId × Value → H} {W : World} (fuel : Nat) : ∀ {cs : List Value} {x : DataW H × List MemPlace}, DataW.trod enc PP W 0 (fun _ => true) true fuel xP cs = some x → Rows.uptoBulk x.1 ≤ 1048576 →
  ∃ (m : Term) (y : PTerm), cs = Term.C m ∧ (m.kind = y.kind ∧ m.name = y.name ∧ m.other = y.other ∧ m.form = y.form) ∧ (nmT y ∧ sizeT y ≤ Rows.uptoBulk x.1) ∧ ∃ F, (kq m.sub y.sub).holds W F := by
 induction fuel using Nat.strongRecOn with
 | _ fuel ih =>
 intro cs x hx hb
 obtain ⟨k, hk⟩ := fld_int fv_Term_kind un_api_TermKind (by kernel_rfl) hx
 obtain ⟨n, hn, hns⟩ := fld_str fv_Term_name yM (by kernel_rfl) hx
 obtain ⟨o, ho, hos⟩ := fld_str fv_Term_other yM (by kernel_rfl) hx
 obtain ⟨f, hf⟩ := fld_int fv_Term_form un_int (by kernel_rfl) hx
 obtain ⟨fs, fd, hu, hi, hoff, hty⟩ := fv_Term_sub
 obtain ⟨xs, n1, hfu, hxx, hl, hlen, hall⟩ := DataW.trod_struct hu hx
 have hl : cs.length = 5 := hl.trans (by kernel_rfl)
 have h1 := hall 4 fd hi
 have h2 : 4 < xs.length := by rw [hlen]; exact (Array.getElem?_eq_some_iff.1 hi).1
 rw [hoff, hty, show PP.cellsOf T_L_api_Term = 1 from by kernel_rfl, List.getElem?_eq_getElem h2] at h1
 have hbx : 1 + Rows.uptoBulk (xs[4]).1 ≤ Rows.uptoBulk x.1 := by
  have := bulk_get (List.getElem?_eq_getElem h2)
  rw [hxx]
  simp only [Rows.uptoBulk]
  omega
 have hbz : Rows.uptoBulk (xs[4]).1 ≤ 1048576 := by omega
 have hmax : maxLen = 9223372036854775807 := rfl
 have hcs : ∀ v4, cs[4]? = some v4 → cs = [.int .i64 k, .string n, .string o, .int .i64 f, v4] := by
  intro v4 h4
  match cs, hl with
  | [c0, c1, c2, c3, c4], _ =>
   simp at hk hn ho hf h4
   subst hk hn ho hf h4
   rfl
 rcases DataW.trod_slice xL.1 h1 with ⟨e1, e2⟩ | ⟨a, len, cap, elems, rest, n2, hfu2, e1, e2, _, hlc, hcm, hel, hget, _⟩
 ·have h4 := hcs _ (take_one e1)
  refine ⟨⟨k, n, o, f, SlV.nil⟩, .mk k n o f [], ?_, ⟨rfl, rfl, rfl, rfl⟩, ⟨⟨by show n.size < _; omega, by show o.size < _; omega, trivial⟩, by rw [sizeT_eq]; simp only [PTerm.sub, sizeL]; omega⟩, fun _ => False, (0, []), fun _ => False, fun _ => False, ⟨⟨Sl.nil W 5, by simp⟩, fun i => ⟨fun x => x.elim, fun x => absurd rfl x.1⟩⟩, ⟨trivial, fun _ x => x⟩, fun _ => ⟨fun x => x.elim, fun x => x.elim id id⟩⟩
  rw [h4, SlV.nil_eq]; rfl
 ·have h4 := hcs _ (take_one e1)
  have hbe : Rows.uptoBulkAll (elems.map (·.1)) ≤ 1048576 := by
   rw [e2] at hbz
   simp only [Rows.uptoBulk] at hbz
   omega
  have hlen2 : len ≤ 1048576 := by
   have := bulk_len (elems.map (·.1))
   rw [List.length_map, hel] at this
   omega
  have hone : ∀ i, i < len → ∃ q : Term × PTerm, (W.cells? 0 (a.add (i * PP.cellsOf xP)) (PP.cellsOf xP) = some (Term.C q.1)) ∧ (q.1.kind = q.2.kind ∧ q.1.name = q.2.name ∧ q.1.other = q.2.other ∧ q.1.form = q.2.form) ∧ (nmT q.2 ∧ ∀ z, elems[i]? = some z → sizeT q.2 ≤ Rows.uptoBulk z.1) ∧ ∃ F, (kq q.1.sub q.2.sub).holds W F := by
   intro i hi'
   have h5 := hget i hi'
   have h6 : i < elems.length := by omega
   rw [List.getElem?_eq_getElem h6] at h5
   cases hc : W.cells? 0 (a.add (i * PP.cellsOf xP)) (PP.cellsOf xP) with
   | none => rw [hc] at h5; simp at h5
   | some cs' =>
    rw [hc] at h5
    simp only [Option.bind_some] at h5
    obtain ⟨m, y, rfl, hm, hy, hF⟩ := ih n2 (by omega) h5 (by have := bulk_get (List.getElem?_eq_getElem h6); omega)
    exact ⟨(m, y), rfl, hm, ⟨hy.1, fun z hz => by cases (List.getElem?_eq_getElem h6).symm.trans hz; exact hy.2⟩, hF⟩
  obtain ⟨g, hg⟩ := Deep.choose_lt (α := Term × PTerm) hone
  have hsz : PP.cellsOf xP = 5 := by kernel_rfl
  refine ⟨⟨k, n, o, f, ⟨some a, len, cap⟩⟩, .mk k n o f ((List.range len).map fun i => (g i).2), ?_, ⟨rfl, rfl, rfl, rfl⟩, ⟨⟨by show n.size < _; omega, by show o.size < _; omega, nmL_of fun y hy => ?_⟩, ?_⟩, ?_⟩
  ·rw [h4]; show _ = [_, _, _, _, SlV.v _]; rw [SlV.eq]
  ·obtain ⟨i, hi', rfl⟩ := List.mem_map.1 hy
   exact (hg i (List.mem_range.1 hi')).2.2.1.1
  ·have hs : sizeL ((List.range len).map fun i => (g i).2) ≤ Rows.uptoBulkAll (elems.map (·.1)) := by
    refine sizeL_bulk (by simp [hel]) fun i y d h1 h2 => ?_
    have hi' : i < len := by
     refine Nat.lt_of_not_le fun q => ?_
     rw [List.getElem?_eq_none (by simpa using q)] at h1; cases h1
    rw [List.getElem?_map] at h1 h2
    rw [List.getElem?_range hi'] at h1
    simp only [Option.map_some, Option.some.injEq] at h1
    subst h1
    cases hz : elems[i]? with
    | none => rw [hz] at h2; cases h2
    | some z => rw [hz] at h2; cases h2; exact (hg i hi').2.2.1.2 z hz
   rw [sizeT_eq]
   have : Rows.uptoBulkAll (elems.map (·.1)) ≤ Rows.uptoBulk (xs[4]).1 := by
    rw [e2]; simp only [Rows.uptoBulk]; omega
   simp only [PTerm.sub]; omega
  ·have hsl : Sl W 5 ⟨some a, len, cap⟩ (((List.range len).map fun i => (g i).1).map Term.C) := by
    refine ⟨by simp, ?_, ?_⟩
    ·intro r hr
     obtain ⟨y, _, rfl⟩ := List.mem_map.1 hr
     exact Term.len y
    ·intro i r hr
     rw [List.getElem?_map, List.getElem?_map] at hr
     have hi' : i < len := by
      refine Nat.lt_of_not_le fun q => ?_
      rw [List.getElem?_eq_none (by simpa using q)] at hr; cases hr
     rw [List.getElem?_eq_getElem (by simpa using hi')] at hr
     simp only [List.getElem_range, Option.map_some, Option.some.injEq] at hr
     subst hr
     obtain ⟨_, _, hc0⟩ := World.cells?_some (hg 0 (by omega)).1
     obtain ⟨ab, ao, asp⟩ := a
     have hsp : asp = none := by
      have h7 := hc0 0 (by rw [hsz]; decide)
      simp only [Nat.zero_mul, Addr.add, if_true] at h7
      cases asp with
      | none => rfl
      | some q =>
       unfold World.cell? at h7
       simp only [Option.isSome_some, if_true] at h7
       split at h7
       ·exact absurd h7.symm (by simp [Term.C])
       ·exact absurd h7.symm (by simp [Term.C])
     subst hsp
     obtain ⟨_, _, hc⟩ := World.cells?_some (hg i hi').1
     refine ⟨rfl, fun j v hv => ?_⟩
     have hj : j < 5 := by have := (List.getElem?_eq_some_iff.1 hv).1; rw [Term.len] at this; exact this
     have h8 := hc j (by rw [hsz]; exact hj)
     rw [hv] at h8
     have hadd : ((⟨ab, ao, none⟩ : Addr).add (i * PP.cellsOf xP)).add j = ⟨ab, ao + i * 5 + j, none⟩ := by
      rw [hsz]
      unfold Addr.add
      by_cases h5 : i * 5 = 0
      ·by_cases h6 : j = 0
       ·simp [h5, h6]
       ·simp [h5, h6]
      ·by_cases h6 : j = 0
       ·simp [h5, h6]
       ·simp [h5, h6]
     rw [hadd] at h8
     exact h8
   have hbig : ∃ F, (bigA kS ((List.range len).map fun i => (g i).1) ((List.range len).map fun i => (g i).2)).holds W F := by
    refine bigA_of (by simp) fun i m x h1 h2 => ?_
    rw [List.getElem?_map] at h1 h2
    have hi' : i < len := by
     refine Nat.lt_of_not_le fun q => ?_
     rw [List.getElem?_eq_none (by simpa using q)] at h1; cases h1
    rw [List.getElem?_range hi'] at h1 h2
    simp only [Option.map_some, Option.some.injEq] at h1 h2
    subst h1 h2
    obtain ⟨_, he, _, F, hF⟩ := hg i hi'
    have := fTerm_mk (s := (g i).1.sub) hF
    rw [show mT (g i).2 (g i).1.sub = (g i).1 from by rw [mT, ← he.1, ← he.2.1, ← he.2.2.1, ← he.2.2.2]] at this
    exact ⟨F, this⟩
   obtain ⟨F, hF⟩ := hbig
   exact ⟨_, fTerms_mk (F := fun i => ((List.range len).map fun i => (g i).1) ≠ [] ∧ i = _) ⟨⟨hsl, by simp; omega⟩, fun _ => Iff.rfl⟩ hF⟩
theorem term_of {H : Type} {enc : TypeId × Value → H} {W : World} {v : Value} {d : DataW H} {ds : List (DataW H)} {ps : List MemPlace} {base : Nat} (hval : Value.okWide PP W .any base xP v) (h : DataW.Trod enc PP W 0 (fun _ => true) true xP v d ps) (hk : Rows.uptoSmall H ds = true) (hd : d ∈ ds) :
  ∃ (y : PTerm) (s : SlV), v = .agg (Term.C (⟨y.kind, y.name, y.other, y.form, s⟩ : Term)).toArray ∧ (nmT y ∧ sizeT y ≤ 1048576) ∧ ∃ F, (xb s y.sub).holds W F := by
 obtain ⟨fuel, hf⟩ := h
 have hb : Rows.uptoBulk d ≤ 1048576 := by
  have h1 := bulk_part hd
  have h3 : Rows.uptoBulkAll ds ≤ 1048576 := by simpa [Rows.uptoSmall] using hk
  omega
 obtain ⟨m, y, hc, he, hn, hF⟩ := term_trod fuel hf hb
 have hu : ∃ fs, PP.underlying xP = some (.struct fs) := by
  obtain ⟨fs, fd, hu, _⟩ := fv_Term_sub; exact ⟨fs, hu⟩
 obtain ⟨fs, hu⟩ := hu
 unfold Value.okWide at hval
 rw [hu] at hval
 obtain ⟨cs, rfl, _⟩ := hval
 refine ⟨y, m.sub, ?_, ⟨hn.1, Nat.le_trans hn.2 hb⟩, hF⟩
 have hm : m = (⟨y.kind, y.name, y.other, y.form, m.sub⟩ : Term) := by rw [← he.1, ← he.2.1, ← he.2.2.1, ← he.2.2.2]
 rw [← hm]
 have hc' : cs.toList = Term.C m := hc
 rw [← hc']
theorem Held.f {W : World} {Z : List OA} {s : SlV} {l : List PTerm} (h : ∃ F, (xb s l).holds W F) (hz : Held W Z) : Held W (xb s l :: Z) := .cons h hz
-- hypotheses
instance : Inhabited Hyp := ⟨Hyp.z⟩
theorem hyp_trod {H : Type} {enc : TypeId × Value → H} {W : World} {n : Nat} {cs : List Value} {x : DataW H × List MemPlace} (hx : DataW.trod enc PP W 0 (fun _ => true) true n T_Hyp cs = some x) : ∃ a : Hyp, cs = Hyp.C a ∧ True := by
 obtain ⟨a, ha, has⟩ := fld_str fv_Hyp_name yM (by kernel_rfl) hx
 obtain ⟨b, hb⟩ := fld_int fv_Hyp_form un_int (by kernel_rfl) hx
 obtain ⟨fs, fd, hu, _⟩ := fv_Hyp_name
 obtain ⟨xs, n', _, _, hl, _⟩ := DataW.trod_struct hu hx
 have hl : cs.length = 2 := hl.trans (by kernel_rfl)
 refine ⟨⟨a, b⟩, ?_, trivial⟩
 match cs, hl with
 | [v0, v1], _ =>
  simp at ha hb
  subst ha hb
  rfl
theorem hyps_of {H : Type} {enc : TypeId × Value → H} {W : World} {base : Nat} {v : Value} {d : DataW H} {ps : List MemPlace} (hval : Value.okWide PP W .any base uK v) (h : DataW.Trod enc PP W 0 (fun _ => true) true uK v d ps) :
  ∃ (l : List Hyp) (s : SlV), v = s.v ∧ Rd W 2 s (l.map Hyp.C) ∧ (∀ a ∈ l, True) ∧ (l = [] ∨ ∃ elems spare, d = .slice elems spare ∧ elems.length = l.length) :=
 slice_of ui.1 (by kernel_rfl) Hyp.len (by decide) (fun n cs x hx => hyp_trod hx) hval h
end Go.Proofs.YtjebgcoknpcadaaGreatDoor
end
section
namespace Go.Proofs.YtjebgcoknpcadaaGreatDoor
open Gw Go.ChangeShapes Go.WideShapes Go.ChangeAt Go.RowKit
theorem gTab : PP.globalNamed "math/bits.deBruijn64tab" = some 1 := by kernel_rfl
def tzs : List Int := Lib.deBruijn64tab.map fun (z : Nat) => (z : Int)
theorem tz_core {W : World} {rest : List (String × DataW Unit)} (h : laidMet PP (("math/bits.deBruijn64tab", Rows.laid_math_bits_deBruijn64tab) :: rest) W) : Tz W := by
 have ht : Lib.TabIs PP W "math/bits.deBruijn64tab" .u8 tzs := Lib.tabIs_of_head (rest := rest) gTab (t := T_64_uint8) (e := T_uint8) (n := 64) (by kernel_rfl) ar_64_uint8.1 (by kernel_rfl) (by kernel_rfl) (by kernel_rfl) h
 intro i v hv
 have hi : i < Lib.deBruijn64tab.length := by
  have := (List.getElem?_eq_some_iff.1 hv).1
  simpa using this
 have h1 := ht.cell gTab i (by simpa [tzs] using hi)
 rw [List.getElem?_map, List.getElem?_eq_getElem hi] at hv
 cases hv
 rw [Nat.zero_add, h1]
 simp [tzs, List.getD, hi]
theorem laid_two {W : World} (h : laidMetH PP [("math/bits.deBruijn64tab", Rows.laid_math_bits_deBruijn64tab), ("errors.errorType", Rows.laid_errors_errorType)] W) : Tz W ∧ Et W := by
 have h' : laidMet PP [("math/bits.deBruijn64tab", Rows.laid_math_bits_deBruijn64tab)] W ∧ handlesMet PP [("errors.errorType", Rows.laid_errors_errorType)] W := h
 exact ⟨tz_core h'.1, et_core h'.2⟩
theorem Held.tz {W : World} {Z : List OA} (h : Tz W) (hz : Held W Z) : Held W (oTz :: Z) := .cons ⟨fun i => i = 1, ⟨h, fun _ => Iff.rfl⟩⟩ hz
end Go.Proofs.YtjebgcoknpcadaaGreatDoor
end
section
namespace Go.Proofs.YtjebgcoknpcadaaGreatDoor
open Gw Go.ChangeShapes Go.WideShapes Go.ChangeAt Go.RowKit
set_option maxRecDepth 100000
namespace LawTypesProve
theorem contract (H : Type) (enc : TypeId × Value → H) (W : World) (base : Nat) (args : Array Value) (ds gs : List (DataW H)) (before : List MemPlace)
  (hval : ∀ (j : Nat) t v, xD.params[j]? = some t → args[j]? = some v → Value.okWide PP W .any base t v)
  (hW : DataW.Whole enc PP xD.params.toList Rows.typesProveSpec.vars false W args.toList ds gs before) (hL : laidMetH PP Rows.typesProveUptoRow.laid W) (hsm : Rows.uptoSmall H (ds ++ gs) = true) :
  Calls PP yD args W fun e W' => ∃ v, e = .returned v ∧ Rows.typesProveSpec.post enc PP xD false true false false W args v W' := by
 have hW' := hW
 have hlt := hW.lt
 obtain ⟨p, q, hA0, hV, rfl, hfz, hnd⟩ := hW
 have hA : DataW.TrodAll enc PP W 0 (fun _ => true) true xD.params.toList args.toList ds p := hA0
 have hpar : xD.params = #[un, uK, xP, zX] := by kernel_rfl
 rw [hpar] at hA hval
 obtain ⟨v0, v1, v2, v3, d0, d1, d2, d3, p0, p1, p2, p3, rfl, rfl, rfl, h0, h1, h2, h3⟩ := trodAll_four hA
 obtain ⟨rfl, rfl⟩ := trodVars_none hV
 obtain ⟨a0, s0, rfl, hrd0, hnm0, hsl0⟩ := nds_of (hval 0 _ _ rfl rfl) h0
 have hln0 := small_len hsm (by simp) hsl0
 obtain ⟨a1, s1, rfl, hrd1, hnm1, hsl1⟩ := hyps_of (hval 1 _ _ rfl rfl) h1
 have hln1 := small_len hsm (by simp) hsl1
 obtain ⟨a2, s2, rfl, ⟨hnm2, hbg2⟩, hf2⟩ := term_of (hval 2 _ _ rfl rfl) h2 hsm (by simp)
 obtain ⟨a3, rfl, hr3⟩ := int_of (k := .i64) un_int (hval 3 _ _ rfl rfl)
 have S := stheld (W := W) (.s hrd0 (by omega) (.s hrd1 (by omega) (.f hf2 (.tz (laid_two hL).1 (.et (laid_two hL).2 .nil)))))
 refine (law13_TypesProve_st S (TypesProve_true (k := 70000) (by decide) heads13 (id := a3) hnm0 (by omega) hnm2 (by omega))).mono fun e W' ⟨v, he, hv, hS⟩ => ?_
 subst hv
 have hx := hS.frame
 refine ⟨_, he, post_of_same (pa := p0 ++ p1 ++ p2 ++ p3) (pv := []) hW' (fun _ _ _ => trodAll_cons_mk (shut_bool un_bool _) trodAll_mk0) (fun sp hsp => ?_) (fun _ _ => rfl) (by simp) ((Ext.below hx).frame _) hx.froz (ok_one (by kernel_rfl) rfl (okWide_bool_mk un_bool _))⟩
 rw [hpar]
 refine trodAll_stays (ts := [un, uK, xP, zX]) (fun t ht => ?_) hA (fun p hp => (Ext.below hx).same (hlt p (by simpa using hp))) (fun p hp => hsp p (by simpa using hp))
 simp only [List.mem_cons, List.not_mem_nil, or_false] at ht
 rcases ht with rfl | rfl | rfl | rfl <;> exact ⟨by kernel_rfl, of_decide_eq_true (by kernel_rfl)⟩
noncomputable def laidWorld0 (os : Os) : World :=
 { World.holding PP os ⟨#[], #[], []⟩ with heap := (World.holding PP os ⟨#[], #[], []⟩).heap.modify 0 fun
   | .cells _ t frozen => .cells #[etV] t frozen
   | o => o }
noncomputable def laidWorld (os : Os) : World :=
 { laidWorld0 os with heap := (laidWorld0 os).heap.modify 1 fun
   | .cells _ t frozen => .cells (tzs.map (Value.int .u8)).toArray t frozen
   | o => o }
def argsN : Array Value := #[.slice none 0 0, .slice none 0 0, .agg #[.int .i64 0, .string ByteArray.empty, .string ByteArray.empty, .int .i64 0, .slice none 0 0], .int .i64 0]
theorem laid_met (os : Os) : laidMetH PP Rows.typesProveUptoRow.laid ((laidWorld os).forCall (fun _ _ => 0) ⟨#[], argsN, []⟩).memory :=
 laidMetH_of_parts (laidMet_of_run' 8 (by kernel_rfl) (by kernel_rfl)) (by kernel_rfl)
def ddN (H : Type) : List (DataW H) := [.nil, .nil, .agg [.lit (.int .i64 0), .lit (.string []), .lit (.string []), .lit (.int .i64 0), .nil], .lit (.int .i64 0)]
theorem reads (os : Os) {H : Type} (enc : TypeId × Value → H) : ∃ places, DataW.whole enc PP ((laidWorld os).forCall (fun _ _ => 0) ⟨#[], argsN, []⟩).memory xD.params.toList Rows.typesProveSpec.vars false argsN.toList 8 = some (ddN H, [], places) :=
 ⟨[], by kernel_rfl⟩
theorem lifted (os : Os) (started : os.Started) (H : Type) (enc : TypeId × Value → H) (F : Stop.Interp) :
  ReturnsInHanded {} Tryz.checked os yD .any ((Rows.OpenSpec.upto Rows.typesProveSpec).preRow enc PP xD Rows.typesProveUptoRow.domain false Rows.typesProveUptoRow.laid) (((Rows.OpenSpec.upto Rows.typesProveSpec).at F).post enc PP xD false true false false) := by
 obtain ⟨places, hx⟩ := reads os enc
 refine returnsInHanded_of_row (C := Tryz.checked) (s := Rows.OpenSpec.upto Rows.typesProveSpec) ownKnob_none started (by kernel_rfl) vX
  (witness_row_at (enc := enc) (C := Tryz.checked) false (laidWorld os) argsN rfl (by kernel_rfl) (by kernel_rfl) (by kernel_rfl)
   (OpenSpec.preRow_of_cond 8 hx (by kernel_rfl) (fun k hk => by cases hk; kernel_rfl) (by kernel_rfl) (laid_met os))) ?_
 intro W base args ds gs before hval hW _ hcond _ hL _ _
 exact contract H enc W base args ds gs before hval hW hL (hcond _ rfl)
theorem said : Rows.TypesProveUptoSaid :=
 OpenClaim.holds_of_cond yD xD rfl rfl rfl rfl rfl rfl rfl ⟨rfl, rfl, rfl, rfl, rfl⟩ rfl rfl rfl rfl rfl (by kernel_rfl) vX (by kernel_rfl)
  (of_decide_eq_true (by kernel_rfl)) (by unfold Func.isWrapper; first | (rw [if_pos (by decide +kernel)]; kernel_rfl) | (rw [if_neg (by decide +kernel)]; exact ⟨rfl, rfl⟩))
  (fun os started H enc _ F => by rw [OpenClaim.pre_eq_preRow]; exact lifted os started H enc F)
theorem plain (f : FuncId) (fn : Func) (hf : Tryz.pinned.checked.prog.funcNamed "dictum/dictumlaw13.TypesProve" = some f) (hfn : Tryz.pinned.checked.prog.funcs[f]? = some fn) :
  true = Tryz.pinned.checked.prog.looks [] ∧ ∀ (j : Nat) t, fn.params[j]? = some t → Tryz.pinned.checked.prog.wantsStandIn t = false := by
 obtain rfl : f = yD := Option.some.inj ((show PP.funcNamed "dictum/dictumlaw13.TypesProve" = some yD by kernel_rfl).symm.trans hf) |>.symm
 obtain rfl : fn = xD := (Option.some.inj (vX.symm.trans hfn)).symm
 refine ⟨by kernel_rfl, fun j t ht => ?_⟩
 rw [show xD.params = #[un, uK, xP, zX] by kernel_rfl] at ht
 have hm : t ∈ [un, uK, xP, zX] := by simpa using Array.mem_of_getElem? ht
 simp only [List.mem_cons, List.not_mem_nil, or_false] at hm
 rcases hm with rfl | rfl | rfl | rfl
 ·exact (show PP.wantsStandIn un = false by kernel_rfl)
 ·exact (show PP.wantsStandIn uK = false by kernel_rfl)
 ·exact (show PP.wantsStandIn xP = false by kernel_rfl)
 ·exact (show PP.wantsStandIn zX = false by kernel_rfl)
theorem card : Rows.TypesProveUptoCardSaid :=
 Claim7.holds_tied_plain_at .later [] _ _ _ _ said (fun _ h => by cases h) (by kernel_rfl) (fun _ h => by cases h) typesProveUpto_row_tie rfl ⟨rfl, rfl⟩ (by kernel_rfl) rfl plain (by kernel_rfl)
end LawTypesProve
end Go.Proofs.YtjebgcoknpcadaaGreatDoor
end
