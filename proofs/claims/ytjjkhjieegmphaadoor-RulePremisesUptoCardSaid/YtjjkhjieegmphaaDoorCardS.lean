/- What the cards of laws over slices need: the elements of a slice that a row reads. -/
import Derived.Test.YtjjkhjieegmphaaDoorCardT
import Derived.Deep.Slices
namespace Go.Proofs.YtjjkhjieegmphaaDoor
open Gw Go.ChangeShapes Go.WideShapes Go.ChangeAt Go.RowKit
set_option linter.unusedVariables false
set_option maxRecDepth 100000
section
variable {H : Type} {enc : TypeId × Value → H} {P : Program} {W : World} {t : TypeId} {fuel : Nat} {cs : List Value} {x : DataW H × List MemPlace} {sp : Nat → Bool} {hd : Bool} {b0 : Nat}
theorem take_one {l : List Value} {o : Nat} {v : Value} (h : (l.drop o).take 1 = [v]) : l[o]? = some v := by
  have : ((l.drop o).take 1)[0]? = some v := by rw [h]; rfl
  rw [List.getElem?_take] at this
  simpa using this
theorem fld_int {i off ft : Nat} {k : IntKind} (hf : FieldV P t i off ft) (hk : P.underlying ft = some (.int k)) (hc : P.cellsOf ft = 1) (h : DataW.trod enc P W b0 sp hd fuel t cs = some x) : ∃ n, cs[off]? = some (.int k n) := by
  obtain ⟨fs, fd, hu, hi, rfl, rfl⟩ := hf
  obtain ⟨xs, n, _, _, hl, hx, hall⟩ := DataW.trod_struct hu h
  have h1 := hall i fd hi
  have h2 : i < xs.length := by rw [hx]; exact (Array.getElem?_eq_some_iff.1 hi).1
  rw [List.getElem?_eq_getElem h2, hc] at h1
  obtain ⟨n, e, _⟩ := DataW.trod_int hk h1
  exact ⟨n, take_one e⟩
theorem fld_str {i off ft : Nat} (hf : FieldV P t i off ft) (hk : P.underlying ft = some .string) (hc : P.cellsOf ft = 1) (h : DataW.trod enc P W b0 sp hd fuel t cs = some x) : ∃ s : ByteArray, cs[off]? = some (.string s) ∧ s.size ≤ maxLen := by
  obtain ⟨fs, fd, hu, hi, rfl, rfl⟩ := hf
  obtain ⟨xs, n, _, _, hl, hx, hall⟩ := DataW.trod_struct hu h
  have h1 := hall i fd hi
  have h2 : i < xs.length := by rw [hx]; exact (Array.getElem?_eq_some_iff.1 hi).1
  rw [List.getElem?_eq_getElem h2, hc] at h1
  obtain ⟨s, e, _, hs⟩ := DataW.trod_string hk h1
  exact ⟨s, take_one e, hs⟩
/-- a slice whose elements are told one by one -/
theorem slice_of {α : Type} [Inhabited α] {e k : Nat} {C : α → List Value} {Q : α → Prop} {base : Nat} {v : Value} {d : DataW H} {ps : List MemPlace} (ht : P.underlying t = some (.slice e)) (hk : P.cellsOf e = k) (hC : ∀ a, (C a).length = k) (hk0 : 0 < k)
    (hel : ∀ (n : Nat) (cs : List Value) (x : DataW H × List MemPlace), DataW.trod enc P W 0 (fun _ => true) true n e cs = some x → ∃ a, cs = C a ∧ Q a)
    (hval : Value.okWide P W .any base t v) (h : DataW.Trod enc P W 0 (fun _ => true) true t v d ps) :
    ∃ (l : List α) (s : SlV), v = s.v ∧ Rd W k s (l.map C) ∧ (∀ a ∈ l, Q a) ∧ (l = [] ∨ ∃ elems spare, d = .slice elems spare ∧ elems.length = l.length) := by
  obtain ⟨a0, len0, cap0, rfl⟩ := okWide_slice ht hval
  obtain ⟨fuel, hf⟩ := h
  rcases Deep.open_slice ht hf with ⟨h1, h2⟩ | ⟨a, len, cap, m, n, D, Pl, h1, _, hlc, hcm, hm, h2, hx⟩
  · simp [Value.cells] at h1
    obtain ⟨rfl, rfl, rfl⟩ := h1
    exact ⟨[], SlV.nil, SlV.nil_eq, Rd.nil W k, by simp, .inl rfl⟩
  · simp [Value.cells] at h1
    obtain ⟨rfl, rfl, rfl⟩ := h1
    have hval2 := hval
    simp only [Value.okWide, ht, Cell.okWide, Cell.ok] at hval2
    obtain ⟨_, _, _, hspot, row, cells, hshape, _⟩ := hval2
    obtain ⟨ab, ao, asp⟩ := a
    obtain rfl : asp = none := hspot
    simp only at hshape
    have hlt : ab < W.heap.size := by
      unfold World.shape? at hshape
      cases hh : W.heap[ab]? with
      | none => rw [hh] at hshape; cases hshape
      | some o => exact (Array.getElem?_eq_some_iff.1 hh).1
    have hmc : m = cap0 := by rw [hm]; rfl
    obtain ⟨f, hfx⟩ := Deep.choose_lt (α := α) (n := len0) (p := fun i y => W.cells? 0 ((⟨ab, ao, none⟩ : Addr).add (i * P.cellsOf e)) (P.cellsOf e) = some (C y) ∧ Q y) (fun i hi => by
      obtain ⟨cs', hc, ht'⟩ := hx i (by omega)
      obtain ⟨y, rfl, hq⟩ := hel _ _ _ ht'
      exact ⟨y, hc, hq⟩)
    refine ⟨(List.range len0).map f, ⟨some ⟨ab, ao, none⟩, len0, cap0⟩, by rw [SlV.eq], ⟨⟨by simp, ?_, ?_⟩, ?_, hlc⟩, ?_, .inr ⟨_, _, by simpa using congrArg Prod.fst h2, by simp⟩⟩
    · intro r hr
      obtain ⟨y, _, rfl⟩ := List.mem_map.1 hr
      exact hC y
    · intro i r hr
      rw [List.getElem?_map, List.getElem?_map] at hr
      have hi : i < len0 := by
        refine Nat.lt_of_not_le fun q => ?_
        rw [List.getElem?_eq_none (by simpa using q)] at hr; cases hr
      rw [List.getElem?_eq_getElem (by simpa using hi)] at hr
      simp only [List.getElem_range, Option.map_some, Option.some.injEq] at hr
      subst hr
      obtain ⟨h3, _⟩ := hfx i hi
      obtain ⟨_, hl, hc⟩ := World.cells?_some h3
      refine ⟨rfl, fun j v hv => ?_⟩
      have hj : j < k := by have := (List.getElem?_eq_some_iff.1 hv).1; rw [hC] at this; exact this
      have h4 := hc j (by rw [hk]; exact hj)
      rw [hv] at h4
      have hadd : ((⟨ab, ao, none⟩ : Addr).add (i * P.cellsOf e)).add j = ⟨ab, ao + i * k + j, none⟩ := by
        rw [hk]
        unfold Addr.add
        by_cases h5 : i * k = 0
        · by_cases h6 : j = 0
          · simp [h5, h6]
          · simp [h5, h6]
        · by_cases h6 : j = 0
          · simp [h5, h6]
          · simp [h5, h6]
      rw [hadd] at h4
      exact h4
    · rintro i ⟨_, rfl⟩
      exact hlt
    · intro y hy
      obtain ⟨i, hi, rfl⟩ := List.mem_map.1 hy
      exact (hfx i (List.mem_range.1 hi)).2
end
instance : Inhabited Nd := ⟨Nd.z⟩
theorem nds_of {H : Type} {enc : TypeId × Value → H} {W : World} {base : Nat} {v : Value} {d : DataW H} {ps : List MemPlace} (hval : Value.okWide PP W .any base T_L_api_Node v) (h : DataW.Trod enc PP W 0 (fun _ => true) true T_L_api_Node v d ps) :
    ∃ (l : List Nd) (s : SlV), v = s.v ∧ Rd W 4 s (l.map Nd.C) ∧ (∀ a ∈ l, a.name.size < 9223372036854775808) ∧ (l = [] ∨ ∃ elems spare, d = .slice elems spare ∧ elems.length = l.length) := by
  refine slice_of sl_L_api_Node.1 (by kernel_rfl) Nd.len (by decide) (fun n cs x hx => ?_) hval h
  obtain ⟨a, ha⟩ := fld_int fv_Nd_kind un_api_Kind (by kernel_rfl) hx
  obtain ⟨b, hb, hbs⟩ := fld_str fv_Nd_name un_string (by kernel_rfl) hx
  obtain ⟨c, hc⟩ := fld_int fv_Nd_l un_int (by kernel_rfl) hx
  obtain ⟨d, hd⟩ := fld_int fv_Nd_r un_int (by kernel_rfl) hx
  obtain ⟨fs, fd, hu, _⟩ := fv_Nd_kind
  obtain ⟨xs, n', _, _, hl, _⟩ := DataW.trod_struct hu hx
  have hl : cs.length = 4 := hl.trans (by kernel_rfl)
  refine ⟨⟨a, b, c, d⟩, ?_, by have : maxLen = 9223372036854775807 := rfl; show b.size < _; omega⟩
  match cs, hl with
  | [v0, v1, v2, v3], _ =>
    simp at ha hb hc hd
    subst ha hb hc hd
    rfl
theorem bulk_one {H : Type} (d : DataW H) : 1 ≤ Rows.uptoBulk d := by
  cases d with
  | lit l => cases l <;> simp [Rows.uptoBulk]
  | nil => simp [Rows.uptoBulk]
  | ptr d => simp [Rows.uptoBulk]
  | slice elems spare => simp [Rows.uptoBulk]
  | agg parts => simp [Rows.uptoBulk]
  | iface t d => simp [Rows.uptoBulk]
  | map entries => simp [Rows.uptoBulk]
  | held h => simp [Rows.uptoBulk]
theorem bulk_part {H : Type} {d : DataW H} {l : List (DataW H)} (h : d ∈ l) : Rows.uptoBulk d ≤ Rows.uptoBulkAll l := by
  induction l with
  | nil => cases h
  | cons x r ih =>
    simp only [Rows.uptoBulkAll]
    cases List.mem_cons.1 h with
    | inl e => subst e; omega
    | inr e => have := ih e; omega
theorem bulk_len {H : Type} (l : List (DataW H)) : l.length ≤ Rows.uptoBulkAll l := by
  induction l with
  | nil => simp [Rows.uptoBulkAll]
  | cons x r ih => have := bulk_one x; simp only [Rows.uptoBulkAll, List.length_cons]; omega
/-- a slice that a small input reads is short -/
theorem small_len {H : Type} {α : Type} {l : List α} {d : DataW H} {ds : List (DataW H)} (hk : Rows.uptoSmall H ds = true) (hd : d ∈ ds) (h : l = [] ∨ ∃ elems spare, d = .slice elems spare ∧ elems.length = l.length) : l.length ≤ 1048576 := by
  rcases h with rfl | ⟨elems, spare, rfl, he⟩
  · simp
  · have h1 := bulk_part hd
    have h2 := bulk_len elems
    have h3 : Rows.uptoBulkAll ds ≤ 1048576 := by simpa [Rows.uptoSmall] using hk
    simp only [Rows.uptoBulk] at h1
    omega
/-- what stays while a law runs: its rows, the table of trailing zeros -/
theorem strs {W : World} (h : Tz W) {l : List Nd} {s : SlV} (hr : Rd W 4 s (l.map Nd.C)) (hl : l.length ≤ 140737488355328) : St (fun _ => False) oth0 W W [] [fS 4 Nd.C s l, oTz] :=
  ⟨fun _ => False, fun _ h => h.elim, fun _ h => h.elim, Chg.refl _ _, trivial, fun z hz => by
    rcases List.mem_cons.1 hz with rfl | hz
    · exact ⟨s.fp, ⟨⟨hr, hl⟩, fun _ => Iff.rfl⟩, fun i _ q => q.elim (fun x => x) (fun x => x)⟩
    · rcases List.mem_singleton.1 hz with rfl
      exact ⟨fun i => i = 0, ⟨h, fun _ => Iff.rfl⟩, fun i _ q => q.elim (fun x => x) (fun x => x)⟩, fun d hd => absurd hd (by simp [oth0])⟩
end Go.Proofs.YtjjkhjieegmphaaDoor
