/- Texts put together: Tables of formulas (program): a new one; one cut short; its rows. Chapter 09, rules that are chosen: Lean functions with the answers of the Go functions. Printed by pp.py, a program of mine. Chapter 09, premises: Lean functions with the answers of the Go functions. Printed by pp.py, a program of mine. Pieces put together: apart from each other; told by what is not seen; slices of structs with references. Over whatever program. Chapter 11: steps, findings, searches on their way: what they are, and the pieces that hold them. Chapter 11, the search: Lean functions with the answers of the Go functions. Printed by pp.py, a program of mine. Chapter 09, the heads: Lean functions with the answers of the Go functions. Printed by pp.py, a program of mine. Chapter 09, the document's functions: Lean functions with the answers of the Go functions. Printed by pp.py, a program of mine. Chapter 11, the heads: Lean functions with the answers of the Go functions. Printed by pp.py, a program of mine. Chapter 09, the document's premises: Lean functions with the answers of the Go functions. Printed by pp.py, a program of mine. Chapter 11, the document's search: Lean functions with the answers of the Go functions. Printed by pp.py, a program of mine. Steps that are written: a field of an element, an element's own slice. Chapter 11, SearchRuns: Lean functions with the answers of the Go functions. Printed by pp.py, a program of mine. Chapter 09, rules that are chosen: the walks. Printed by pp.py, a program of mine. Chapter 09, premises: the walks. Printed by pp.py, a program of mine. -/
import Derived.Test.YtjjkhjieegmphaaDoorMSRuns2
set_option linter.unusedVariables false
set_option linter.unusedSimpArgs false
section
namespace Go.Proofs.YtjjkhjieegmphaaDoor
open Gw Go.RowKit
section
variable {A : Nat → Prop} {N : Oth} {w0 w w' : World} {L Z : List OA}
theorem Gw.Sep.fam {w : World} : ∀ {L : List OA} {U : Nat → Prop}, Sep w U L → ∃ F : Nat → Nat → Prop, (∀ k a, L[k]? = some a → a.holds w (F k) ∧ ∀ i, F k i → U i) ∧ ∀ j k i, j ≠ k → j < L.length → k < L.length → F j i → ¬ F k i
 | [], _, _ => ⟨fun _ _ => False, by simp, by simp⟩
 | a :: L, U, ⟨G, h, hG, hL⟩ => by
  obtain ⟨F, h1, h2⟩ := Sep.fam hL
  refine ⟨fun k => match k with | 0 => G | k + 1 => F k, fun k b hb => ?_, fun j k i hjk hj hk => ?_⟩
  ·cases k with
   | zero => simp at hb; subst hb; exact ⟨h, hG⟩
   | succ k => have := h1 k b (by simpa using hb); exact ⟨this.1, fun i hi => (this.2 i hi).1⟩
  ·have hin : ∀ k, k < L.length → ∀ i, F k i → ¬ G i := fun k hk i hi => ((h1 k _ (List.getElem?_eq_getElem hk)).2 i hi).2
   cases j with
   | zero =>
    cases k with
    | zero => exact absurd rfl hjk
    | succ k => exact fun hi q => hin k (by simpa using hk) i q hi
   | succ j =>
    cases k with
    | zero => exact fun hi q => hin j (by simpa using hj) i hi q
    | succ k => exact h2 j k i (by omega) (by simpa using hj) (by simpa using hk)
theorem Gw.Sep.of_fam {w : World} {L : List OA} {U : Nat → Prop} {F : Nat → Nat → Prop} (h1 : ∀ k a, L[k]? = some a → a.holds w (F k) ∧ ∀ i, F k i → U i) (h2 : ∀ j k i, j ≠ k → j < L.length → k < L.length → F j i → ¬ F k i) :
  ∀ (ks : List Nat) (V : Nat → Prop), ks.Nodup → (∀ k ∈ ks, k < L.length → ∀ i, F k i → V i) → Sep w V (sel L ks)
 | [], _, _, _ => trivial
 | k :: ks, V, hn, hV => by
  have hn' := List.nodup_cons.1 hn
  cases hk : L[k]? with
  | none =>
   rw [show sel L (k :: ks) = sel L ks by simp [sel, hk]]
   exact Sep.of_fam h1 h2 ks V hn'.2 fun k' hk' => hV k' (by simp [hk'])
  | some a =>
   have hkl := (List.getElem?_eq_some_iff.1 hk).1
   rw [show sel L (k :: ks) = a :: sel L ks by simp [sel, hk]]
   refine ⟨F k, (h1 k a hk).1, hV k (by simp) hkl, Sep.of_fam h1 h2 ks _ hn'.2 fun k' hk' hl i hi => ⟨hV k' (by simp [hk']) hl i hi, ?_⟩⟩
   exact h2 k' k i (fun e => hn'.1 (e ▸ hk')) hl hkl hi
theorem Gw.St.arr (h : St A N w0 w L Z) (ks zs : List Nat) {L' Z' : List OA} (hk : ks.Nodup := by decide) (e : sel L ks = L' := by rfl) (ez : sel Z zs = Z' := by rfl) : St A N w0 w L' Z' := by
 subst e
 refine St.zs ?_ zs ez
 obtain ⟨U, hU, hN, hA, hL, hZ, hW⟩ := h
 obtain ⟨F, h1, h2⟩ := hL.fam
 exact ⟨U, hU, hN, hA, Sep.of_fam h1 h2 ks U hk fun k _ hl i hi => (h1 k _ (List.getElem?_eq_getElem hl)).2 i hi, hZ, hW⟩
theorem Gw.St.calln (h : St A N w0 w L Z) (n : Nat) {Zc : List OA} (hl : Lend (L.drop n) Z Zc) : ∃ B M, St B M w w (L.take n) Zc ∧ ∀ w' P' Z' L', St B M w w' P' Z' → P' ++ L.drop n = L' → St A N w0 w' L' Z :=
 h.call (L.take n) (L.drop n) hl (List.take_append_drop n L).symm
abbrev zipT (M : List Nd) : List (Nd × Int) := M.zipIdx.map fun q => (q.1, (q.2 : Int))
theorem Gw.St.openT {a : Option Addr} {M : List Nd} (h : St A N w0 w (oT a (some M) :: L) Z) : ∃ p s m, a = some ⟨p, 0, none⟩ ∧ M.length ≤ 1024 ∧ St A N w0 w (oB p T_Tab (Tab.C ⟨s, some m⟩) :: oM m ndV (Value.int .i64) (zipT M) :: oS T_Nd 4 Nd.C s M :: L) Z := by
 obtain ⟨U, hU, hN, hA, ⟨F, ⟨p, h1, ⟨s, m, b, o, mm, h2, h3, h4, hF⟩, hl⟩, hFU, hR⟩, hZ, hW⟩ := h
 refine ⟨p, s, m, h1, hl, U, hU, hN, hA, ⟨fun i => i = p, ⟨b, fun _ => Iff.rfl⟩, fun i hi => hFU i ((hF i).2 (.inl hi)), fun i => i = m, ⟨mm, fun _ => Iff.rfl⟩, fun i hi => ⟨hFU i ((hF i).2 (.inr (.inl hi))), fun q => h2 (q.symm.trans hi)⟩, s.fp, ⟨⟨o, by omega⟩, fun _ => Iff.rfl⟩, fun i hi => ⟨⟨hFU i ((hF i).2 (.inr (.inr hi))), fun q => h3 (q ▸ hi)⟩, fun q => h4 (q ▸ hi)⟩, ?_⟩, hZ, hW⟩
 exact hR.mono fun i hi => ⟨⟨⟨hi.1, fun q => hi.2 ((hF i).2 (.inl q))⟩, fun q => hi.2 ((hF i).2 (.inr (.inl q)))⟩, fun q => hi.2 ((hF i).2 (.inr (.inr q)))⟩
theorem Gw.St.shutT {p m : Nat} {s : SlV} {M : List Nd} (h : St A N w0 w (oB p T_Tab (Tab.C ⟨s, some m⟩) :: oM m ndV (Value.int .i64) (zipT M) :: oS T_Nd 4 Nd.C s M :: L) Z) (hl : M.length ≤ 1024) {a : Option Addr} (ha : a = some ⟨p, 0, none⟩) : St A N w0 w (oT a (some M) :: L) Z := by
 obtain ⟨U, hU, hN, hA, ⟨F, h1, hF, G, h2, hG, K, h3, hK, hR⟩, hZ, hW⟩ := h
 have p1 : F p := (h1.2 p).2 rfl
 have p2 : G m := (h2.2 m).2 rfl
 refine ⟨U, hU, hN, hA, ⟨fun i => i = p ∨ i = m ∨ s.fp i, ⟨p, ha, ⟨s, m, h1.1, h3.1.1, h2.1, fun q => (hG m p2).2 (q ▸ p1), fun q => (hK p ((h3.2 p).2 q)).1.2 p1, fun q => (hK m ((h3.2 m).2 q)).2 p2, fun i => Iff.rfl⟩, hl⟩, ?_, ?_⟩, hZ, hW⟩
 ·rintro i (rfl | rfl | hi)
  ·exact hF _ p1
  ·exact (hG _ p2).1
  ·exact (hK _ ((h3.2 i).2 hi)).1.1
 ·refine hR.mono fun i hi => ⟨hi.1.1.1, ?_⟩
  rintro (rfl | rfl | q)
  ·exact hi.1.1.2 p1
  ·exact hi.1.2 p2
  ·exact hi.2 ((h3.2 i).2 q)
end
section
variable {P : Program} {rd : Option Nat} {n : Nat} {dm : List Nat} {ops : Array Oper} {Q : Post} {f : Fr} {w w' : World} {rest : List Oper} {ty : TypeId} {pos : String} {af : Array Edge} {d : Option Tmp} {gd : Option (Nat × Bool)}
theorem Gw.wd {d : Tmp} {op : Op} {v : Value} (hr : Does P ⟨some d, op, ty, pos, af, none⟩ f w v w') (h : wl P rd n dm ops rest Q (upd f d v) w') (hd : d < n := by decide) : wl P rd n dm ops (⟨some d, op, ty, pos, af, none⟩ :: rest) Q f w := wl_does hr hd h
theorem Gw.wg {dd : Tmp} {op : Op} {j : Nat} {pol t : Bool} {v : Value} {oj : Oper} {dj : Tmp} (hr : (t == pol) = true → Does P ⟨some dd, op, ty, pos, af, some (j, pol)⟩ f w v w) (h : wl P rd n dm ops rest Q (upd f dd (gv (t == pol) v)) w) (hj : ops[j]? = some oj := by rfl) (hdj : oj.dst = some dj := by rfl) (ht : f dj = .bool t := by rfl) (hdn : dj < n := by decide) (hd : dd < n := by decide) : wl P rd n dm ops (⟨some dd, op, ty, pos, af, some (j, pol)⟩ :: rest) Q f w := wl_guard hj hdj ht hdn hr hd h
theorem wl_val0 {op : Op} {v : Value} (hr : Does P ⟨none, op, ty, pos, af, none⟩ f w v w') (h : wl P rd n dm ops rest Q f w') : wl P rd n dm ops (⟨none, op, ty, pos, af, none⟩ :: rest) Q f w := fun a ha => by
 refine wpListIn_plain rfl fun K hK => ?_
 exact op_wp ha hr (by simp) (hK _ _ (h _ ha))
theorem wl_gon2 {op : Op} {j : Nat} {pol c t : Bool} {oj : Oper} {dj : Tmp} (hj : ops[j]? = some oj) (hdj : oj.dst = some dj) (ht : f dj = gv c (.bool t)) (hdn : dj < n) (hg : (c && (t == pol)) = true)
  (h : wl P rd n dm ops (⟨d, op, ty, pos, af, none⟩ :: rest) Q f w) : wl P rd n dm ops (⟨d, op, ty, pos, af, some (j, pol)⟩ :: rest) Q f w := fun a ha => by
 have h1 := h a ha
 simp only [wpListIn] at h1 ⊢
 rw [wanted_gv ha rfl hj hdj ht hdn, hg]
 exact h1
theorem wl_gon {op : Op} {j : Nat} {pol t : Bool} {oj : Oper} {dj : Tmp} (hj : ops[j]? = some oj) (hdj : oj.dst = some dj) (ht : f dj = .bool t) (hdn : dj < n) (hg : (t == pol) = true)
  (h : wl P rd n dm ops (⟨d, op, ty, pos, af, none⟩ :: rest) Q f w) : wl P rd n dm ops (⟨d, op, ty, pos, af, some (j, pol)⟩ :: rest) Q f w :=
 wl_gon2 (c := true) hj hdj (by rw [ht]; exact gv_t _) hdn hg h
theorem map_er {α β : Type} (g : α → β) : ∀ (l : List α) (i : Nat), (l.eraseIdx i).map g = (l.map g).eraseIdx i
 | [], _ => rfl
 | _ :: _, 0 => rfl
 | a :: l, i + 1 => by simp [map_er g l i]
theorem wl_delete0 {α β : Type} {C : α → Value} {D : β → Value} {l : List (α × β)} {m : Nat} [DecidableEq α] {t kt et at_ : Nat} {x y : Operand} {key : α} (ht : P.underlying t = some (.map kt et)) (K : KeyT P kt C) (hx : evF f x = .map (some m)) (hy : evF f y = C key) (hm : MapB w m C D l)
  (h : ∀ w', MapB w' m C D (del key l) → Chg (· = m) w w' → w'.heap.size = w.heap.size → wl P rd n dm ops rest Q f w') : wl P rd n dm ops (⟨none, .call ⟨.builtin .delete, #[x, y], #[t, at_]⟩, ty, pos, af, none⟩ :: rest) Q f w := by
 obtain ⟨es, c, hb, he⟩ := hm
 have hf := run_findKey K key es.toList l he w
 rw [del_spot] at h
 cases hs : spot key l with
 | none =>
  rw [hs] at h hf
  obtain ⟨s1, s2, s3⟩ := map_step (w := w) (m := m) (C := C) (D := D) (es := es) (c := c) (l := l) hb he
  refine wl_val0 (v := .tuple #[]) ?_ (h _ s1 s2 s3)
  simp [Does, execOp, resolve, invoke, builtin, hx, hy, Builtin.delete_, run_underlying ht, MapKept.run_getObj_map hb, K.check, hf, run_setObj_map' _ hb]
 | some i =>
  obtain ⟨v0, hv⟩ := spot_key key l i hs
  rw [hs] at h hf
  have hmod : (es.eraseIdxIfInBounds i).toList.map (fun e => (e.key, e.val)) = (l.eraseIdx i).map fun q => (C q.1, D q.2) := by
   rw [Array.toList_eraseIdxIfInBounds, map_er, he, ← map_er]
  obtain ⟨s1, s2, s3⟩ := map_step (w := w) (m := m) (C := C) (D := D) (c := c) hb hmod
  refine wl_val0 (v := .tuple #[]) ?_ (h _ s1 s2 s3)
  simp [Does, execOp, resolve, invoke, builtin, hx, hy, Builtin.delete_, run_underlying ht, MapKept.run_getObj_map hb, K.check, hf, hv, run_setObj_map' _ hb]
theorem run_eqGuard_sl (op : BinOp) (t : TypeId) (x y : Operand) (a b : Option Addr) (i j k l : Nat) : (eqGuard op t x y (.slice a i j) (.slice b k l)).run P w = .ok () w := by
 unfold eqGuard
 split <;> rfl
theorem does_isnil {t u e k : TypeId} {x y : Operand} {s : SlV} (ht : SliceT P t e k) (hx : evF f x = s.v) (hy : evF f y = .slice none 0 0) : Does P ⟨d, .binOp .eql t x y u, ty, pos, af, gd⟩ f w (.bool s.p.isNone) w := by
 rw [SlV.eq] at hx
 simp only [Does, execOp, hx, hy, Sem.run_bind, run_eqGuard_sl, Result.andThen_ok, Lib.run_eql_slice_nil w t e s.p s.n s.c 0 0 ht.1, Sem.run_pure]
theorem does_makeMap {t : TypeId} : Does P ⟨d, .makeMap t none, ty, pos, af, gd⟩ f w (.map (some w.heap.size)) (w.alloc (.map #[] 0)) := by
 simp [Does, execOp, run_makeMap]
end
section
variable {A : Nat → Prop} {N : Oth} {w : World}
def slices_Clone_api_Node_api_Node.f (l : List Nd) : Option (List Nd) := chk (decide (l.length ≤ 1000000000)) (some l)
theorem slices_Clone_api_Node_api_Node_st {l : List Nd} {s : SlV} (S : St A N w w [] [fS 4 Nd.C s l]) {r : List Nd} (H : slices_Clone_api_Node_api_Node.f l = some r) : Calls PP F_slices_Clone_api_Node_api_Node #[s.v] w fun e w' => ∃ v, e = .returned v ∧ ∃ s' : SlV, (v = s'.v ∧ St A N w w' [oS T_Nd 4 Nd.C s' r] []) := by
 obtain ⟨hl, H⟩ := chk_ex H
 obtain rfl := Option.some.inj H
 replace hl := of_decide_eq_true hl
 refine calls_of_wc (n := 8) fn_slices_Clone_api_Node_api_Node rfl rfl (by simp) ?_
 repeat (first | refine wc_seq ?_ | refine wc_region ?_ | refine wc_block ?_)
 repeat (first | refine wl_does (does_as_i rfl) (by decide) ?_ | refine wl_does (does_mv_i rfl) (by decide) ?_ | refine wl_does (does_mv_p rfl) (by decide) ?_ | refine wl_does (does_mv_l rfl) (by decide) ?_ | refine wl_does (does_as_b rfl) (by decide) ?_ | refine wl_does (does_as_nil) (by decide) ?_)
 refine wl_nil ?_
 repeat (first | refine wc_seq ?_ | refine wc_region ?_ | refine wc_block ?_)
 repeat (first | refine wl_does (does_as_i rfl) (by decide) ?_ | refine wl_does (does_mv_i rfl) (by decide) ?_ | refine wl_does (does_mv_p rfl) (by decide) ?_ | refine wl_does (does_mv_l rfl) (by decide) ?_ | refine wl_does (does_as_b rfl) (by decide) ?_ | refine wl_does (does_as_nil) (by decide) ?_)
 refine wl_does (does_isnil sl_L_api_Node rfl rfl) (by decide) ?_
 refine wl_nil ?_
 refine wc_if rfl (fun hc => ?_) (fun hc => ?_)
 ·repeat (first | refine wc_seq ?_ | refine wc_region ?_ | refine wc_block ?_)
  repeat (first | refine wl_does (does_as_i rfl) (by decide) ?_ | refine wl_does (does_mv_i rfl) (by decide) ?_ | refine wl_does (does_mv_p rfl) (by decide) ?_ | refine wl_does (does_mv_l rfl) (by decide) ?_ | refine wl_does (does_as_b rfl) (by decide) ?_ | refine wl_does (does_as_nil) (by decide) ?_)
  refine wl_nil ?_
  refine wc_ret ?_
  refine ⟨_, (rets1 (retOne_tmp rfl)), SlV.nil, rfl, ?_⟩
  have hr := (S.rd 0).sl
  obtain rfl : l = [] := by
   cases l with
   | nil => rfl
   | cons a l =>
    have := (hr.cells 0 (Nd.C a) rfl).1
    rw [this] at hc; cases hc
  exact (S.zs (Z' := []) []).nil T_Nd 4 Nd.C
 ·refine wc_skip ?_
  repeat (first | refine wc_seq ?_ | refine wc_region ?_ | refine wc_block ?_)
  refine wl_lits (C := Nd.C) (l := []) (vs := []) sl_L_api_Node el_Nd.zero rfl rfl (by simp) (by decide) rfl (by decide) fun b w1 s1 hB h1 => ?_
  replace S : St A N w w1 [oS T_Nd 4 Nd.C s1 []] [fS 4 Nd.C s l] := S.lit hB h1 (by simp)
  repeat (first | refine wl_does (does_as_i rfl) (by decide) ?_ | refine wl_does (does_mv_i rfl) (by decide) ?_ | refine wl_does (does_mv_p rfl) (by decide) ?_ | refine wl_does (does_mv_l rfl) (by decide) ?_ | refine wl_does (does_as_b rfl) (by decide) ?_ | refine wl_does (does_as_nil) (by decide) ?_)
  refine wl_appendm (C := Nd.C) sl_L_api_Node el_Nd rfl rfl (S.sl 0) (S.rd 0) Nd.one (by simp; omega) (by simp; omega) (by decide) fun s2 w2 O h2 g2 => ?_
  replace S : St A N w w2 [oS T_Nd 4 Nd.C s2 l] [fS 4 Nd.C s l] := S.push 0 (l' := [] ++ l) O (by simp; omega) h2 g2
  refine wl_does (does_as_l rfl) (by decide) ?_
  refine wl_nil ?_
  refine wc_ret ?_
  exact ⟨_, (rets1 (retOne_tmp rfl)), s2, rfl, S.zs (Z' := []) []⟩
def formula_New.f : Option Tb := some (some [])
theorem formula_New_st (S : St A N w w [] []) {r : Tb} (H : formula_New.f = some r) : Calls PP F_formula_New #[] w fun e w' => ∃ v, e = .returned v ∧ ∃ a : Option Addr, (v = .pointer a ∧ St A N w w' [oT a r] []) := by
 obtain rfl := Option.some.inj H
 refine calls_of_wc (n := 4) fn_formula_New rfl rfl (by simp) ?_
 repeat (first | refine wc_seq ?_ | refine wc_region ?_ | refine wc_block ?_)
 refine wl_does (does_as_p rfl) (by decide) ?_
 refine wl_nil ?_
 repeat (first | refine wc_seq ?_ | refine wc_region ?_ | refine wc_block ?_)
 refine wl_does does_makeMap (by decide) ?_
 replace S := S.nil T_Nd 4 Nd.C
 replace S : St A N w (w.alloc (.map #[] 0)) [oM w.heap.size ndV (Value.int .i64) (zipT []), oS T_Nd 4 Nd.C SlV.nil []] [] :=
  S.add (b := oM w.heap.size ndV (Value.int .i64) (zipT [])) (G := (· = w.heap.size)) (Ext.alloc _ _) ⟨⟨#[], 0, heap_alloc_new w _, rfl⟩, fun _ => Iff.rfl⟩ (fun i hi => by rw [hi]; exact Nat.le_refl _)
 refine wl_does (does_build bu_Tab (Bld.one rfl rfl (by rw [Tab.len]; decide) (Tab.set_at_ _ _) Bld.nil)) (by decide) ?_
 refine wl_box_agg rfl (by decide) fun b w2 hw2 => ?_
 replace S := S.new hw2
 refine wl_does (does_as_p rfl) (by decide) ?_
 refine wl_nil ?_
 refine wc_ret ?_
 exact ⟨_, (rets1 (retOne_tmp rfl)), _, rfl, S.shutT (by simp) rfl⟩
end
section
variable {A : Nat → Prop} {N : Oth} {w0 w w' : World} {L Z : List OA}
theorem Gw.St.seeT (h : St A N w0 w L Z) (k : Nat) {a : Option Addr} {M : List Nd} (e : Z[k]? = some (oT a (some M)) := by rfl) : ∃ p s m, a = some ⟨p, 0, none⟩ ∧ M.length ≤ 1024 ∧ St A N w0 w L (oB p T_Tab (Tab.C ⟨s, some m⟩) :: fS 4 Nd.C s M :: Z) := by
 have key : ∀ F, (oT a (some M)).holds w F → ∃ p s m, a = some ⟨p, 0, none⟩ ∧ Blk w p T_Tab (Tab.C ⟨s, some m⟩) ∧ Own w 0 T_Nd 4 s (M.map Nd.C) ∧ M.length ≤ 1024 ∧ F p ∧ ∀ i, s.fp i → F i := by
  rintro F ⟨p, h1, ⟨s, m, b, o, mm, h2, h3, h4, hF⟩, hl⟩
  exact ⟨p, s, m, h1, b, o, hl, (hF p).2 (.inl rfl), fun i hi => (hF i).2 (.inr (.inr hi))⟩
 obtain ⟨U, hU, hN, hA, hL, hZ, hW⟩ := h
 obtain ⟨F, hF, hFU⟩ := hZ _ (List.mem_of_getElem? e)
 obtain ⟨p, s, m, e1, e2, e3, e4, e5, e6⟩ := key F hF
 refine ⟨p, s, m, e1, e4, U, hU, hN, hA, hL, fun z hz => ?_, hW⟩
 rcases List.mem_cons.1 hz with rfl | hz
 ·exact ⟨fun i => i = p, ⟨e2, fun _ => Iff.rfl⟩, fun i hi => by rw [hi]; exact hFU p e5⟩
 rcases List.mem_cons.1 hz with rfl | hz
 ·exact ⟨s.fp, ⟨⟨e3.toRd, by omega⟩, fun _ => Iff.rfl⟩, fun i hi => hFU i (e6 i hi)⟩
 ·exact hZ z hz
end
section
variable {A : Nat → Prop} {N : Oth} {w : World}
def formula_Table_Rows.f (t : Tb) : Option (List Nd) := some (t.getD [])
theorem formula_Table_Rows_st {a : Option Addr} {t : Tb} (S : St A N w w [] [oT a t]) {r : List Nd} (H : formula_Table_Rows.f t = some r) : Calls PP F_formula_Table_Rows #[.pointer a] w fun e w' => ∃ v, e = .returned v ∧ ∃ s' : SlV, (v = s'.v ∧ St A N w w' [oS T_Nd 4 Nd.C s' r] []) := by
 obtain rfl := Option.some.inj H
 refine calls_of_wc (n := 11) fn_formula_Table_Rows rfl rfl (by simp) ?_
 repeat (first | refine wc_seq ?_ | refine wc_region ?_ | refine wc_block ?_)
 refine wl_does (does_as_nil) (by decide) ?_
 refine wl_nil ?_
 repeat (first | refine wc_seq ?_ | refine wc_region ?_ | refine wc_block ?_)
 refine wl_does (does_mv_p rfl) (by decide) ?_
 cases t with
 | none =>
  obtain ⟨F, hF⟩ := S.frz 0 rfl
  refine wl_call (does_call ca_formula_Table_alive) (by decide) (formula_Table_alive_dead _ (oT.dead hF)) ?_
  rintro _ w1 ⟨rfl, h1⟩
  replace S := S.ext h1
  refine wl_does (does_not rfl) (by decide) ?_
  refine wl_nil ?_
  refine wc_true rfl ?_
  repeat (first | refine wc_seq ?_ | refine wc_region ?_ | refine wc_block ?_)
  repeat (first | refine wl_does (does_as_i rfl) (by decide) ?_ | refine wl_does (does_mv_i rfl) (by decide) ?_ | refine wl_does (does_mv_p rfl) (by decide) ?_ | refine wl_does (does_mv_l rfl) (by decide) ?_ | refine wl_does (does_as_b rfl) (by decide) ?_ | refine wl_does (does_as_nil) (by decide) ?_)
  refine wl_nil ?_
  refine wc_ret ?_
  exact ⟨_, (rets1 (retOne_tmp rfl)), SlV.nil, rfl, (S.zs (Z' := []) []).nil T_Nd 4 Nd.C⟩
 | some M =>
  obtain ⟨F, p, rfl, T, hN⟩ := S.frz 0 rfl
  refine wl_call (does_call ca_formula_Table_alive) (by decide) (formula_Table_alive_ok _ T) ?_
  rintro _ w1 ⟨rfl, h1⟩
  replace S := S.ext h1
  refine wl_does (does_not rfl) (by decide) ?_
  refine wl_nil ?_
  refine wc_false rfl ?_
  refine wc_skip ?_
  repeat (first | refine wc_seq ?_ | refine wc_region ?_ | refine wc_block ?_)
  obtain ⟨p', s, m, hp, _, S⟩ := S.seeT 0
  cases hp
  refine wl_does (does_mv_p rfl) (by decide) ?_
  refine wl_does (does_nilCheck rfl) (by decide) ?_
  refine wl_does (does_fieldAddr fl_Tab_rows rfl (o' := 0) rfl) (by decide) ?_
  refine wl_does (does_load on_L_api_Node rfl ((S.blkZ 0).cell (Tab.get_rows _))) (by decide) ?_
  obtain ⟨B, MB, SB, back⟩ := S.call [] [] ((.z 1 rfl .nil))
  refine wl_call (does_call ca_slices_Clone_api_Node_api_Node) (by decide) (slices_Clone_api_Node_api_Node_st (r := M) SB (by unfold slices_Clone_api_Node_api_Node.f chk; rw [if_pos (by simpa using (by omega : M.length ≤ 1000000000))])) ?_
  rintro _ w2 ⟨s2, rfl, S2⟩
  replace S := back _ _ _ _ S2 rfl
  refine wl_does (does_as_l rfl) (by decide) ?_
  refine wl_nil ?_
  refine wc_ret ?_
  exact ⟨_, (rets1 (retOne_tmp rfl)), s2, rfl, S.zs (Z' := []) []⟩
theorem del_mid {x : Nd} {v : Int} : ∀ {l r : List (Nd × Int)}, (∀ q ∈ l, q.1 ≠ x) → del x (l ++ (x, v) :: r) = l ++ r
 | [], r, _ => by unfold del; simp
 | (k, y) :: l, r, h => by
  have h1 : ¬ x = k := fun e => h (k, y) (by simp) e.symm
  rw [List.cons_append]; unfold del; rw [if_neg h1, del_mid (fun q hq => h q (by simp [hq]))]; rfl
def cutT (M : List Nd) (k i : Nat) : List (Nd × Int) := zipT (M.take k) ++ (((M.drop k).zipIdx k).map fun q => (q.1, (q.2 : Int))).drop i
theorem cutT_0 {M : List Nd} {k : Nat} (h : k ≤ M.length) : zipT M = cutT M k 0 := by
 unfold cutT zipT
 conv => lhs; rw [← List.take_append_drop k M, List.zipIdx_append]
 rw [List.map_append, List.drop_zero]; simp [Nat.min_eq_left h]
theorem cutT_end {M : List Nd} {k : Nat} : cutT M k (M.drop k).length = zipT (M.take k) := by
 unfold cutT
 rw [List.drop_eq_nil_of_le (by simp)]; simp
theorem cutT_step {M : List Nd} {k i : Nat} (nd : M.Nodup) {x : Nd} (hx : (M.drop k)[i]? = some x) : del x (cutT M k i) = cutT M k (i + 1) := by
 unfold cutT
 have hi : i < (M.drop k).length := (List.getElem?_eq_some_iff.1 hx).1
 have hx' := (List.getElem?_eq_some_iff.1 hx).2
 rw [List.drop_eq_getElem_cons (by simpa using hi)]
 simp only [List.getElem_map, List.getElem_zipIdx]
 rw [hx']
 refine del_mid fun q hq e => ?_
 obtain ⟨q', hq', rfl⟩ := List.mem_map.1 hq
 have h1 : q'.1 ∈ M.take k := by
  obtain ⟨a, b⟩ := q'
  have := List.mem_zipIdx hq'
  rw [this.2.2]; exact List.getElem_mem _
 have h2 : x ∈ M.drop k := List.mem_of_getElem? hx
 rw [← List.take_append_drop k M, List.nodup_append] at nd
 exact nd.2.2 _ h1 _ h2 e
def formula_Table_Cut.f (t : Tb) (k : Int) : Option (Tb × Int) := match t with
 | none => some (none, 1)
 | some M => if (decide (k < 0) || decide ((M.length : Int) < k)) = true then some (some M, 2) else chk (decide M.Nodup) (some (some (M.take k.toNat), 0))
theorem formula_Table_Cut_st {a : Option Addr} {t : Tb} {k : Int} (S : St A N w w [oT a t] []) {r : Tb × Int} (H : formula_Table_Cut.f t k = some r) : Calls PP F_formula_Table_Cut #[.pointer a, .int .i64 k] w fun e w' => ∃ v, e = .returned v ∧ (v = .int .i64 r.2 ∧ St A N w w' [oT a r.1] []) := by
 refine calls_of_wc (n := 49) fn_formula_Table_Cut rfl rfl (by simp) ?_
 repeat (first | refine wc_seq ?_ | refine wc_region ?_ | refine wc_block ?_)
 refine wl_does (does_as_i rfl) (by decide) ?_
 refine wl_nil ?_
 repeat (first | refine wc_seq ?_ | refine wc_region ?_ | refine wc_block ?_)
 refine wl_does (does_mv_p rfl) (by decide) ?_
 cases t with
 | none =>
  obtain ⟨F, hF⟩ := S.own 0 rfl
  refine wl_call (does_call ca_formula_Table_alive) (by decide) (formula_Table_alive_dead _ (oT.dead hF)) ?_
  rintro _ w1 ⟨rfl, h1⟩
  replace S := S.ext h1
  refine wl_does (does_not rfl) (by decide) ?_
  refine wl_does (does_as_b rfl) (by decide) ?_
  refine wl_nil ?_
  refine wc_true rfl ?_
  repeat (first | refine wc_seq ?_ | refine wc_region ?_ | refine wc_block ?_)
  refine wl_does (does_as_i rfl) (by decide) ?_
  refine wl_nil ?_
  refine wc_ret ?_
  obtain rfl := Option.some.inj H
  exact ⟨_, (rets1 (retOne_tmp rfl)), rfl, S⟩
 | some M =>
  obtain ⟨F, p, rfl, T, hN⟩ := S.own 0 rfl
  refine wl_call (does_call ca_formula_Table_alive) (by decide) (formula_Table_alive_ok _ T) ?_
  rintro _ w1 ⟨rfl, h1⟩
  replace S := S.ext h1
  refine wl_does (does_not rfl) (by decide) ?_
  refine wl_does (does_as_b rfl) (by decide) ?_
  refine wl_nil ?_
  refine wc_false rfl ?_
  obtain ⟨p', s, m, hp, _, S⟩ := S.openT
  cases hp
  repeat (first | refine wc_seq ?_ | refine wc_region ?_ | refine wc_block ?_)
  refine wl_does (does_mv_i rfl) (by decide) ?_
  refine wl_does (does_lt rfl rfl) (by decide) ?_
  refine wl_does (does_mv_b rfl) (by decide) ?_
  refine wl_guard (j := 2) (pol := false) rfl rfl rfl (by decide) (fun hg => does_mv_i rfl) (by decide) ?_
  refine wl_guard (j := 2) (pol := false) rfl rfl rfl (by decide) (fun hg => does_mv_p rfl) (by decide) ?_
  refine wl_guard (j := 2) (pol := false) rfl rfl rfl (by decide) (fun hg => does_nilCheck (gv_yes hg)) (by decide) ?_
  refine wl_guard (j := 2) (pol := false) rfl rfl rfl (by decide) (fun hg => does_fieldAddr fl_Tab_rows (gv_yes hg) (o' := 0) rfl) (by decide) ?_
  refine wl_guard (j := 2) (pol := false) rfl rfl rfl (by decide) (fun hg => does_load on_L_api_Node (gv_yes hg) ((S.blk 0).cell (Tab.get_rows _))) (by decide) ?_
  refine wl_guard (j := 2) (pol := false) rfl rfl rfl (by decide) (fun hg => does_lenR sl_L_api_Node (gv_yes hg) (S.sl 2).toRd) (by decide) ?_
  refine wl_guard (j := 2) (pol := false) rfl rfl rfl (by decide) (fun hg => does_gt (gv_yes hg) (gv_yes hg)) (by decide) ?_
  refine wl_does (does_or rfl (fun hp => (gv_yes (and_1 hp)))) (by decide) ?_
  refine wl_does (does_as_b rfl) (by decide) ?_
  refine wl_nil ?_
  dsimp only [formula_Table_Cut.f] at H
  refine wc_if rfl (fun hc => ?_) (fun hc => ?_)
  ·rw [if_pos hc] at H
   repeat (first | refine wc_seq ?_ | refine wc_region ?_ | refine wc_block ?_)
   refine wl_does (does_as_i rfl) (by decide) ?_
   refine wl_nil ?_
   refine wc_ret ?_
   obtain rfl := Option.some.inj H
   exact ⟨_, (rets1 (retOne_tmp rfl)), rfl, S.shutT hN rfl⟩
  replace H : chk (decide M.Nodup) (some (some (M.take k.toNat), 0)) = some r := by simpa [hc] using H
  obtain ⟨nd, H⟩ := chk_ex H
  obtain rfl := Option.some.inj H
  clear H
  replace nd : M.Nodup := of_decide_eq_true nd
  simp only [Bool.or_eq_false_iff, decide_eq_false_iff_not] at hc
  have hk : 0 ≤ k ∧ k ≤ M.length := by omega
  refine wc_skip ?_
  repeat (first | refine wc_seq ?_ | refine wc_region ?_ | refine wc_block ?_)
  refine wl_does (does_mv_p rfl) (by decide) ?_
  refine wl_does (does_nilCheck rfl) (by decide) ?_
  refine wl_does (does_fieldAddr fl_Tab_rows rfl (o' := 0) rfl) (by decide) ?_
  refine wl_does (does_load on_L_api_Node rfl ((S.blk 0).cell (Tab.get_rows _))) (by decide) ?_
  refine wl_does (does_mv_i rfl) (by decide) ?_
  refine wl_does (does_suf sl_L_api_Node rfl rfl (S.sl 2).toRd hk) (by decide) ?_
  refine wl_does (does_lenR sl_L_api_Node rfl ((S.sl 2).toRd.suf hk).1) (by decide) ?_
  refine wl_does (does_mv_i rfl) (by decide) ?_
  refine wl_nil ?_
  rw [cutT_0 (M := M) (k := k.toNat) (by omega)] at S
  clear h1
  refine wc_cutq [6, 30, 31, 32, 33, 34, 35, 36, 37, 38, 39] (fun fr W => St A N w W [oB p T_Tab (Tab.C ⟨s, some m⟩), oM m ndV (Value.int .i64) (cutT M k.toNat (M.drop k.toNat).length), oS T_Nd 4 Nd.C s M] []) ?_ ?_
  ·refine wc_block ?_
   refine wc_loopm (α := Nat) [6, 30, 31, 32, 33, 34, 35, 36, 37, 38, 39] (fun i fr W => i ≤ (M.drop k.toNat).length ∧ fr 30 = .int .i64 i ∧ St A N w W [oB p T_Tab (Tab.C ⟨s, some m⟩), oM m ndV (Value.int .i64) (cutT M k.toNat i), oS T_Nd 4 Nd.C s M] []) (fun i => (M.drop k.toNat).length - i) 0 ⟨Nat.zero_le _, rfl, S⟩ ?_
   rintro i g u ⟨hi, q, S⟩
   try dsimp only at q
   repeat (first | refine wc_seq ?_ | refine wc_region ?_ | refine wc_block ?_)
   refine wl_does (does_lt q rfl) (by decide) ?_
   refine wl_nil ?_
   repeat (first | refine wc_seq ?_ | refine wc_region ?_ | refine wc_block ?_)
   refine wc_if rfl (fun hc => ?_) (fun hc => ?_)
   rotate_left
   ·refine wc_exit ?_
    have hge : ¬ ((i : Int) < ((M.drop k.toNat).length : Int)) := of_decide_eq_false hc
    obtain rfl : i = (M.drop k.toNat).length := by omega
    exact ⟨rfl, by repeat (first | exact Dif.self _ _ _ | exact Dif.refl _ _ | refine Dif.upd ?_ rfl _), S⟩
   refine wc_skip ?_
   have hlt : i < (M.drop k.toNat).length := by simpa using hc
   have hd : (M.drop k.toNat).length ≤ 1024 := by simp; omega
   have hrd := ((S.sl 2).toRd.suf hk).1
   obtain ⟨x, hx⟩ : ∃ x, (M.drop k.toNat)[i]? = some x := ⟨_, List.getElem?_eq_getElem hlt⟩
   repeat (first | refine wc_seq ?_ | refine wc_region ?_ | refine wc_block ?_)
   refine wl_does (does_indexR sl_L_api_Node rfl q hrd (by omega) (by omega)) (by decide) ?_
   refine wl_does (does_load_agg ag_Nd rfl (hrd.at (show (M.drop k.toNat)[Int.toNat (i : Int)]? = some x from hx)) (Nd.len _)) (by decide) ?_
   refine wl_alloc ze_Nd (by decide) fun b2 w2 hw2 => ?_
   replace S := S.new hw2
   refine wl_store_agg ag_Nd rfl rfl (S.blk 0) (Nd.len _) (by rw [Nd.len]; decide) (Nd.one _) (store_all (Nd.len _)) fun w3 B3 hw3 zw3 => ?_
   replace S : St A N w w3 [oB b2 T_Nd (Nd.C x), oB p T_Tab (Tab.C ⟨s, some m⟩), oM m ndV (Value.int .i64) (cutT M k.toNat i), oS T_Nd 4 Nd.C s M] [] := S.store 0 B3 hw3
   refine wl_nil ?_
   refine wc_quiet 5 (Ext w3) hmix (by kernel_rfl) (by kernel_rfl) (Ext.drawn _) ?_
   refine wq_does (fun v K => does_mv_p rfl) ?_
   refine wq_does (fun v K => does_nilCheck rfl) ?_
   refine wq_does (fun v K => does_fieldAddr fl_Tab_at_ rfl (o' := 1) rfl) ?_
   refine wq_does (fun v K => does_load on_M_api_Node_int rfl (((S.ext K).blk 1).cell (Tab.get_at_ _))) ?_
   refine wq_does (fun v K => does_load_agg ag_Nd rfl (((S.ext K).blk 0).all _ (Nd.len _)) (Nd.len _)) ?_
   refine wq_nil fun w4 K => ?_
   replace S := S.ext K
   refine wl_delete0 (C := fun x : Nd => .agg (Nd.C x).toArray) (key := x) un_M_api_Node_int key_Nd rfl rfl (S.map 2) fun w5 B5 h5 z5 => ?_
   rw [cutT_step nd hx] at B5
   replace S : St A N w w5 [oM m ndV (Value.int .i64) (cutT M k.toNat (i + 1)), oB b2 T_Nd (Nd.C x), oB p T_Tab (Tab.C ⟨s, some m⟩), oS T_Nd 4 Nd.C s M] [] := S.mapSet 2 ⟨B5, h5, z5⟩
   replace S : St A N w w5 [oM m ndV (Value.int .i64) (cutT M k.toNat (i + 1)), oB p T_Tab (Tab.C ⟨s, some m⟩), oS T_Nd 4 Nd.C s M] [] := S.drop 1
   replace S : St A N w w5 [oB p T_Tab (Tab.C ⟨s, some m⟩), oM m ndV (Value.int .i64) (cutT M k.toNat (i + 1)), oS T_Nd 4 Nd.C s M] [] := S.front 1
   refine wl_nil ?_
   repeat (first | refine wc_seq ?_ | refine wc_region ?_ | refine wc_block ?_)
   refine wl_does (does_addc q rfl (c := (i : Int) + 1) rfl (by omega) (by omega)) (by decide) ?_
   refine wl_does (does_mv_i rfl) (by decide) ?_
   refine wl_nil ?_
   exact ⟨rfl, by repeat (first | exact Dif.self _ _ _ | exact Dif.refl _ _ | refine Dif.upd ?_ rfl _), i + 1, ⟨by omega, rfl, S⟩, by omega⟩
  ·rintro g u S
   rw [cutT_end] at S
   repeat (first | refine wc_seq ?_ | refine wc_region ?_ | refine wc_block ?_)
   refine wl_does (does_mv_p rfl) (by decide) ?_
   refine wl_does (does_mv_p rfl) (by decide) ?_
   refine wl_does (does_nilCheck rfl) (by decide) ?_
   refine wl_does (does_fieldAddr fl_Tab_rows rfl (o' := 0) rfl) (by decide) ?_
   refine wl_does (does_load on_L_api_Node rfl ((S.blk 0).cell (Tab.get_rows _))) (by decide) ?_
   refine wl_does (does_mv_i rfl) (by decide) ?_
   refine wl_does (does_pre sl_L_api_Node rfl rfl (S.sl 2) hk) (by decide) ?_
   refine wl_does (does_nilCheck rfl) (by decide) ?_
   refine wl_does (does_fieldAddr fl_Tab_rows rfl (o' := 0) rfl) (by decide) ?_
   refine wl_store on_L_api_Node rfl rfl (S.blk 0) (by rw [Tab.len]; decide) (SlV.one _ _ rfl) (Tab.set_rows _ _) fun w5 B h5 z5 => ?_
   replace S : St A N w w5 [oB p T_Tab (Tab.C ⟨⟨s.p, k.toNat, s.c⟩, some m⟩), oM m ndV (Value.int .i64) (zipT (M.take k.toNat)), oS T_Nd 4 Nd.C s M] [] := S.store 0 B h5
   replace S : St A N w w5 [oS T_Nd 4 Nd.C ⟨s.p, k.toNat, s.c⟩ (M.take k.toNat), oB p T_Tab (Tab.C ⟨⟨s.p, k.toNat, s.c⟩, some m⟩), oM m ndV (Value.int .i64) (zipT (M.take k.toNat))] [] := S.push 2 (s := s) (l := M) (l' := M.take k.toNat) ((S.sl 2).preL hk ((S.sl 2).clip hk) (Nat.le_refl _)) (by simp; omega) (Chg.refl _ _) (fun i hi => .inl hi)
   replace S := S.front 2
   replace S : St A N w w5 [oB p T_Tab (Tab.C ⟨⟨s.p, k.toNat, s.c⟩, some m⟩), oM m ndV (Value.int .i64) (zipT (M.take k.toNat)), oS T_Nd 4 Nd.C ⟨s.p, k.toNat, s.c⟩ (M.take k.toNat)] [] := S.front 2
   refine wl_nil ?_
   repeat (first | refine wc_seq ?_ | refine wc_region ?_ | refine wc_block ?_)
   refine wl_does (does_as_i rfl) (by decide) ?_
   refine wl_nil ?_
   refine wc_ret ?_
   exact ⟨_, (rets1 (retOne_tmp rfl)), rfl, S.shutT (by simp; omega) rfl⟩
end
section
variable {A : Nat → Prop} {N : Oth} {w0 w : World} {L Z : List OA}
theorem Gw.St.newS {M : Oth} {e k : Nat} {α : Type} {C : α → List Value} {s : SlV} {l : List α} (h : St (fun _ => False) M w0 w (oS e k C s l :: L) Z) : (Rd w k s (l.map C) ∧ l.length ≤ 140737488355328) ∧ ∀ i, s.fp i → w0.heap.size ≤ i := by
 obtain ⟨U, hU, _, _, ⟨F, h1, hF, _⟩, _⟩ := h
 exact ⟨⟨h1.1.1.toRd, h1.1.2⟩, fun i hi => (hU i (hF i ((h1.2 i).2 hi))).1.elim (fun x => x.elim) id⟩
end
end Go.Proofs.YtjjkhjieegmphaaDoor
end
section
namespace Go.Proofs.YtjjkhjieegmphaaDoor
open Gw
def rule_node.f (a0 : Tb) (a1 : Int) : Option Nd :=
 (formula_Table_Node.f a0 a1).bind fun r3 => some r3.1
def rule_on.f (a0 : Tb) (a1 : Sq) (a2 : Int) : Option Int :=
 (rule_node.f a0 a2).bind fun r3 => if decide (r3.kind = 2) then some 1 else if decide (r3.kind = 3) then some 3 else if decide (r3.kind = 4) then some 10 else if decide (r3.kind = 5) then (rule_node.f a0 r3.l).bind fun r13 => if decide (r13.kind = 1) then (bits_Has.f a1.left r3.l).bind fun r17 => if r17 then some 4 else some 0 else if decide (r13.kind = 2) then some 5 else if decide (r13.kind = 3) then some 6 else if decide (r13.kind = 4) then some 7 else if decide (r13.kind = 5) then some 13 else some 0 else some 0
def rule_fits.f (a0 : Tb) (a1 : Sq) (a2 : Int) (a3 : Int) : Option Bool :=
 (if (!(decide (a3 < 0))) then formula_Table_Len.f a0 else some 0).bind fun r3 => if (decide (a3 < 0)) || (decide (r3 ≤ a3)) then some false else (bits_Has.f a1.left a3).bind fun r6 => (rule_node.f a0 a3).bind fun r8 => if decide (a2 = 2) then some ((decide (a3 = a1.goal)) && r6) else if decide (a2 = 8) then some ((decide (a3 = a1.goal)) && (decide (r8.kind = 5))) else if decide (a2 = 9) then some ((decide (a3 = a1.goal)) && (decide (r8.kind = 3))) else (if decide (a2 = 11) then some (decide (a2 = 11)) else some (decide (a2 = 12))).bind fun (o14 : Bool) => if o14 then some ((decide (a3 = a1.goal)) && (decide (r8.kind = 4))) else (if ((decide (a2 ≠ 0)) && r6) then rule_on.f a0 a1 a3 else some 0).bind fun r19 => some (((decide (a2 ≠ 0)) && r6) && (decide (r19 = a2)))
def rule_with.f (a0 : Sq) (a1 : List Int) : Option Sq :=
 (bits_Of.f a1).bind fun r5 => (bits_Union.f a0.left r5.1).bind fun r11 => some ({ a0 with left := r11 })
def rule_to.f (a0 : Sq) (a1 : Int) : Option Sq :=
 some ({ a0 with goal := a1 })
def rule_look.b0 (a0 : Tb) (i15 : Int) (x15_0 : Int) : Option (Stp Int Int) :=
 (formula_Table_Len.f a0).bind fun r16 => if decide (r16 ≤ i15) then some (.ret 31) else some (.go x15_0)
def rule_look.f (a0 : Tb) (a1 : Sq) : Option Int :=
 (formula_Table_Not_neg.f a0 (-1)).bind fun r7 => if decide (r7.2 = 1) then some r7.2 else chk a1.left.okB ((forE (fun (x : Nat) (s : Int) => rule_look.b0 a0 (x : Int) s) (Bits.list a1.left) 0).bind (fin (fun (s15 : Int) => (if (!(decide (a1.goal < 0))) then formula_Table_Len.f a0 else some 0).bind fun r22 => if (decide (a1.goal < 0)) || (decide (r22 ≤ a1.goal)) then some 31 else some 0) (fun (s15 : Int) => some s15)))
def rule_apply_1_1.f (a0 : Int) : Option Bool :=
 some (decide (a0 = 1))
def rule_least__rule_apply_1_1.b0 (a0 : Tb) (a1 : Sq) (i14 : Int) (x14_0 : Bool) (x14_1 : Fnd) : Option (Stp (Bool × Fnd) (Bool × Fnd)) :=
 (rule_on.f a0 a1 i14).bind fun r15 => (rule_apply_1_1.f r15).bind fun r18 => if r18 then some (.ret (true, (⟨r15, i14⟩ : Fnd))) else some (.go (x14_0, x14_1))
def rule_least__rule_apply_1_1.f (a0 : Tb) (a1 : Sq) : Option (Fnd × Bool) :=
 chk a1.left.okB ((forE (fun (x : Nat) (s : Bool × Fnd) => rule_least__rule_apply_1_1.b0 a0 a1 (x : Int) s.1 s.2) (Bits.list a1.left) (false, Fnd.z)).bind (fin (fun (s14 : Bool × Fnd) => some (Fnd.z, false)) (fun (s14 : Bool × Fnd) => some (s14.2, s14.1))))
def rule_apply_1.f (a0 : Tb) (a1 : Sq) : Option (Fnd × Bool) :=
 (rule_least__rule_apply_1_1.f a0 a1).bind fun r3 => some (r3.1, r3.2)
def rule_apply_2.f (a0 : Sq) : Option (Fnd × Bool) :=
 (bits_Has.f a0.left a0.goal).bind fun r3 => some ((⟨2, a0.goal⟩ : Fnd), r3)
def rule_apply_3_1.f (a0 : Int) : Option Bool :=
 some ((decide (3 ≤ a0)) && (decide (a0 ≤ 7)))
def rule_least__rule_apply_3_1.b0 (a0 : Tb) (a1 : Sq) (i14 : Int) (x14_0 : Bool) (x14_1 : Fnd) : Option (Stp (Bool × Fnd) (Bool × Fnd)) :=
 (rule_on.f a0 a1 i14).bind fun r15 => (rule_apply_3_1.f r15).bind fun r18 => if r18 then some (.ret (true, (⟨r15, i14⟩ : Fnd))) else some (.go (x14_0, x14_1))
def rule_least__rule_apply_3_1.f (a0 : Tb) (a1 : Sq) : Option (Fnd × Bool) :=
 chk a1.left.okB ((forE (fun (x : Nat) (s : Bool × Fnd) => rule_least__rule_apply_3_1.b0 a0 a1 (x : Int) s.1 s.2) (Bits.list a1.left) (false, Fnd.z)).bind (fin (fun (s14 : Bool × Fnd) => some (Fnd.z, false)) (fun (s14 : Bool × Fnd) => some (s14.2, s14.1))))
def rule_apply_3.f (a0 : Tb) (a1 : Sq) : Option (Fnd × Bool) :=
 (rule_least__rule_apply_3_1.f a0 a1).bind fun r3 => some (r3.1, r3.2)
def rule_apply_4.f (a0 : Sq) (a1 : Tb) : Option (Fnd × Bool) :=
 (rule_node.f a1 a0.goal).bind fun r3 => some ((⟨8, a0.goal⟩ : Fnd), decide (r3.kind = 5))
def rule_apply_5.f (a0 : Sq) (a1 : Tb) : Option (Fnd × Bool) :=
 (rule_node.f a1 a0.goal).bind fun r3 => some ((⟨9, a0.goal⟩ : Fnd), decide (r3.kind = 3))
def rule_apply_6_1.f (a0 : Int) : Option Bool :=
 some (decide (a0 = 10))
def rule_least__rule_apply_6_1.b0 (a0 : Tb) (a1 : Sq) (i14 : Int) (x14_0 : Bool) (x14_1 : Fnd) : Option (Stp (Bool × Fnd) (Bool × Fnd)) :=
 (rule_on.f a0 a1 i14).bind fun r15 => (rule_apply_6_1.f r15).bind fun r18 => if r18 then some (.ret (true, (⟨r15, i14⟩ : Fnd))) else some (.go (x14_0, x14_1))
def rule_least__rule_apply_6_1.f (a0 : Tb) (a1 : Sq) : Option (Fnd × Bool) :=
 chk a1.left.okB ((forE (fun (x : Nat) (s : Bool × Fnd) => rule_least__rule_apply_6_1.b0 a0 a1 (x : Int) s.1 s.2) (Bits.list a1.left) (false, Fnd.z)).bind (fin (fun (s14 : Bool × Fnd) => some (Fnd.z, false)) (fun (s14 : Bool × Fnd) => some (s14.2, s14.1))))
def rule_apply_6.f (a0 : Tb) (a1 : Sq) : Option (Fnd × Bool) :=
 (rule_least__rule_apply_6_1.f a0 a1).bind fun r3 => some (r3.1, r3.2)
def rule_apply.f (a0 : Tb) (a1 : Sq) : Option Fnd :=
 (rule_apply_1.f a0 a1).bind fun r12 => if r12.2 then some r12.1 else (rule_apply_2.f a1).bind fun r22 => if r22.2 then some r22.1 else (rule_apply_3.f a0 a1).bind fun r32 => if r32.2 then some r32.1 else (rule_apply_4.f a1 a0).bind fun r42 => if r42.2 then some r42.1 else (rule_apply_5.f a1 a0).bind fun r52 => if r52.2 then some r52.1 else (rule_apply_6.f a0 a1).bind fun r62 => if r62.2 then some r62.1 else some (⟨14, 0⟩ : Fnd)
def rule_Apply.f (a0 : Tb) (a1 : Sq) : Option (Int × Int × Int) :=
 (rule_look.f a0 a1).bind fun r3 => if decide (r3 ≠ 0) then some (0, 0, r3) else (rule_apply.f a0 a1).bind fun r7 => some (r7.k, r7.main, 0)
def rule_Choices.b0 (a0 : Tb) (a1 : Sq) (i43 : Int) (x43_0 : List Int) (x43_1 : List Int) : Option (Stp (List Int × List Int) Empty) :=
 (rule_on.f a0 a1 i43).bind fun r46 => if decide (r46 = 13) then chk (decide ((x43_1.length + ([13]).length) * 8 ≤ 140737488355328)) (chk (decide ((x43_0.length + ([i43]).length) * 8 ≤ 140737488355328)) (some (.go (x43_0 ++ [i43], x43_1 ++ [13])))) else some (.go (x43_0, x43_1))
def rule_Choices.f (a0 : Tb) (a1 : Sq) : Option (List Int × List Int × Int) :=
 (rule_look.f a0 a1).bind fun r5 => if decide (r5 ≠ 0) then some (([] : List Int), ([] : List Int), r5) else (rule_apply.f a0 a1).bind fun r13 => if decide (r13.k ≠ 14) then some (([] : List Int), ([] : List Int), 0) else (rule_node.f a0 a1.goal).bind fun r17 => (if decide (r17.kind = 4) then chk (decide ((([] : List Int).length + ([11, 12]).length) * 8 ≤ 140737488355328)) (chk (decide ((([] : List Int).length + ([a1.goal, a1.goal]).length) * 8 ≤ 140737488355328)) (some ((([] : List Int) ++ [a1.goal, a1.goal], ([] : List Int) ++ [11, 12])))) else some ((([] : List Int), ([] : List Int)))).bind fun (o20 : List Int × List Int) => chk a1.left.okB ((forE (fun (x : Nat) (s : List Int × List Int) => rule_Choices.b0 a0 a1 (x : Int) s.1 s.2) (Bits.list a1.left) (o20.1, o20.2)).bind (fin (fun (s43 : List Int × List Int) => some (s43.2, s43.1, 0)) (fun (z : Empty) => z.elim)))
end Go.Proofs.YtjjkhjieegmphaaDoor
end
section
namespace Go.Proofs.YtjjkhjieegmphaaDoor
open Gw
def rule_pair_1.f (a0 : List Int) (a1 : Int) (a2 : Int) : Option (Int × Int) :=
 some (a1, a2)
def rule_pair.f (a0 : Int) (a1 : Int) : Option (Int × Int) :=
 some (a0, a1)
def rule_premises_1.f (a0 : List Int) (a1 : Nd) : Option (Int × Int) :=
 chk (inb 0 a0.length) (some (a1.l, at_ (0 : Int) a0 0))
def rule_imps__rule_pair_1__rule_premises_1.f (a0 : Tb) (a1_0 : Int) (a1_1 : Int) (a1_2 : Nd) : Option (Tb × List Int × Int) :=
 (rule_pair_1.f ([]) a1_0 a1_1).bind fun r3 => (formula_Table_Imp.f a0 r3.1 r3.2).bind fun r6 => if decide (r6.2.2 ≠ 0) then some (r6.1, ([] : List Int), r6.2.2) else chk (decide ((([] : List Int).length + ([r6.2.1]).length) * 8 ≤ 140737488355328)) ((rule_premises_1.f (([] : List Int) ++ [r6.2.1]) a1_2).bind fun r18 => (formula_Table_Imp.f r6.1 r18.1 r18.2).bind fun r21 => if decide (r21.2.2 ≠ 0) then some (r21.1, ([] : List Int), r21.2.2) else chk (decide (((([] : List Int) ++ [r6.2.1]).length + ([r21.2.1]).length) * 8 ≤ 140737488355328)) (some (r21.1, (([] : List Int) ++ [r6.2.1]) ++ [r21.2.1], 0)))
def rule_imps__rule_pair_1__rule_pair_1.f (a0 : Tb) (a1_0 : Int) (a1_1 : Int) (a1_2 : Int) (a1_3 : Int) : Option (Tb × List Int × Int) :=
 (rule_pair_1.f ([]) a1_0 a1_1).bind fun r3 => (formula_Table_Imp.f a0 r3.1 r3.2).bind fun r6 => if decide (r6.2.2 ≠ 0) then some (r6.1, ([] : List Int), r6.2.2) else chk (decide ((([] : List Int).length + ([r6.2.1]).length) * 8 ≤ 140737488355328)) ((rule_pair_1.f (([] : List Int) ++ [r6.2.1]) a1_2 a1_3).bind fun r18 => (formula_Table_Imp.f r6.1 r18.1 r18.2).bind fun r21 => if decide (r21.2.2 ≠ 0) then some (r21.1, ([] : List Int), r21.2.2) else chk (decide (((([] : List Int) ++ [r6.2.1]).length + ([r21.2.1]).length) * 8 ≤ 140737488355328)) (some (r21.1, (([] : List Int) ++ [r6.2.1]) ++ [r21.2.1], 0)))
def rule_imps__rule_pair_1.f (a0 : Tb) (a1_0 : Int) (a1_1 : Int) : Option (Tb × List Int × Int) :=
 (rule_pair_1.f ([]) a1_0 a1_1).bind fun r3 => (formula_Table_Imp.f a0 r3.1 r3.2).bind fun r6 => if decide (r6.2.2 ≠ 0) then some (r6.1, ([] : List Int), r6.2.2) else chk (decide ((([] : List Int).length + ([r6.2.1]).length) * 8 ≤ 140737488355328)) (some (r6.1, ([] : List Int) ++ [r6.2.1], 0))
def rule_premises.f (a0 : Tb) (a1 : Sq) (a2 : Int) (a3 : Int) : Option (Tb × List Sq × Int) :=
 (rule_node.f a0 a3).bind fun r3 => (rule_node.f a0 r3.l).bind fun r9 => (bits_Drop.f a1.left a3).bind fun r18 => if decide (a2 = 3) then (rule_with.f ({ a1 with left := r18 }) ([r3.l, r3.r])).bind fun r26 => some (a0, [r26], 0) else if decide (a2 = 4) then (rule_with.f ({ a1 with left := r18 }) ([r3.r])).bind fun r36 => some (a0, [r36], 0) else if decide (a2 = 5) then some (a0, [{ a1 with left := r18 }], 0) else if decide (a2 = 6) then (rule_pair.f r9.r r3.r).bind fun r47 => (rule_imps__rule_pair_1__rule_premises_1.f a0 r47.1 r47.2 r9).bind fun r55 => if decide (r55.2.2 ≠ 0) then some (r55.1, ([] : List Sq), r55.2.2) else chk (inb 1 r55.2.1.length) ((rule_with.f ({ a1 with left := r18 }) ([at_ (0 : Int) r55.2.1 1])).bind fun r64 => some (r55.1, [r64], 0)) else if decide (a2 = 7) then (rule_pair.f r9.l r3.r).bind fun r79 => (rule_pair.f r9.r r3.r).bind fun r82 => (rule_imps__rule_pair_1__rule_pair_1.f a0 r79.1 r79.2 r82.1 r82.2).bind fun r88 => if decide (r88.2.2 ≠ 0) then some (r88.1, ([] : List Sq), r88.2.2) else (rule_with.f ({ a1 with left := r18 }) r88.2.1).bind fun r95 => some (r88.1, [r95], 0) else if decide (a2 = 8) then (rule_with.f a1 ([r3.l])).bind fun r103 => (rule_to.f r103 r3.r).bind fun r106 => some (a0, [r106], 0) else if decide (a2 = 9) then (rule_to.f a1 r3.l).bind fun r113 => (rule_to.f a1 r3.r).bind fun r115 => some (a0, [r113, r115], 0) else if decide (a2 = 10) then (rule_with.f ({ a1 with left := r18 }) ([r3.l])).bind fun r123 => (rule_with.f ({ a1 with left := r18 }) ([r3.r])).bind fun r127 => some (a0, [r123, r127], 0) else if decide (a2 = 11) then (rule_to.f a1 r3.l).bind fun r134 => some (a0, [r134], 0) else if decide (a2 = 12) then (rule_to.f a1 r3.r).bind fun r141 => some (a0, [r141], 0) else if decide (a2 = 13) then (rule_pair.f r9.r r3.r).bind fun r148 => (rule_imps__rule_pair_1.f a0 r148.1 r148.2).bind fun r156 => if decide (r156.2.2 ≠ 0) then some (r156.1, ([] : List Sq), r156.2.2) else (rule_with.f ({ a1 with left := r18 }) r156.2.1).bind fun r161 => (rule_to.f r161 r3.l).bind fun r162 => (rule_with.f ({ a1 with left := r18 }) ([r3.r])).bind fun r166 => some (r156.1, [r162, r166], 0) else some (a0, ([] : List Sq), 0)
def rule_Premises.f (a0 : Tb) (a1 : Sq) (a2 : Int) (a3 : Int) : Option (Tb × List Sq × Int) :=
 (rule_look.f a0 a1).bind fun r3 => if decide (r3 ≠ 0) then some (a0, ([] : List Sq), r3) else (rule_fits.f a0 a1 a2 a3).bind fun r7 => if !r7 then some (a0, ([] : List Sq), 90) else (formula_Table_Len.f a0).bind fun r11 => (rule_premises.f a0 a1 a2 a3).bind fun r14 => if decide (r14.2.2 ≠ 0) then (formula_Table_Cut.f r14.1 r11).bind fun r19 => some (r19.1, ([] : List Sq), r14.2.2) else some (r14.1, r14.2.1, 0)
end Go.Proofs.YtjjkhjieegmphaaDoor
end
section
namespace Go.Proofs.YtjjkhjieegmphaaDoor
open Go.RowKit
namespace Gw
def OA.star (a b : OA) : OA where
 holds := fun w F => ∃ G H, a.holds w G ∧ b.holds w H ∧ (∀ i, G i → ¬ H i) ∧ ∀ i, F i ↔ (G i ∨ H i)
 loc := fun ⟨G, H, g, h, d, e⟩ hc hs => ⟨G, H, a.loc g hc (fun i hi => hs i ((e i).2 (.inl hi))), b.loc h hc (fun i hi => hs i ((e i).2 (.inr hi))), d, e⟩
 lt := fun ⟨G, H, g, h, d, e⟩ i hi => ((e i).1 hi).elim (a.lt g i) (b.lt h i)
def OA.ex {α : Type} (f : α → OA) : OA where
 holds := fun w F => ∃ x, (f x).holds w F
 loc := fun ⟨x, h⟩ hc hs => ⟨x, (f x).loc h hc hs⟩
 lt := fun ⟨x, h⟩ => (f x).lt h
def OA.pure (p : Prop) : OA where
 holds := fun _ F => p ∧ ∀ i, ¬ F i
 loc := fun h _ _ => h
 lt := fun h i hi => (h.2 i hi).elim
section
variable {A : Nat → Prop} {N : Oth} {w0 w w' : World} {L Z : List OA}
theorem St.sep (h : St A N w0 w L Z) {L' : List OA} (hs : ∀ U, Sep w U L → Sep w U L') : St A N w0 w L' Z := by
 obtain ⟨U, hU, hN, hA, hL, hZ, hW⟩ := h
 exact ⟨U, hU, hN, hA, hs U hL, hZ, hW⟩
theorem St.unstar (h : St A N w0 w L Z) (k : Nat) {a b : OA} {L' : List OA} (e : L[k]? = some (a.star b) := by rfl) (e' : a :: b :: L.eraseIdx k = L' := by rfl) : St A N w0 w L' Z := by
 subst e'
 refine h.sep fun U hL => ?_
 obtain ⟨F, ⟨G, H, g, h, d, q⟩, hF, hR⟩ := hL.front k e
 refine ⟨G, g, fun i hi => hF i ((q i).2 (.inl hi)), H, h, fun i hi => ⟨hF i ((q i).2 (.inr hi)), fun hg => d i hg hi⟩, hR.mono fun i hi => ⟨⟨hi.1, fun hg => hi.2 ((q i).2 (.inl hg))⟩, fun hh => hi.2 ((q i).2 (.inr hh))⟩⟩
theorem St.star {a b : OA} (h : St A N w0 w (a :: b :: L) Z) : St A N w0 w (a.star b :: L) Z := by
 refine h.sep fun U hL => ?_
 obtain ⟨G, g, hG, H, h, hH, hR⟩ := hL
 exact ⟨fun i => G i ∨ H i, ⟨G, H, g, h, fun i hg hh => (hH i hh).2 hg, fun _ => Iff.rfl⟩, fun i hi => hi.elim (hG i) (fun q => (hH i q).1), hR.mono fun i hi => ⟨hi.1.1, fun q => q.elim hi.1.2 hi.2⟩⟩
theorem St.unex (h : St A N w0 w L Z) (k : Nat) {α : Type} {f : α → OA} (e : L[k]? = some (OA.ex f) := by rfl) : ∃ x, St A N w0 w (f x :: L.eraseIdx k) Z := by
 obtain ⟨U, hU, hN, hA, hL, hZ, hW⟩ := h
 obtain ⟨F, ⟨x, g⟩, hF, hR⟩ := hL.front k e
 exact ⟨x, U, hU, hN, hA, ⟨F, g, hF, hR⟩, hZ, hW⟩
theorem St.toex {α : Type} {f : α → OA} (x : α) (h : St A N w0 w (f x :: L) Z) : St A N w0 w (OA.ex f :: L) Z := by
 refine h.sep fun U hL => ?_
 obtain ⟨F, g, hF, hR⟩ := hL
 exact ⟨F, ⟨x, g⟩, hF, hR⟩
theorem St.getp (h : St A N w0 w L Z) (k : Nat) {p : Prop} (e : L[k]? = some (OA.pure p) := by rfl) : p := (h.own k e).elim fun _ h => h.1
theorem St.putp (h : St A N w0 w L Z) {p : Prop} (hp : p) : St A N w0 w (OA.pure p :: L) Z :=
 h.add (b := OA.pure p) (G := fun _ => False) (Ext.refl w) ⟨hp, fun _ x => x⟩ (fun _ x => x.elim)
theorem St.turn (h : St A N w0 w L Z) (k : Nat) {a b : OA} {L' : List OA} (hab : ∀ F, a.holds w F → b.holds w F) (e : L[k]? = some a := by rfl) (e' : b :: L.eraseIdx k = L' := by rfl) : St A N w0 w L' Z := by
 subst e'
 refine h.sep fun U hL => ?_
 obtain ⟨F, g, hF, hR⟩ := hL.front k e
 exact ⟨F, hab F g, hF, hR⟩
-- what stays
theorem St.frzO (h : St A N w0 w L Z) (k : Nat) {a : OA} {L' : List OA} (q : L[k]? = some a := by rfl) (q' : L.eraseIdx k = L' := by rfl) : St A N w0 w L' (a :: Z) := h.freeze k (a := a) (fun _ h => h) q q'
end
def big {μ α : Type} (R : μ → α → OA) : List μ → List α → OA
 | [], [] => OA.pure True
 | m :: ms, x :: xs => (R m x).star (big R ms xs)
 | _, _ => OA.pure False
theorem big_len {w : World} {μ α : Type} {R : μ → α → OA} : ∀ {ms : List μ} {l : List α} {F : Nat → Prop}, (big R ms l).holds w F → ms.length = l.length
 | [], [], _, _ => rfl
 | m :: ms, x :: xs, F, ⟨_, _, _, h, _⟩ => by simp [big_len h]
 | [], _ :: _, _, h => h.1.elim
 | _ :: _, [], _, h => h.1.elim
theorem big_at {w : World} {μ α : Type} {R : μ → α → OA} : ∀ {ms : List μ} {l : List α} {F : Nat → Prop} {i : Nat} {m : μ} {x : α}, (big R ms l).holds w F → ms[i]? = some m → l[i]? = some x → ∃ G, (R m x).holds w G ∧ ∀ j, G j → F j
 | [], [], _, _, _, _, _, h, _ => by simp at h
 | m :: ms, x :: xs, F, i, m', x', ⟨G, H, g, h, d, e⟩, hm, hx => by
  cases i with
  | zero => simp at hm hx; subst hm hx; exact ⟨G, g, fun j hj => (e j).2 (.inl hj)⟩
  | succ i =>
   obtain ⟨K, k, hK⟩ := big_at h (by simpa using hm) (by simpa using hx)
   exact ⟨K, k, fun j hj => (e j).2 (.inr (hK j hj))⟩
 | [], _ :: _, _, _, _, _, h, _, _ => h.1.elim
 | _ :: _, [], _, _, _, _, h, _, _ => h.1.elim
theorem big_push {w : World} {μ α : Type} {R : μ → α → OA} {m : μ} {x : α} {G : Nat → Prop} (g : (R m x).holds w G) : ∀ {ms : List μ} {l : List α} {F : Nat → Prop}, (big R ms l).holds w F → (∀ i, F i → ¬ G i) → (big R (ms ++ [m]) (l ++ [x])).holds w fun i => F i ∨ G i
 | [], [], F, h, d => ⟨G, fun _ => False, g, ⟨trivial, fun _ x => x⟩, fun _ _ x => x, fun i => ⟨fun q => q.elim (fun q => absurd q (h.2 i)) .inl, fun q => q.elim .inr (fun x => x.elim)⟩⟩
 | m' :: ms, x' :: xs, F, ⟨G', H', g', h', d', e'⟩, d => by
  refine ⟨G', fun i => H' i ∨ G i, g', big_push g h' (fun i hi => d i ((e' i).2 (.inr hi))), fun i hi q => q.elim (d' i hi) (d i ((e' i).2 (.inl hi))), fun i => ?_⟩
  show F i ∨ G i ↔ _
  rw [e' i, or_assoc]
 | [], _ :: _, _, h, _ => h.1.elim
 | _ :: _, [], _, h, _ => h.1.elim
def oD (e k : Nat) {μ α : Type} (C : μ → List Value) (R : μ → α → OA) (s : SlV) (l : List α) : OA := OA.ex fun ms => (oS e k C s ms).star (big R ms l)
section
variable {A : Nat → Prop} {N : Oth} {w0 w w' : World} {L Z : List OA} {e k : Nat} {μ α : Type} {C : μ → List Value} {R : μ → α → OA} {s : SlV} {l : List α}
def OA.on (a : OA) (w : World) : Prop := ∃ F, a.holds w F
theorem oD.rd (h : (oD e k C R s l).on w) : ∃ ms : List μ, Rd w k s (ms.map C) ∧ ms.length = l.length ∧ (∀ (i : Nat) m x, ms[i]? = some m → l[i]? = some x → (R m x).on w) ∧ l.length ≤ 140737488355328 := by
 obtain ⟨F, ms, G, H, g, h, d, q⟩ := h
 refine ⟨ms, g.1.1.toRd, big_len h, fun i m x hm hx => (big_at h hm hx).elim fun K hk => ⟨K, hk.1⟩, ?_⟩
 rw [← big_len h]; exact g.1.2
theorem oD.elt (h : (oD e k C R s l).on w) {z : α} {i : Int} (hi : 0 ≤ i ∧ i < l.length) : ∃ m, Cells w s.blk (s.off + i.toNat * k) (C m) ∧ (R m (at_ z l i)).on w := by
 obtain ⟨ms, hr, hl, hR, _⟩ := oD.rd h
 have h1 : i.toNat < ms.length := by omega
 have h2 : i.toNat < l.length := by omega
 have h3 : at_ z l i = l[i.toNat] := by simp [at_, List.getD_eq_getElem?_getD, h2]
 refine ⟨ms[i.toNat], hr.at (List.getElem?_eq_getElem h1), ?_⟩
 rw [h3]
 exact hR i.toNat _ _ (List.getElem?_eq_getElem h1) (List.getElem?_eq_getElem h2)
theorem oD.cell (h : (oD e k C R s l).on w) {z : α} {i : Int} (hi : 0 ≤ i ∧ i < l.length) {o : Nat} {v : Value} (hf : ∀ m, (R m (at_ z l i)).on w → (C m)[o]? = some v) : w.cell? ⟨s.blk, s.off + i.toNat * k + o, none⟩ = some v := by
 obtain ⟨m, hc, hR⟩ := oD.elt h (z := z) hi
 exact hc.get (hf m hR)
theorem oD.cells (h : (oD e k C R s l).on w) {z : α} {i : Int} (hi : 0 ≤ i ∧ i < l.length) {o k' : Nat} {c : List Value} (hf : ∀ m, (R m (at_ z l i)).on w → ((C m).drop o).take k' = c) : Cells w s.blk (s.off + i.toNat * k + o) c := by
 obtain ⟨m, hc, hR⟩ := oD.elt h (z := z) hi
 exact hc.sub (hf m hR)
theorem St.onO (h : St A N w0 w L Z) (k : Nat) {a : OA} (e : L[k]? = some a := by rfl) : a.on w := h.own k e
theorem St.onZ (h : St A N w0 w L Z) (k : Nat) {a : OA} (e : Z[k]? = some a := by rfl) : a.on w := h.frz k e
theorem St.lenDZ (h : St A N w0 w L Z) (n : Nat) (q : Z[n]? = some (oD e k C R s l) := by rfl) : l.length ≤ 140737488355328 := (oD.rd (h.frz n q)).elim fun _ h => h.2.2.2
theorem oD.nil_holds (w : World) (e k : Nat) {μ α : Type} (C : μ → List Value) (R : μ → α → OA) : (oD e k C R SlV.nil []).holds w (fun _ => False) :=
 ⟨[], fun _ => False, fun _ => False, ⟨⟨by simpa using Own.nil w 0 e k, by simp⟩, fun i => ⟨fun x => x.elim, fun x => absurd rfl x.1⟩⟩, ⟨trivial, fun _ x => x⟩, fun _ _ x => x, fun _ => ⟨fun x => x.elim, fun x => x.elim id id⟩⟩
theorem St.nilD (h : St A N w0 w L Z) (e k : Nat) {μ α : Type} (C : μ → List Value) (R : μ → α → OA) : St A N w0 w (oD e k C R SlV.nil [] :: L) Z :=
 h.add (b := oD e k C R SlV.nil []) (G := fun _ => False) (Ext.refl w) (oD.nil_holds w e k C R) (fun _ x => x.elim)
theorem St.openD (h : St A N w0 w L Z) (n : Nat) (q : L[n]? = some (oD e k C R s l) := by rfl) : ∃ ms : List μ, St A N w0 w (oS e k C s ms :: big R ms l :: L.eraseIdx n) Z := by
 obtain ⟨ms, h1⟩ := h.unex n (f := fun ms => (oS e k C s ms).star (big R ms l)) q
 exact ⟨ms, h1.unstar 0⟩
theorem St.shutD {ms : List μ} (h : St A N w0 w (oS e k C s ms :: big R ms l :: L) Z) : St A N w0 w (oD e k C R s l :: L) Z := St.toex (f := fun ms => (oS e k C s ms).star (big R ms l)) ms h.star
theorem St.pushD {ms : List μ} {m : μ} {x : α} (h : St A N w0 w (oS e k C s (ms ++ [m]) :: big R ms l :: R m x :: L) Z) : St A N w0 w (oD e k C R s (l ++ [x]) :: L) Z := by
 refine St.shutD (ms := ms ++ [m]) (h.sep fun U hL => ?_)
 obtain ⟨F, f, hF, G, g, hG, H, hh, hH, hR⟩ := hL
 exact ⟨F, f, hF, fun i => G i ∨ H i, big_push hh g (fun i hg hi => (hH i hi).2 hg), fun i hi => hi.elim (hG i) (fun q => (hH i q).1), hR.mono fun i hi => ⟨hi.1.1, fun q => q.elim hi.1.2 hi.2⟩⟩
end
section
variable {P : Program} {f : Fr} {w w' : World} {d : Option Tmp} {ty : TypeId} {pos : String} {af : Array Edge} {gd : Option (Nat × Bool)}
theorem does_lenD {e' k' : Nat} {μ α : Type} {C : μ → List Value} {R : μ → α → OA} {l : List α} {x : Operand} {t e k : Nat} {s : SlV} (ht : SliceT P t e k) (hx : evF f x = s.v) (h : (oD e' k' C R s l).on w) : Does P ⟨d, .call ⟨.builtin .len, #[x], #[t]⟩, ty, pos, af, gd⟩ f w (.int .i64 l.length) w := by
 obtain ⟨ms, hr, hl, _⟩ := oD.rd h
 have := does_lenR (P := P) (f := f) (d := d) (ty := ty) (pos := pos) (af := af) (gd := gd) ht hx hr
 rw [hl] at this; exact this
theorem does_indexD {e' : Nat} {μ α : Type} {C : μ → List Value} {R : μ → α → OA} {l : List α} {x y : Operand} {t e k : Nat} {kd : IntKind} {i : Int} {s : SlV} (ht : SliceT P t e k) (hx : evF f x = s.v) (hy : evF f y = .int kd i) (h : (oD e' k C R s l).on w) (h0 : 0 ≤ i) (h1 : i < l.length) :
  Does P ⟨d, .indexAddr t x y, ty, pos, af, gd⟩ f w (.pointer (some ⟨s.blk, s.off + i.toNat * k, none⟩)) w := by
 obtain ⟨ms, hr, hl, _⟩ := oD.rd h
 exact does_indexR ht hx hy hr h0 (by omega)
theorem Does.to {o : Oper} {v v' : Value} (h : Does P o f w v w') (e : v = v') : Does P o f w v' w' := e ▸ h
theorem wl_makeMap {α β : Type} {C : α → Value} {D : β → Value} {rd : Option Nat} {n : Nat} {dm : List Nat} {ops : Array Oper} {rest : List Oper} {Q : Post} {dd : Tmp} {t : TypeId} (hd : dd < n)
  (h : ∀ m w', MapB w' m C D [] → Ext w w' → w.heap.size ≤ m → wl P rd n dm ops rest Q (upd f dd (.map (some m))) w') : wl P rd n dm ops (⟨some dd, .makeMap t none, ty, pos, af, none⟩ :: rest) Q f w :=
 wl_does does_makeMap hd (h _ _ ⟨#[], 0, heap_alloc_new w _, rfl⟩ (Ext.alloc _ _) (Nat.le_refl _))
end
section
variable {A : Nat → Prop} {N : Oth} {w0 w w' : World} {L Z : List OA}
theorem St.newM (h : St A N w0 w L Z) {α β : Type} {C : α → Value} {D : β → Value} {m : Nat} (hm : MapB w' m C D ([] : List (α × β))) (hx : Ext w w') (hl : w.heap.size ≤ m) : St A N w0 w' (oM m C D [] :: L) Z :=
 h.add (b := oM m C D []) (G := (· = m)) hx ⟨hm, fun _ => Iff.rfl⟩ (fun i hi => by rw [hi]; exact hl)
end
end Gw
end Go.Proofs.YtjjkhjieegmphaaDoor
end
section
namespace Go.Proofs.YtjjkhjieegmphaaDoor
open Gw Go.RowKit
structure PStep where
 seq : Sq
 proved : Bool
 rule : Int
 main : Int
 kids : List Int
 deriving DecidableEq
def PStep.z : PStep := ⟨Sq.z, false, 0, 0, []⟩
structure PFound where
 proved : Bool
 steps : List PStep
 visits : Int
 deriving DecidableEq
structure PFinder where
 t : Tb
 steps : List PStep
 at_ : List (Sq × Int)
 left : Int
 visits : Int
structure PRRun where
 t : Tb
 steps : List PStep
 visits : Int
 budget : Int
def rStep (m : Step) (x : PStep) : OA := (OA.pure (m.seq = x.seq ∧ m.proved = x.proved ∧ m.rule = x.rule ∧ m.main = x.main)).star (oS T_int 1 IC m.kids x.kids)
theorem rStep.eqs {w : World} {m : Step} {x : PStep} (h : (rStep m x).on w) : m.seq = x.seq ∧ m.proved = x.proved ∧ m.rule = x.rule ∧ m.main = x.main := by
 obtain ⟨F, G, H, g, _⟩ := h
 exact g.1
theorem rStep.sub_seq {w : World} {m : Step} {x : PStep} (h : (rStep m x).on w) : ((Step.C m).drop 0).take 17 = Sq.C x.seq := by rw [Step.sub_seq, (rStep.eqs h).1]
theorem rStep.get_proved {w : World} {m : Step} {x : PStep} (h : (rStep m x).on w) : (Step.C m)[17]? = some (.bool x.proved) := by rw [Step.get_proved, (rStep.eqs h).2.1]
theorem rStep.get_rule {w : World} {m : Step} {x : PStep} (h : (rStep m x).on w) : (Step.C m)[18]? = some (.int .i64 x.rule) := by rw [Step.get_rule, (rStep.eqs h).2.2.1]
def mSqC (x : Sq) : Value := .agg (Sq.C x).toArray
abbrev oDStep (s : SlV) (l : List PStep) : OA := oD T_Step 21 Step.C rStep s l
abbrev oMSq (m : Nat) (l : List (Sq × Int)) : OA := oM m mSqC (Value.int .i64) l
theorem does_buildc {P : Program} {f : Fr} {w : World} {d : Option Tmp} {ty : TypeId} {pos : String} {af : Array Edge} {gd : Option (Nat × Bool)} {t : Nat} {out : List Value} {parts : Array (Nat × Operand)} {vs : List (Nat × Value)} (hv : parts.toList.map (fun q => (q.1, evF f q.2)) = vs) (hb : P.built t vs = some out.toArray) : Does P ⟨d, .build t parts, ty, pos, af, gd⟩ f w (.agg out.toArray) w := by
 subst hv
 have h := run_build (P := P) w t (parts.map fun q => (q.1, evF f q.2)) out.toArray (by rw [Array.toList_map]; exact hb)
 unfold Does
 show (execOp (evF f) _).run P w = _
 unfold execOp
 simp only [Sem.run_bind, h, Result.andThen_ok, Sem.run_pure]
theorem Gw.St.addO {A : Nat → Prop} {N : Oth} {w0 w w' : World} {L Z : List OA} (h : St A N w0 w L Z) (hc : Ext w w') {e k : Nat} {α : Type} {C : α → List Value} {s : SlV} {l : List α} (ho : Own w' 0 e k s (l.map C)) (hl : l.length ≤ 140737488355328) (hf : ∀ i, s.fp i → w.heap.size ≤ i) : St A N w0 w' (oS e k C s l :: L) Z :=
 h.add (b := oS e k C s l) (G := s.fp) hc ⟨⟨ho, hl⟩, fun _ => Iff.rfl⟩ hf
theorem Gw.St.viewStep {A : Nat → Prop} {N : Oth} {w0 w : World} {L Z : List OA} {s : SlV} {l : List PStep} (h : St A N w0 w L Z) (k : Nat) {i : Int} (hi : 0 ≤ i ∧ i < l.length) (e : Z[k]? = some (oDStep s l) := by rfl) :
  ∃ n : SlV, Cells w s.blk (s.off + i.toNat * 21) (Step.C ⟨(at_ PStep.z l i).seq, (at_ PStep.z l i).proved, (at_ PStep.z l i).rule, (at_ PStep.z l i).main, n⟩) ∧ St A N w0 w L (fS 1 IC n (at_ PStep.z l i).kids :: Z) := by
 obtain ⟨U, hU, hN, hA, hL, hZ, hW⟩ := h
 obtain ⟨F, hF, hX⟩ := hZ _ (List.mem_of_getElem? e)
 have hF' := hF
 obtain ⟨ms, G, H, g, hh, d, q⟩ := hF
 have hl := big_len hh
 have h1 : i.toNat < ms.length := by omega
 have h2 : i.toNat < l.length := by omega
 have h3 : at_ PStep.z l i = l[i.toNat] := by simp [at_, List.getD_eq_getElem?_getD, h2]
 obtain ⟨K, hk, hK⟩ := big_at hh (List.getElem?_eq_getElem h1) (List.getElem?_eq_getElem h2)
 have heq := rStep.eqs ⟨K, hk⟩
 obtain ⟨K1, K2, k1, k2, _, kq⟩ := hk
 refine ⟨ms[i.toNat].kids, ?_, U, hU, hN, hA, hL, fun z hz => ?_, hW⟩
 ·rw [h3]
  have := (g.1.1.toRd).at (List.getElem?_eq_getElem h1)
  rw [← heq.1, ← heq.2.1, ← heq.2.2.1, ← heq.2.2.2]
  exact this
 ·rcases List.mem_cons.1 hz with rfl | hz
  ·rw [h3]
   exact ⟨K2, ⟨⟨k2.1.1.toRd, k2.1.2⟩, k2.2⟩, fun j hj => hX j ((q j).2 (.inr (hK j ((kq j).2 (.inr hj)))))⟩
  ·exact hZ z hz
def oF (a ta : Option Addr) (x : PFinder) : OA := OA.ex fun (q : Nat × SlV × Nat) => (OA.pure (a = some ⟨q.1, 0, none⟩)).star ((oB q.1 T_Finder (Finder.C ⟨ta, q.2.1, some q.2.2, x.left, x.visits⟩)).star ((oT ta x.t).star ((oDStep q.2.1 x.steps).star (oMSq q.2.2 x.at_))))
section
variable {A : Nat → Prop} {N : Oth} {w0 w w' : World} {L Z : List OA}
theorem Gw.St.open_oF (h : St A N w0 w L Z) (k : Nat) {a ta : Option Addr} {x : PFinder} {L' : List OA} (e : L[k]? = some (oF a ta x) := by rfl) (e' : L.eraseIdx k = L' := by rfl) :
  ∃ p ss m, a = some ⟨p, 0, none⟩ ∧ St A N w0 w (oB p T_Finder (Finder.C ⟨ta, ss, some m, x.left, x.visits⟩) :: oT ta x.t :: oDStep ss x.steps :: oMSq m x.at_ :: L') Z := by
 subst e'
 obtain ⟨⟨p, ss, m⟩, h1⟩ := h.unex k e
 have h2 := h1.unstar 0
 have hp := h2.getp 0
 have h3 := h2.drop 0
 have h4 := h3.unstar 0
 have h5 := h4.unstar 1
 have h6 := h5.unstar 1
 exact ⟨p, ss, m, hp, ((h6.front 3).front 3).front 1⟩
theorem Gw.St.shut_oF {p : Nat} {ta a : Option Addr} {ss : SlV} {m : Nat} {lf vs : Int} {t : Tb} {st : List PStep} {mp : List (Sq × Int)} (h : St A N w0 w (oB p T_Finder (Finder.C ⟨ta, ss, some m, lf, vs⟩) :: oT ta t :: oDStep ss st :: oMSq m mp :: L) Z) (ha : a = some ⟨p, 0, none⟩) : St A N w0 w (oF a ta ⟨t, st, mp, lf, vs⟩ :: L) Z := by
 have h1 : St A N w0 w (oDStep ss st :: oMSq m mp :: oB p T_Finder (Finder.C ⟨ta, ss, some m, lf, vs⟩) :: oT ta t :: L) Z := (h.front 3).front 3
 have h2 : St A N w0 w (oT ta t :: (oDStep ss st).star (oMSq m mp) :: oB p T_Finder (Finder.C ⟨ta, ss, some m, lf, vs⟩) :: L) Z := h1.star.front 2
 have h3 : St A N w0 w (oB p T_Finder (Finder.C ⟨ta, ss, some m, lf, vs⟩) :: (oT ta t).star ((oDStep ss st).star (oMSq m mp)) :: L) Z := h2.star.front 1
 exact St.toex (f := fun (q : Nat × SlV × Nat) => (OA.pure (a = some ⟨q.1, 0, none⟩)).star ((oB q.1 T_Finder (Finder.C ⟨ta, q.2.1, some q.2.2, lf, vs⟩)).star ((oT ta t).star ((oDStep q.2.1 st).star (oMSq q.2.2 mp))))) (p, ss, m) ((h3.star.putp ha).star)
end
def oU (a ta : Option Addr) (x : PRRun) : OA := OA.ex fun (q : Nat × SlV) => (OA.pure (a = some ⟨q.1, 0, none⟩)).star ((oB q.1 T_RRun (RRun.C ⟨ta, q.2, x.visits, x.budget⟩)).star ((oR ta x.t).star (oDStep q.2 x.steps)))
section
variable {A : Nat → Prop} {N : Oth} {w0 w w' : World} {L Z : List OA}
theorem Gw.St.open_oU (h : St A N w0 w L Z) (k : Nat) {a ta : Option Addr} {x : PRRun} {L' : List OA} (e : L[k]? = some (oU a ta x) := by rfl) (e' : L.eraseIdx k = L' := by rfl) :
  ∃ p ss, a = some ⟨p, 0, none⟩ ∧ St A N w0 w (oB p T_RRun (RRun.C ⟨ta, ss, x.visits, x.budget⟩) :: oR ta x.t :: oDStep ss x.steps :: L') Z := by
 subst e'
 obtain ⟨⟨p, ss⟩, h1⟩ := h.unex k e
 have h2 := h1.unstar 0
 have hp := h2.getp 0
 have h3 := h2.drop 0
 have h4 := h3.unstar 0
 have h5 := h4.unstar 1
 exact ⟨p, ss, hp, (h5.front 2).front 1 |>.front 1⟩
theorem Gw.St.shut_oU {p : Nat} {ta a : Option Addr} {ss : SlV} {vs bg : Int} {t : Tb} {st : List PStep} (h : St A N w0 w (oB p T_RRun (RRun.C ⟨ta, ss, vs, bg⟩) :: oR ta t :: oDStep ss st :: L) Z) (ha : a = some ⟨p, 0, none⟩) : St A N w0 w (oU a ta ⟨t, st, vs, bg⟩ :: L) Z := by
 have h1 : St A N w0 w (oR ta t :: oDStep ss st :: oB p T_RRun (RRun.C ⟨ta, ss, vs, bg⟩) :: L) Z := (h.front 2).front 2
 have h2 : St A N w0 w (oB p T_RRun (RRun.C ⟨ta, ss, vs, bg⟩) :: (oR ta t).star (oDStep ss st) :: L) Z := h1.star.front 1
 exact St.toex (f := fun (q : Nat × SlV) => (OA.pure (a = some ⟨q.1, 0, none⟩)).star ((oB q.1 T_RRun (RRun.C ⟨ta, q.2, vs, bg⟩)).star ((oR ta t).star (oDStep q.2 st)))) (p, ss) ((h2.star.putp ha).star)
end
end Go.Proofs.YtjjkhjieegmphaaDoor
end
section
namespace Go.Proofs.YtjjkhjieegmphaaDoor
open Gw
def search_finder_end.f (a0 : PFinder) (a1 : PStep) : Option (PFinder × Int × Int) :=
 chk (decide ((a0.steps.length + 1) * 184 ≤ 140737488355328)) (some ((⟨a0.t, a0.steps ++ [a1], Gw.ins a1.seq (a0.steps.length : Int) a0.at_, a0.left, a0.visits⟩ : PFinder), IntKind.i64.wrap (((a0.steps ++ [a1]).length : Int) - 1), 0))
def search_finder_choose.b1 (rec_search_finder_decide : PFinder → Sq → Option (PFinder × Int × Int)) (r38 : Tb × List Sq × Int) (i50 : Int) (x50_0 : PStep) (x50_1 : PFinder) (x50_2 : PStep) : Option (Stp (PStep × PFinder × PStep) (Stp (PStep × PFinder) (PFinder × Int × Int))) :=
 (rec_search_finder_decide x50_1 (at_ Sq.z r38.2.1 i50)).bind fun r62 => if decide (r62.2.2 ≠ 0) then some (.ret (.ret (r62.1, 0, r62.2.2))) else chk (decide ((x50_0.kids.length + ([r62.2.1]).length) * 8 ≤ 140737488355328)) (chk (inb r62.2.1 r62.1.steps.length) (if (at_ PStep.z r62.1.steps r62.2.1).proved then some (.go ((⟨x50_0.seq, x50_0.proved, x50_0.rule, x50_0.main, x50_0.kids ++ [r62.2.1]⟩ : PStep), r62.1, x50_2)) else if decide (i50 = 0) then chk (decide ((x50_2.kids.length + ([r62.2.1]).length) * 8 ≤ 140737488355328)) (some (.brk ((⟨x50_0.seq, false, x50_0.rule, x50_0.main, x50_0.kids ++ [r62.2.1]⟩ : PStep), r62.1, (⟨x50_2.seq, x50_2.proved, x50_2.rule, x50_2.main, x50_2.kids ++ [r62.2.1]⟩ : PStep)))) else (search_finder_end.f r62.1 (⟨x50_0.seq, false, x50_0.rule, x50_0.main, [r62.2.1]⟩ : PStep)).bind fun r92 => some (.ret (.ret (r92.1, r92.2.1, r92.2.2)))))
def search_finder_choose.b0 (r11 : List Int × List Int × Int) (a1 : Sq) (rec_search_finder_decide : PFinder → Sq → Option (PFinder × Int × Int)) (i22 : Int) (x22_0 : PStep) (x22_1 : PFinder) : Option (Stp (PStep × PFinder) (PFinder × Int × Int)) :=
 chk (inb i22 r11.2.1.length) ((rule_Premises.f x22_1.t a1 (at_ (0 : Int) r11.1 i22) (at_ (0 : Int) r11.2.1 i22)).bind fun r38 => if decide (r38.2.2 ≠ 0) then some (.ret ((⟨r38.1, x22_1.steps, x22_1.at_, x22_1.left, x22_1.visits⟩ : PFinder), 0, r38.2.2)) else chk (inb i22 r11.2.1.length) ((forN (fun i s => search_finder_choose.b1 rec_search_finder_decide r38 i s.1 s.2.1 s.2.2) ((r38.2.1.length : Int) - 0).toNat 0 ((⟨a1, true, at_ (0 : Int) r11.1 i22, at_ (0 : Int) r11.2.1 i22, ([] : List Int)⟩ : PStep), (⟨r38.1, x22_1.steps, x22_1.at_, x22_1.left, x22_1.visits⟩ : PFinder), x22_0)).bind (aft fun (s50 : PStep × PFinder × PStep) => if s50.1.proved then (search_finder_end.f s50.2.1 s50.1).bind fun r98 => some (.ret (r98.1, r98.2.1, r98.2.2)) else some (.go (s50.2.2, s50.2.1)))))
def search_finder_choose.g (rec_search_finder_decide : PFinder → Sq → Option (PFinder × Int × Int)) (a0 : PFinder) (a1 : Sq) : Option (PFinder × Int × Int) :=
 (rule_Choices.f a0.t a1).bind fun r11 => if decide (r11.2.2 ≠ 0) then some (a0, 0, r11.2.2) else (forN (fun i s => search_finder_choose.b0 r11 a1 rec_search_finder_decide i s.1 s.2) ((r11.1.length : Int) - 0).toNat 0 ((⟨a1, false, 14, 0, ([] : List Int)⟩ : PStep), a0)).bind (aft fun (s22 : PStep × PFinder) => (search_finder_end.f s22.2 s22.1).bind fun r103 => some (r103.1, r103.2.1, r103.2.2))
def search_finder_decide.b0 (rec_search_finder_decide : PFinder → Sq → Option (PFinder × Int × Int)) (r43 : Tb × List Sq × Int) (a1 : Sq) (r28 : Int × Int × Int) (i53 : Int) (x53_0 : PStep) (x53_1 : PFinder) : Option (Stp (PStep × PFinder) (PFinder × Int × Int)) :=
 (rec_search_finder_decide x53_1 (at_ Sq.z r43.2.1 i53)).bind fun r62 => if decide (r62.2.2 ≠ 0) then some (.ret (r62.1, 0, r62.2.2)) else chk (inb r62.2.1 r62.1.steps.length) (if !((at_ PStep.z r62.1.steps r62.2.1).proved) then (search_finder_end.f r62.1 (⟨a1, false, r28.1, r28.2.1, [r62.2.1]⟩ : PStep)).bind fun r75 => some (.ret (r75.1, r75.2.1, r75.2.2)) else chk (decide ((x53_0.kids.length + ([r62.2.1]).length) * 8 ≤ 140737488355328)) (some (.go ((⟨x53_0.seq, x53_0.proved, x53_0.rule, x53_0.main, x53_0.kids ++ [r62.2.1]⟩ : PStep), r62.1))))
def search_finder_decide.g (rec_search_finder_decide : PFinder → Sq → Option (PFinder × Int × Int)) (a0 : PFinder) (a1 : Sq) : Option (PFinder × Int × Int) :=
 if (Gw.look a1 a0.at_).isSome then some (a0, (Gw.look a1 a0.at_).getD 0, 0) else if decide (a0.left = 0) then some (a0, 0, 110) else (rule_Apply.f a0.t a1).bind fun r28 => if decide (r28.2.2 ≠ 0) then some ((⟨a0.t, a0.steps, a0.at_, IntKind.i64.wrap (a0.left - 1), IntKind.i64.wrap (a0.visits + 1)⟩ : PFinder), 0, r28.2.2) else if decide (r28.1 = 14) then (search_finder_choose.g rec_search_finder_decide (⟨a0.t, a0.steps, a0.at_, IntKind.i64.wrap (a0.left - 1), IntKind.i64.wrap (a0.visits + 1)⟩ : PFinder) a1).bind fun r32 => some (r32.1, r32.2.1, r32.2.2) else (rule_Premises.f a0.t a1 r28.1 r28.2.1).bind fun r43 => if decide (r43.2.2 ≠ 0) then some ((⟨r43.1, a0.steps, a0.at_, IntKind.i64.wrap (a0.left - 1), IntKind.i64.wrap (a0.visits + 1)⟩ : PFinder), 0, r43.2.2) else (forN (fun i s => search_finder_decide.b0 rec_search_finder_decide r43 a1 r28 i s.1 s.2) ((r43.2.1.length : Int) - 0).toNat 0 ((⟨a1, true, r28.1, r28.2.1, ([] : List Int)⟩ : PStep), (⟨r43.1, a0.steps, a0.at_, IntKind.i64.wrap (a0.left - 1), IntKind.i64.wrap (a0.visits + 1)⟩ : PFinder))).bind (aft fun (s53 : PStep × PFinder) => (search_finder_end.f s53.2 s53.1).bind fun r87 => some (r87.1, r87.2.1, r87.2.2))
def search_finder_decide.f : Nat → PFinder → Sq → Option (PFinder × Int × Int)
 | 0 => fun _ _ => none
 | k + 1 => search_finder_decide.g (search_finder_decide.f k)
def search_Run.b0 (a0 : Tb) (i18 : Int) (x18_0 : Int) (x18_1 : PFound) : Option (Stp (Int × PFound) (Int × PFound)) :=
 (formula_Table_Len.f a0).bind fun r20 => if decide (r20 ≤ i18) then some (.ret (31, (⟨false, ([] : List PStep), 0⟩ : PFound))) else some (.go (x18_0, x18_1))
def search_Run.f (k : Nat) (a0 : Tb) (a1 : Sq) (a2 : Int) : Option (Tb × PFound × Int) :=
 (formula_Table_Not_neg.f a0 (-1)).bind fun r9 => if decide (r9.2 = 1) then some (a0, (⟨false, ([] : List PStep), 0⟩ : PFound), r9.2) else chk a1.left.okB ((forE (fun (x : Nat) (s : Int × PFound) => search_Run.b0 a0 (x : Int) s.1 s.2) (Bits.list a1.left) (0, (⟨false, ([] : List PStep), 0⟩ : PFound))).bind (fin (fun (s18 : Int × PFound) => (if (!(decide (a1.goal < 0))) then formula_Table_Len.f a0 else some 0).bind fun r28 => if (decide (a1.goal < 0)) || (decide (r28 ≤ a1.goal)) then some (a0, (⟨false, ([] : List PStep), 0⟩ : PFound), 31) else if (decide (a2 < 1)) || (decide (4096 < a2)) then some (a0, (⟨false, ([] : List PStep), 0⟩ : PFound), 2) else (formula_Table_Len.f a0).bind fun r38 => (search_finder_decide.f k (⟨a0, ([] : List PStep), ([] : List (Sq × Int)), a2, 0⟩ : PFinder) a1).bind fun r45 => if decide (r45.2.2 ≠ 0) then (formula_Table_Cut.f r45.1.t r38).bind fun r53 => some (r53.1, (⟨false, ([] : List PStep), 0⟩ : PFound), r45.2.2) else chk (inb r45.2.1 r45.1.steps.length) (some (r45.1.t, (⟨(at_ PStep.z r45.1.steps r45.2.1).proved, r45.1.steps, r45.1.visits⟩ : PFound), 0))) (fun (s18 : Int × PFound) => some (a0, s18.2, s18.1))))
end Go.Proofs.YtjjkhjieegmphaaDoor
end
section
namespace Go.Proofs.YtjjkhjieegmphaaDoor
open Gw
def formula_From.b0 (a0 : List Nd) (i5 : Int) (x5_0 : Tb) : Option (Stp Tb (Tb × Int)) :=
 (formula_Table_Put.f x5_0 (at_ Nd.z a0 i5)).bind fun r11 => if (decide (r11.2.2 = 0)) && (decide (r11.2.1 ≠ i5)) then if decide (31 ≠ 0) then some (.ret (none, 31)) else some (.go r11.1) else if decide (r11.2.2 ≠ 0) then some (.ret (none, r11.2.2)) else some (.go r11.1)
def formula_From.f (a0 : List Nd) : Option (Tb × Int) :=
 (formula_New.f).bind fun r1 => (forN (fun i s => formula_From.b0 a0 i s) ((a0.length : Int) - 0).toNat 0 r1).bind (aft fun (s5 : Tb) => some (s5, 0))
end Go.Proofs.YtjjkhjieegmphaaDoor
end
section
namespace Go.Proofs.YtjjkhjieegmphaaDoor
open Gw
def ref03_Ints.b0 (a1 : List Int) (a0 : List Int) (i2 : Int) : Option (Stp Unit Bool) :=
 chk (inb i2 a1.length) (if decide (at_ (0 : Int) a0 i2 ≠ at_ (0 : Int) a1 i2) then some (.ret false) else some (.go ()))
def ref03_Ints.f (a0 : List Int) (a1 : List Int) : Option Bool :=
 if decide ((a0.length : Int) ≠ (a1.length : Int)) then some false else (forN (fun i s => ref03_Ints.b0 a1 a0 i) ((a0.length : Int) - 0).toNat 0 ()).bind (aft fun (s2 : Unit) => some true)
def ref03_Same.b0 (a1 : List Nd) (a0 : List Nd) (i2 : Int) : Option (Stp Unit Bool) :=
 chk (inb i2 a1.length) (if !decide (at_ Nd.z a0 i2 = at_ Nd.z a1 i2) then some (.ret false) else some (.go ()))
def ref03_Same.f (a0 : List Nd) (a1 : List Nd) : Option Bool :=
 if decide ((a0.length : Int) ≠ (a1.length : Int)) then some false else (forN (fun i s => ref03_Same.b0 a1 a0 i) ((a0.length : Int) - 0).toNat 0 ()).bind (aft fun (s2 : Unit) => some true)
def ref03_T_Has.f (a0 : Tb) (a1 : Int) : Option Bool :=
 chk a0.isSome (some ((decide (0 ≤ a1)) && (decide (a1 < ((a0.getD []).length : Int)))))
def ref03_T_Find.b0 (a0 : Tb) (a1 : Nd) (i4 : Int) : Option (Stp Unit (Int × Bool)) :=
 if decide (at_ Nd.z (a0.getD []) i4 = a1) then some (.ret (i4, true)) else some (.go ())
def ref03_T_Find.f (a0 : Tb) (a1 : Nd) : Option (Int × Bool) :=
 chk a0.isSome ((forN (fun i s => ref03_T_Find.b0 a0 a1 i) (((a0.getD []).length : Int) - 0).toNat 0 ()).bind (aft fun (s4 : Unit) => some (0, false)))
def ref03_T_Put.f (a0 : Tb) (a1 : Nd) : Option (Tb × Int × Int) :=
 (if decide (a1.kind = 1) then if (decide (a1.l ≠ 0)) || (decide (a1.r ≠ 0)) then some (.inr (a0, 0, 31)) else (ref03_Word.f a1.name).bind fun r6 => if !r6 then some (.inr (a0, 0, 32)) else some (.inl a0) else if decide (a1.kind = 2) then if ((decide (a1.name ≠ (⟨#[]⟩ : ByteArray))) || (decide (a1.l ≠ 0))) || (decide (a1.r ≠ 0)) then some (.inr (a0, 0, 31)) else some (.inl a0) else (if decide (a1.kind = 3) then some (decide (a1.kind = 3)) else if decide (a1.kind = 4) then some (decide (a1.kind = 4)) else some (decide (a1.kind = 5))).bind fun (o12 : Bool) => if o12 then (if (!(decide (a1.name ≠ (⟨#[]⟩ : ByteArray)))) then ref03_T_Has.f a0 a1.l else some false).bind fun r18 => (if (!((decide (a1.name ≠ (⟨#[]⟩ : ByteArray))) || (!r18))) then ref03_T_Has.f a0 a1.r else some false).bind fun r20 => if ((decide (a1.name ≠ (⟨#[]⟩ : ByteArray))) || (!r18)) || (!r20) then some (.inr (a0, 0, 31)) else some (.inl a0) else some (.inr (a0, 0, 31))).bind (aft fun (s3 : Tb) => (ref03_T_Find.f s3 a1).bind fun r25 => if r25.2 then some (s3, r25.1, 0) else chk s3.isSome (if decide (1024 ≤ ((s3.getD []).length : Int)) then some ((some (s3.getD [])), 0, 30) else chk (decide (((s3.getD []).length + 1) * 40 ≤ 140737488355328)) (some ((some ((s3.getD []) ++ [a1])), IntKind.i64.wrap ((((s3.getD []) ++ [a1]).length : Int) - 1), 0))))
def ref09_kind.f (a0 : Tb) (a1 : Int) : Option Int :=
 chk a0.isSome (chk (inb a1 (a0.getD []).length) (some ((at_ Nd.z (a0.getD []) a1).kind)))
def ref09_Fits.f (a0 : Tb) (a1 : Sq) (a2 : Int) (a3 : Int) : Option Bool :=
 (ref03_T_Has.f a0 a3).bind fun r3 => if !r3 then some false else chk a0.isSome (chk (inb a3 (a0.getD []).length) ((ref05_Has.f a1.left a3).bind fun r15 => if decide (a2 = 1) then some (r15 && (decide ((at_ Nd.z (a0.getD []) a3).kind = 2))) else if decide (a2 = 2) then some (r15 && (decide (a3 = a1.goal))) else if decide (a2 = 3) then some (r15 && (decide ((at_ Nd.z (a0.getD []) a3).kind = 3))) else if decide (a2 = 4) then (if (r15 && (decide ((at_ Nd.z (a0.getD []) a3).kind = 5))) then ref09_kind.f a0 ((at_ Nd.z (a0.getD []) a3).l) else some 0).bind fun r22 => (if ((r15 && (decide ((at_ Nd.z (a0.getD []) a3).kind = 5))) && (decide (r22 = 1))) then ref05_Has.f a1.left ((at_ Nd.z (a0.getD []) a3).l) else some false).bind fun r24 => some (((r15 && (decide ((at_ Nd.z (a0.getD []) a3).kind = 5))) && (decide (r22 = 1))) && r24) else if decide (a2 = 5) then (if (r15 && (decide ((at_ Nd.z (a0.getD []) a3).kind = 5))) then ref09_kind.f a0 ((at_ Nd.z (a0.getD []) a3).l) else some 0).bind fun r27 => some ((r15 && (decide ((at_ Nd.z (a0.getD []) a3).kind = 5))) && (decide (r27 = 2))) else if decide (a2 = 6) then (if (r15 && (decide ((at_ Nd.z (a0.getD []) a3).kind = 5))) then ref09_kind.f a0 ((at_ Nd.z (a0.getD []) a3).l) else some 0).bind fun r30 => some ((r15 && (decide ((at_ Nd.z (a0.getD []) a3).kind = 5))) && (decide (r30 = 3))) else if decide (a2 = 7) then (if (r15 && (decide ((at_ Nd.z (a0.getD []) a3).kind = 5))) then ref09_kind.f a0 ((at_ Nd.z (a0.getD []) a3).l) else some 0).bind fun r33 => some ((r15 && (decide ((at_ Nd.z (a0.getD []) a3).kind = 5))) && (decide (r33 = 4))) else if decide (a2 = 8) then some ((decide (a3 = a1.goal)) && (decide ((at_ Nd.z (a0.getD []) a3).kind = 5))) else if decide (a2 = 9) then some ((decide (a3 = a1.goal)) && (decide ((at_ Nd.z (a0.getD []) a3).kind = 3))) else if decide (a2 = 10) then some (r15 && (decide ((at_ Nd.z (a0.getD []) a3).kind = 4))) else (if decide (a2 = 11) then some (decide (a2 = 11)) else some (decide (a2 = 12))).bind fun (o38 : Bool) => if o38 then some ((decide (a3 = a1.goal)) && (decide ((at_ Nd.z (a0.getD []) a3).kind = 4))) else if decide (a2 = 13) then (if (r15 && (decide ((at_ Nd.z (a0.getD []) a3).kind = 5))) then ref09_kind.f a0 ((at_ Nd.z (a0.getD []) a3).l) else some 0).bind fun r44 => some ((r15 && (decide ((at_ Nd.z (a0.getD []) a3).kind = 5))) && (decide (r44 = 5))) else some false))
def ref09_Right.b0 (a0 : Tb) (r3 : List Int) (i7 : Int) : Option (Stp Unit Bool) :=
 (ref03_T_Has.f a0 (at_ (0 : Int) r3 i7)).bind fun r10 => if !r10 then some (.ret false) else some (.go ())
def ref09_Right.f (a0 : Tb) (a1 : Sq) : Option Bool :=
 (ref05_List.f a1.left).bind fun r3 => (forN (fun i s => ref09_Right.b0 a0 r3 i) ((r3.length : Int) - 0).toNat 0 ()).bind (aft fun (s7 : Unit) => (ref03_T_Has.f a0 a1.goal).bind fun r16 => some r16)
def ref09_first.b1 (a0 : Tb) (a1 : Sq) (a2 : List Int) (i4 : Int) (i9 : Int) : Option (Stp Unit (Stp Unit (Int × Int × Bool))) :=
 (ref09_Fits.f a0 a1 (at_ (0 : Int) a2 i9) i4).bind fun r13 => if r13 then some (.ret (.ret (at_ (0 : Int) a2 i9, i4, true))) else some (.go ())
def ref09_first.b0 (a0 : Tb) (a1 : Sq) (a2 : List Int) (i4 : Int) : Option (Stp Unit (Int × Int × Bool)) :=
 (forN (fun i s => ref09_first.b1 a0 a1 a2 i4 i) ((a2.length : Int) - 0).toNat 0 ()).bind (aft fun (s9 : Unit) => some (.go ()))
def ref09_first.f (a0 : Tb) (a1 : Sq) (a2 : List Int) : Option (Int × Int × Bool) :=
 chk a0.isSome ((forN (fun i s => ref09_first.b0 a0 a1 a2 i) (((a0.getD []).length : Int) - 0).toNat 0 ()).bind (aft fun (s4 : Unit) => some (0, 0, false)))
def ref09_Apply.f (a0 : Tb) (a1 : Sq) : Option (Int × Int) :=
 (ref09_first.f a0 a1 ([1])).bind fun r26 => if r26.2.2 then some (r26.1, r26.2.1) else (ref09_first.f a0 a1 ([2])).bind fun r31 => if r31.2.2 then some (r31.1, r31.2.1) else (ref09_first.f a0 a1 ([3, 4, 5, 6, 7])).bind fun r36 => if r36.2.2 then some (r36.1, r36.2.1) else (ref09_first.f a0 a1 ([8])).bind fun r41 => if r41.2.2 then some (r41.1, r41.2.1) else (ref09_first.f a0 a1 ([9])).bind fun r46 => if r46.2.2 then some (r46.1, r46.2.1) else (ref09_first.f a0 a1 ([10])).bind fun r51 => if r51.2.2 then some (r51.1, r51.2.1) else some (14, 0)
def ref09_Choices.b0 (a0 : Tb) (a1 : Sq) (i29 : Int) (x29_0 : List Int) (x29_1 : List Int) : Option (List Int × List Int) :=
 (ref09_Fits.f a0 a1 13 i29).bind fun r40 => if r40 then chk (decide ((x29_0.length + ([13]).length) * 8 ≤ 140737488355328)) (chk (decide ((x29_1.length + ([i29]).length) * 8 ≤ 140737488355328)) (some (x29_0 ++ [13], x29_1 ++ [i29]))) else some (x29_0, x29_1)
def ref09_Choices.f (a0 : Tb) (a1 : Sq) : Option (List Int × List Int) :=
 (ref09_Apply.f a0 a1).bind fun r3 => if decide (r3.1 ≠ 14) then some (([] : List Int), ([] : List Int)) else (ref09_kind.f a0 a1.goal).bind fun r7 => (if decide (r7 = 4) then chk (decide ((([] : List Int).length + ([11, 12]).length) * 8 ≤ 140737488355328)) (chk (decide ((([] : List Int).length + ([a1.goal, a1.goal]).length) * 8 ≤ 140737488355328)) (some ((([] : List Int) ++ [11, 12], ([] : List Int) ++ [a1.goal, a1.goal])))) else some ((([] : List Int), ([] : List Int)))).bind fun (o10 : List Int × List Int) => chk a0.isSome ((forS (fun i s => ref09_Choices.b0 a0 a1 i s.1 s.2) (((a0.getD []).length : Int) - 0).toNat 0 (o10.1, o10.2)).bind fun (o29 : List Int × List Int) => some (o29.1, o29.2))
def ref03_From.b0 (a0 : List Nd) (i3 : Int) (x3_0 : Tb) : Option (Stp Tb (Tb × Int)) :=
 (ref03_T_Put.f x3_0 (at_ Nd.z a0 i3)).bind fun r6 => if decide (r6.2.2 ≠ 0) then some (.ret (none, r6.2.2)) else if decide (r6.2.1 ≠ i3) then some (.ret (none, 31)) else some (.go r6.1)
def ref03_From.f (a0 : List Nd) : Option (Tb × Int) :=
 (forN (fun i s => ref03_From.b0 a0 i s) ((a0.length : Int) - 0).toNat 0 (some [])).bind (aft fun (s3 : Tb) => some (s3, 0))
def law03_Like.f (a0 : Tb) (a1 : Tb) : Option Bool :=
 chk a1.isSome ((formula_Table_Rows.f a0).bind fun r13 => (ref03_Same.f r13 (a1.getD [])).bind fun r17 => (if r17 then formula_Table_Len.f a0 else some 0).bind fun r20 => some (r17 && (decide (r20 = ((a1.getD []).length : Int)))))
def law03_Both.f (a0 : List Nd) : Option (Tb × Tb × Bool) :=
 chk (decide ((([] : List Nd).length + a0.length) * 40 ≤ 140737488355328)) ((ref03_From.f a0).bind fun r7 => if decide (r7.2 ≠ 0) then some (none, none, false) else (formula_From.f (([] : List Nd) ++ a0)).bind fun r12 => some (r12.1, r7.1, true))
end Go.Proofs.YtjjkhjieegmphaaDoor
end
section
namespace Go.Proofs.YtjjkhjieegmphaaDoor
open Gw
def law11_heads.f (k : Nat)  : Option Bool :=
 (formula_From.f ([{ Nd.z with kind := 1, name := (⟨#[112]⟩ : ByteArray) }, { Nd.z with kind := 1, name := (⟨#[113]⟩ : ByteArray) }, { Nd.z with kind := 2 }, { Nd.z with kind := 4, l := 0, r := 1 }, { Nd.z with kind := 5, l := 0, r := 2 }, { Nd.z with kind := 4, l := 0, r := 4 }])).bind fun r4 => (search_Run.f k r4.1 ({ Sq.z with goal := 5 }) 4).bind fun r8 => (search_Run.f k r8.1 ({ Sq.z with goal := 5 }) 3).bind fun r15 => (search_Run.f k r15.1 (⟨Bits.put Bits.z 0 1, 3⟩ : Sq) 9).bind fun r22 => if ((((((((decide (r4.2 ≠ 0)) || (decide (r8.2.2 ≠ 0))) || (decide (r15.2.2 ≠ 110))) || (decide (r22.2.2 ≠ 0))) || r8.2.1.proved) || (decide (r8.2.1.visits ≠ 4))) || (decide ((r8.2.1.steps.length : Int) ≠ 4))) || (!r22.2.1.proved)) || (decide ((r22.2.1.steps.length : Int) ≠ 2)) then some false else chk (inb 2 r8.2.1.steps.length) (chk (!(decide ((at_ PStep.z r8.2.1.steps 2).rule = 8)) || (inb 2 r8.2.1.steps.length)) (chk (decide ((at_ PStep.z r8.2.1.steps 2).rule = 8)) (chk (decide ((at_ PStep.z r8.2.1.steps 2).rule = 8)) ((if (decide ((at_ PStep.z r8.2.1.steps 2).rule = 8)) then ref03_Ints.f ((at_ PStep.z r8.2.1.steps 2).kids) ([1]) else some false).bind fun r39 => chk (!((decide ((at_ PStep.z r8.2.1.steps 2).rule = 8)) && r39) || (inb 3 r8.2.1.steps.length)) (chk (!(((decide ((at_ PStep.z r8.2.1.steps 2).rule = 8)) && r39) && (decide ((at_ PStep.z r8.2.1.steps 3).rule = 14))) || (inb 3 r8.2.1.steps.length)) (chk (((decide ((at_ PStep.z r8.2.1.steps 2).rule = 8)) && r39) && (decide ((at_ PStep.z r8.2.1.steps 3).rule = 14))) (chk (((decide ((at_ PStep.z r8.2.1.steps 2).rule = 8)) && r39) && (decide ((at_ PStep.z r8.2.1.steps 3).rule = 14))) ((if (((decide ((at_ PStep.z r8.2.1.steps 2).rule = 8)) && r39) && (decide ((at_ PStep.z r8.2.1.steps 3).rule = 14))) then ref03_Ints.f ((at_ PStep.z r8.2.1.steps 3).kids) ([0, 2]) else some false).bind fun r50 => chk (!((((decide ((at_ PStep.z r8.2.1.steps 2).rule = 8)) && r39) && (decide ((at_ PStep.z r8.2.1.steps 3).rule = 14))) && r50) || (inb 1 r22.2.1.steps.length)) (some (((((decide ((at_ PStep.z r8.2.1.steps 2).rule = 8)) && r39) && (decide ((at_ PStep.z r8.2.1.steps 3).rule = 14))) && r50) && (decide ((at_ PStep.z r22.2.1.steps 1).rule = 11))))))))))))
end Go.Proofs.YtjjkhjieegmphaaDoor
end
section
namespace Go.Proofs.YtjjkhjieegmphaaDoor
open Gw
def ref09_to.f (a0 : Sq) (a1 : Int) : Option Sq :=
 some ({ a0 with goal := a1 })
def ref09_with.f (a0 : Sq) (a1 : Int) (a2 : Int) : Option Sq :=
 (ref05_With.f a0.left a1).bind fun r5 => (ref05_With.f r5 a2).bind fun r8 => some ({ a0 with left := r8 })
def ref03_T_Two.f (a0 : Tb) (a1 : Int) (a2 : Int) (a3 : Int) : Option (Tb × Int × Int) :=
 (ref03_T_Put.f a0 ({ Nd.z with kind := a1, l := a2, r := a3 })).bind fun r1 => some (r1.1, r1.2.1, r1.2.2)
def ref03_T_Imp.f (a0 : Tb) (a1 : Int) (a2 : Int) : Option (Tb × Int × Int) :=
 (ref03_T_Two.f a0 5 a1 a2).bind fun r1 => some (r1.1, r1.2.1, r1.2.2)
def ref03_T_Cut.f (a0 : Tb) (a1 : Int) : Option (Tb × Int) :=
 chk a0.isSome (if (decide (a1 < 0)) || (decide (((a0.getD []).length : Int) < a1)) then some ((some (a0.getD [])), 2) else chk (decide (0 ≤ a1 ∧ a1 ≤ ((a0.getD []).length : Int))) (some ((some ((a0.getD []).take (a1).toNat)), 0)))
def ref09_imps.f (a0 : Tb) (a1 : Int) (a2 : Int) (a3 : Int) (a4 : Int) : Option (Tb × Int × Int × Int) :=
 chk a0.isSome ((ref03_T_Imp.f (some (a0.getD [])) a1 a2).bind fun r5 => if decide (r5.2.2 ≠ 0) then some (r5.1, 0, 0, r5.2.2) else (if decide (a3 < 0) then some ((r5.2.1, r5.1)) else some ((a3, r5.1))).bind fun (o9 : Int × Tb) => (if decide (a4 < 0) then some ((r5.2.1, o9.2)) else some ((a4, o9.2))).bind fun (o13 : Int × Tb) => (ref03_T_Imp.f o13.2 o9.1 o13.1).bind fun r17 => if decide (r17.2.2 ≠ 0) then (ref03_T_Cut.f r17.1 ((a0.getD []).length : Int)).bind fun r21 => some (r21.1, 0, 0, r17.2.2) else some (r17.1, r5.2.1, r17.2.1, 0))
def ref09_Premises.f (a0 : Tb) (a1 : Sq) (a2 : Int) (a3 : Int) : Option (Tb × List Sq × Int) :=
 (ref09_Fits.f a0 a1 a2 a3).bind fun r3 => if !r3 then some (a0, ([] : List Sq), 90) else chk a0.isSome (chk (inb a3 (a0.getD []).length) ((ref05_Drop.f a1.left a3).bind fun r18 => (if decide (a2 = 1) then some ((decide (a2 = 1), (some (a0.getD [])))) else some ((decide (a2 = 2), (some (a0.getD []))))).bind fun (o22 : Bool × Tb) => if o22.1 then some (o22.2, ([] : List Sq), 0) else if decide (a2 = 3) then (ref09_with.f ({ a1 with left := r18 }) ((at_ Nd.z (a0.getD []) a3).l) ((at_ Nd.z (a0.getD []) a3).r)).bind fun r28 => some (o22.2, [r28], 0) else if decide (a2 = 4) then (ref09_with.f ({ a1 with left := r18 }) ((at_ Nd.z (a0.getD []) a3).r) ((at_ Nd.z (a0.getD []) a3).r)).bind fun r35 => some (o22.2, [r35], 0) else if decide (a2 = 5) then some (o22.2, [{ a1 with left := r18 }], 0) else if decide (a2 = 6) then chk o22.2.isSome (chk (inb ((at_ Nd.z (a0.getD []) a3).l) (o22.2.getD []).length) ((ref09_imps.f (some (o22.2.getD [])) ((at_ Nd.z (o22.2.getD []) ((at_ Nd.z (a0.getD []) a3).l)).r) ((at_ Nd.z (a0.getD []) a3).r) ((at_ Nd.z (o22.2.getD []) ((at_ Nd.z (a0.getD []) a3).l)).l) (-1)).bind fun r55 => if decide (r55.2.2.2 ≠ 0) then some (r55.1, ([] : List Sq), r55.2.2.2) else (ref09_with.f ({ a1 with left := r18 }) r55.2.2.1 r55.2.2.1).bind fun r59 => some (r55.1, [r59], 0))) else if decide (a2 = 7) then chk o22.2.isSome (chk (inb ((at_ Nd.z (a0.getD []) a3).l) (o22.2.getD []).length) ((ref09_imps.f (some (o22.2.getD [])) ((at_ Nd.z (o22.2.getD []) ((at_ Nd.z (a0.getD []) a3).l)).l) ((at_ Nd.z (a0.getD []) a3).r) ((at_ Nd.z (o22.2.getD []) ((at_ Nd.z (a0.getD []) a3).l)).r) ((at_ Nd.z (a0.getD []) a3).r)).bind fun r75 => if decide (r75.2.2.2 ≠ 0) then some (r75.1, ([] : List Sq), r75.2.2.2) else (ref09_with.f ({ a1 with left := r18 }) r75.2.1 r75.2.2.1).bind fun r79 => some (r75.1, [r79], 0))) else if decide (a2 = 8) then (ref09_with.f a1 ((at_ Nd.z (a0.getD []) a3).l) ((at_ Nd.z (a0.getD []) a3).l)).bind fun r86 => (ref09_to.f r86 ((at_ Nd.z (a0.getD []) a3).r)).bind fun r88 => some (o22.2, [r88], 0) else if decide (a2 = 9) then (ref09_to.f a1 ((at_ Nd.z (a0.getD []) a3).l)).bind fun r95 => (ref09_to.f a1 ((at_ Nd.z (a0.getD []) a3).r)).bind fun r97 => some (o22.2, [r95, r97], 0) else if decide (a2 = 10) then (ref09_with.f ({ a1 with left := r18 }) ((at_ Nd.z (a0.getD []) a3).l) ((at_ Nd.z (a0.getD []) a3).l)).bind fun r104 => (ref09_with.f ({ a1 with left := r18 }) ((at_ Nd.z (a0.getD []) a3).r) ((at_ Nd.z (a0.getD []) a3).r)).bind fun r106 => some (o22.2, [r104, r106], 0) else if decide (a2 = 11) then (ref09_to.f a1 ((at_ Nd.z (a0.getD []) a3).l)).bind fun r113 => some (o22.2, [r113], 0) else if decide (a2 = 12) then (ref09_to.f a1 ((at_ Nd.z (a0.getD []) a3).r)).bind fun r120 => some (o22.2, [r120], 0) else chk o22.2.isSome (chk (inb ((at_ Nd.z (a0.getD []) a3).l) (o22.2.getD []).length) ((ref03_T_Imp.f (some (o22.2.getD [])) ((at_ Nd.z (o22.2.getD []) ((at_ Nd.z (a0.getD []) a3).l)).r) ((at_ Nd.z (a0.getD []) a3).r)).bind fun r135 => if decide (r135.2.2 ≠ 0) then some (r135.1, ([] : List Sq), r135.2.2) else (ref09_with.f ({ a1 with left := r18 }) r135.2.1 r135.2.1).bind fun r139 => (ref09_to.f r139 ((at_ Nd.z (a0.getD []) a3).l)).bind fun r140 => (ref09_with.f ({ a1 with left := r18 }) ((at_ Nd.z (a0.getD []) a3).r) ((at_ Nd.z (a0.getD []) a3).r)).bind fun r142 => some (r135.1, [r140, r142], 0)))))
end Go.Proofs.YtjjkhjieegmphaaDoor
end
section
namespace Go.Proofs.YtjjkhjieegmphaaDoor
open Gw
def ref11_run_find.b0 (a0 : PRRun) (a1 : Sq) (x3_0 : Int) : Option (Stp Int (PRRun × Int)) :=
 if decide (x3_0 < (a0.steps.length : Int)) then chk (inb x3_0 a0.steps.length) (if decide ((at_ PStep.z a0.steps x3_0).seq = a1) then some (.ret (a0, x3_0)) else some (.go (IntKind.i64.wrap (x3_0 + 1)))) else some (.brk x3_0)
def ref11_run_find.f (k : Nat) (a0 : PRRun) (a1 : Sq) : Option (PRRun × Int) :=
 (iter (fun s => ref11_run_find.b0 a0 a1 s) k 0).bind (aft fun (s3 : Int) => some (a0, (-1)))
def ref11_run_end.f (a0 : PRRun) (a1 : Sq) (a2 : Bool) (a3 : Int) (a4 : Int) (a5 : List Int) : Option (PRRun × Int × Int) :=
 chk (decide ((a0.steps.length + 1) * 184 ≤ 140737488355328)) (some ((⟨a0.t, a0.steps ++ [(⟨a1, a2, a3, a4, a5⟩ : PStep)], a0.visits, a0.budget⟩ : PRRun), IntKind.i64.wrap (((a0.steps ++ [(⟨a1, a2, a3, a4, a5⟩ : PStep)]).length : Int) - 1), 0))
def ref11_run_choose.b0 (r10 : List Int × List Int) (a1 : Sq) (rec_ref11_run_decide : PRRun → Sq → Option (PRRun × Int × Int)) (i17 : Int) (x17_0 : List Int) (x17_1 : PRRun) : Option (Stp (List Int × PRRun) (PRRun × Int × Int)) :=
 chk (inb i17 r10.2.length) ((ref09_Premises.f x17_1.t a1 (at_ (0 : Int) r10.1 i17) (at_ (0 : Int) r10.2 i17)).bind fun r33 => if decide (r33.2.2 ≠ 0) then some (.ret ((⟨r33.1, x17_1.steps, x17_1.visits, x17_1.budget⟩ : PRRun), 0, r33.2.2)) else chk (inb 0 r33.2.1.length) ((rec_ref11_run_decide (⟨r33.1, x17_1.steps, x17_1.visits, x17_1.budget⟩ : PRRun) (at_ Sq.z r33.2.1 0)).bind fun r41 => if decide (r41.2.2 ≠ 0) then some (.ret (r41.1, 0, r41.2.2)) else chk (inb r41.2.1 r41.1.steps.length) (if !((at_ PStep.z r41.1.steps r41.2.1).proved) then chk (decide ((x17_0.length + ([r41.2.1]).length) * 8 ≤ 140737488355328)) (some (.go (x17_0 ++ [r41.2.1], r41.1))) else if decide ((r33.2.1.length : Int) = 1) then chk (inb i17 r10.2.length) ((ref11_run_end.f r41.1 a1 true (at_ (0 : Int) r10.1 i17) (at_ (0 : Int) r10.2 i17) ([r41.2.1])).bind fun r66 => some (.ret (r66.1, r66.2.1, r66.2.2))) else chk (inb 1 r33.2.1.length) ((rec_ref11_run_decide r41.1 (at_ Sq.z r33.2.1 1)).bind fun r72 => if decide (r72.2.2 ≠ 0) then some (.ret (r72.1, 0, r72.2.2)) else chk (inb r72.2.1 r72.1.steps.length) (if (at_ PStep.z r72.1.steps r72.2.1).proved then chk (inb i17 r10.2.length) ((ref11_run_end.f r72.1 a1 true (at_ (0 : Int) r10.1 i17) (at_ (0 : Int) r10.2 i17) ([r41.2.1, r72.2.1])).bind fun r90 => some (.ret (r90.1, r90.2.1, r90.2.2))) else chk (inb i17 r10.2.length) ((ref11_run_end.f r72.1 a1 false (at_ (0 : Int) r10.1 i17) (at_ (0 : Int) r10.2 i17) ([r72.2.1])).bind fun r104 => some (.ret (r104.1, r104.2.1, r104.2.2))))))))
def ref11_run_choose.g (rec_ref11_run_decide : PRRun → Sq → Option (PRRun × Int × Int)) (a0 : PRRun) (a1 : Sq) : Option (PRRun × Int × Int) :=
 (ref09_Choices.f a0.t a1).bind fun r10 => (forN (fun i s => ref11_run_choose.b0 r10 a1 rec_ref11_run_decide i s.1 s.2) ((r10.1.length : Int) - 0).toNat 0 (([] : List Int), a0)).bind (aft fun (s17 : List Int × PRRun) => (ref11_run_end.f s17.2 a1 false 14 0 s17.1).bind fun r111 => some (r111.1, r111.2.1, r111.2.2))
def ref11_run_decide.b0 (rec_ref11_run_decide : PRRun → Sq → Option (PRRun × Int × Int)) (r32 : Tb × List Sq × Int) (a1 : Sq) (r19 : Int × Int) (i39 : Int) (x39_0 : List Int) (x39_1 : PRRun) : Option (Stp (List Int × PRRun) (PRRun × Int × Int)) :=
 (rec_ref11_run_decide x39_1 (at_ Sq.z r32.2.1 i39)).bind fun r45 => if decide (r45.2.2 ≠ 0) then some (.ret (r45.1, 0, r45.2.2)) else chk (inb r45.2.1 r45.1.steps.length) (if !((at_ PStep.z r45.1.steps r45.2.1).proved) then (ref11_run_end.f r45.1 a1 false r19.1 r19.2 ([r45.2.1])).bind fun r57 => some (.ret (r57.1, r57.2.1, r57.2.2)) else chk (decide ((x39_0.length + ([r45.2.1]).length) * 8 ≤ 140737488355328)) (some (.go (x39_0 ++ [r45.2.1], r45.1))))
def ref11_run_decide.g (rec_ref11_run_decide : PRRun → Sq → Option (PRRun × Int × Int)) (k : Nat) (a0 : PRRun) (a1 : Sq) : Option (PRRun × Int × Int) :=
 (ref11_run_find.f k a0 a1).bind fun r3 => if decide (0 ≤ r3.2) then some (r3.1, r3.2, 0) else if decide (r3.1.budget ≤ r3.1.visits) then some (r3.1, 0, 110) else (ref09_Apply.f r3.1.t a1).bind fun r19 => if decide (r19.1 = 14) then (ref11_run_choose.g rec_ref11_run_decide (⟨r3.1.t, r3.1.steps, IntKind.i64.wrap (r3.1.visits + 1), r3.1.budget⟩ : PRRun) a1).bind fun r22 => some (r22.1, r22.2.1, r22.2.2) else (ref09_Premises.f r3.1.t a1 r19.1 r19.2).bind fun r32 => if decide (r32.2.2 ≠ 0) then some ((⟨r32.1, r3.1.steps, IntKind.i64.wrap (r3.1.visits + 1), r3.1.budget⟩ : PRRun), 0, r32.2.2) else (forN (fun i s => ref11_run_decide.b0 rec_ref11_run_decide r32 a1 r19 i s.1 s.2) ((r32.2.1.length : Int) - 0).toNat 0 (([] : List Int), (⟨r32.1, r3.1.steps, IntKind.i64.wrap (r3.1.visits + 1), r3.1.budget⟩ : PRRun))).bind (aft fun (s39 : List Int × PRRun) => (ref11_run_end.f s39.2 a1 true r19.1 r19.2 s39.1).bind fun r68 => some (r68.1, r68.2.1, r68.2.2))
def ref11_run_decide.f : Nat → PRRun → Sq → Option (PRRun × Int × Int)
 | 0 => fun _ _ => none
 | k + 1 => ref11_run_decide.g (ref11_run_decide.f k) k
def ref11_Run.f (k : Nat) (a0 : Tb) (a1 : Sq) (a2 : Int) : Option (Tb × PFound × Int) :=
 (ref09_Right.f a0 a1).bind fun r5 => if !r5 then some (a0, (⟨false, ([] : List PStep), 0⟩ : PFound), 31) else if (decide (a2 < 1)) || (decide (4096 < a2)) then some (a0, (⟨false, ([] : List PStep), 0⟩ : PFound), 2) else chk a0.isSome ((ref11_run_decide.f k (⟨(some (a0.getD [])), ([] : List PStep), 0, a2⟩ : PRRun) a1).bind fun r18 => if decide (r18.2.2 ≠ 0) then (ref03_T_Cut.f r18.1.t ((a0.getD []).length : Int)).bind fun r25 => some (r25.1, (⟨false, ([] : List PStep), 0⟩ : PFound), r18.2.2) else chk (inb r18.2.1 r18.1.steps.length) (some (r18.1.t, (⟨(at_ PStep.z r18.1.steps r18.2.1).proved, r18.1.steps, r18.1.visits⟩ : PFound), 0)))
def ref11_Steps.b0 (a1 : List PStep) (a0 : List PStep) (i2 : Int) : Option (Stp Unit Bool) :=
 chk (inb i2 a1.length) ((if (!((((!decide ((at_ PStep.z a0 i2).seq = (at_ PStep.z a1 i2).seq)) || (!(((at_ PStep.z a0 i2).proved) == ((at_ PStep.z a1 i2).proved)))) || (decide ((at_ PStep.z a0 i2).rule ≠ (at_ PStep.z a1 i2).rule))) || (decide ((at_ PStep.z a0 i2).main ≠ (at_ PStep.z a1 i2).main)))) then ref03_Ints.f ((at_ PStep.z a0 i2).kids) ((at_ PStep.z a1 i2).kids) else some false).bind fun r16 => if ((((!decide ((at_ PStep.z a0 i2).seq = (at_ PStep.z a1 i2).seq)) || (!(((at_ PStep.z a0 i2).proved) == ((at_ PStep.z a1 i2).proved)))) || (decide ((at_ PStep.z a0 i2).rule ≠ (at_ PStep.z a1 i2).rule))) || (decide ((at_ PStep.z a0 i2).main ≠ (at_ PStep.z a1 i2).main))) || (!r16) then some (.ret false) else some (.go ()))
def ref11_Steps.f (a0 : List PStep) (a1 : List PStep) : Option Bool :=
 if decide ((a0.length : Int) ≠ (a1.length : Int)) then some false else (forN (fun i s => ref11_Steps.b0 a1 a0 i) ((a0.length : Int) - 0).toNat 0 ()).bind (aft fun (s2 : Unit) => some true)
def ref11_Same.f (a0 : PFound) (a1 : PFound) : Option Bool :=
 (if ((a0.proved == a1.proved) && (decide (a0.visits = a1.visits))) then ref11_Steps.f a0.steps a1.steps else some false).bind fun r5 => some (((a0.proved == a1.proved) && (decide (a0.visits = a1.visits))) && r5)
end Go.Proofs.YtjjkhjieegmphaaDoor
end
section
namespace Go.Proofs.YtjjkhjieegmphaaDoor
open Go.RowKit
namespace Gw
theorem set_flatE {α : Type} {C : α → List Value} {a : α} {v : Value} {k o : Nat} (ho : o < k) : ∀ (l : List α) (j : Nat), (∀ b ∈ l, (C b).length = k) → j < l.length → (∀ b, l[j]? = some b → (C b).set o v = C a) → ((l.set j a).map C).flatten = ((l.map C).flatten).set (j * k + o) v
 | [], _, _, hj, _ => by simp at hj
 | b :: l, 0, hb, hj, hv => by
  have h := hb b (by simp)
  have h2 := hv b (by simp)
  simp only [List.set_cons_zero, List.map_cons, List.flatten_cons, Nat.zero_mul, Nat.zero_add]
  rw [List.set_append_left _ _ (by omega), h2]
 | b :: l, j + 1, hb, hj, hv => by
  have h := hb b (by simp)
  simp only [List.set_cons_succ, List.map_cons, List.flatten_cons]
  have e : (j + 1) * k + o = k + (j * k + o) := by rw [Nat.add_mul]; omega
  rw [List.set_append_right _ _ (by omega), h, e, Nat.add_sub_cancel_left, set_flatE ho l j (fun c hc => hb c (by simp [hc])) (by simpa using hj) (fun b hb => hv b (by simpa using hb))]
section
variable {P : Program} {rd : Option Nat} {n : Nat} {dm : List Nat} {ops : Array Oper} {rest : List Oper} {Q : Post} {f : Fr} {w : World} {ty : TypeId} {pos : String} {af : Array Edge}
theorem wl_storeE {α : Type} {C : α → List Value} {t e k o : Nat} {x y : Operand} {s : SlV} {l : List α} {a : α} {v : Value} {i : Int} (ht : OneT P t) (hx : evF f x = .pointer (some ⟨s.blk, s.off + i.toNat * k + o, none⟩)) (hy : evF f y = v) (hs : Own w 0 e k s (l.map C)) (hi : 0 ≤ i ∧ i < l.length) (ho : o < k) (hv : ∀ b, l[i.toNat]? = some b → (C b).set o v = C a) (h1 : v.oneCell' = true)
  (h : ∀ w', Own w' 0 e k s ((l.set i.toNat a).map C) → Chg s.fp w w' → wl P rd n dm ops rest Q f w') : wl P rd n dm ops (⟨none, .store t x y, ty, pos, af, none⟩ :: rest) Q f w := by
 have hk : ∀ b ∈ l, (C b).length = k := fun b hb => hs.row _ (List.mem_map.2 ⟨b, hb, rfl⟩)
 have hil : i.toNat < l.length := by omega
 have hCa : (C a).length = k := by
  have := hv _ (List.getElem?_eq_getElem hil)
  rw [← this, List.length_set]; exact hk _ (List.getElem_mem hil)
 have hrow : ∀ r ∈ ((l.set i.toNat a).map C), r.length = k := by
  intro r hr
  obtain ⟨b, hb, rfl⟩ := List.mem_map.1 hr
  rcases List.mem_or_eq_of_mem_set hb with hb | rfl
  ·exact hk b hb
  ·exact hCa
 have hset := set_flatE (v := v) ho l i.toNat hk hil hv
 have hll := flat_len hk
 have hlt2 : i.toNat * k + o < l.length * k := by
  have : (i.toNat + 1) * k ≤ l.length * k := Nat.mul_le_mul_right k hil
  rw [Nat.add_mul] at this; omega
 rcases hs.own with ⟨_, hn⟩ | ⟨g, cap, cur, rfl, hlo, hg, hnc, hcs, htk⟩
 ·simp at hn; subst hn; simp at hi; omega
 ·have hcl : l.length * k ≤ cur.toList.length := by
   simp only [List.length_map] at hnc
   have : l.length * k ≤ cap * k := Nat.mul_le_mul_right k hnc
   simp; omega
  have hx' : evF f x = .pointer (some ⟨g, i.toNat * k + o, none⟩) := by rw [hx]; simp [SlV.blk, SlV.off]
  refine wl_store (l := cur.toList) (l' := cur.toList.set (i.toNat * k + o) v) ht hx' hy (by show w.heap[g]? = _; simpa using hg) (by omega) h1 rfl fun w' hb hc _ => ?_
  refine h w' ⟨.inr ⟨g, cap, (cur.toList.set (i.toNat * k + o) v).toArray, by simp, hlo, hb, by simpa using hnc, by simpa using hcs, ?_⟩, hrow⟩ (hc.mono fun j _ hj => ⟨by simp, by rw [hj]; rfl⟩)
  rw [hset, ← htk]
  simp [List.take_set]
end
theorem star_assoc {a b c : OA} {w : World} {F : Nat → Prop} : ((a.star b).star c).holds w F ↔ (a.star (b.star c)).holds w F := by
 constructor
 ·rintro ⟨G, H, ⟨G1, G2, g1, g2, d, e⟩, h, d2, e2⟩
  exact ⟨G1, fun i => G2 i ∨ H i, g1, ⟨G2, H, g2, h, fun i hi => d2 i ((e i).2 (.inr hi)), fun _ => Iff.rfl⟩, fun i hi q => q.elim (d i hi) (d2 i ((e i).2 (.inl hi))), fun i => by rw [e2 i, e i, or_assoc]⟩
 ·rintro ⟨G, H, g, ⟨H1, H2, h1, h2, d, e⟩, d2, e2⟩
  exact ⟨fun i => G i ∨ H1 i, H2, ⟨G, H1, g, h1, fun i hi q => d2 i hi ((e i).2 (.inl q)), fun _ => Iff.rfl⟩, h2, fun i hi q => hi.elim (fun hi => d2 i hi ((e i).2 (.inr q))) (fun hi => d i hi q), fun i => by rw [e2 i, e i, or_assoc]⟩
theorem star_comm {a b : OA} {w : World} {F : Nat → Prop} (h : (a.star b).holds w F) : (b.star a).holds w F := by
 obtain ⟨G, H, g, h, d, e⟩ := h
 exact ⟨H, G, h, g, fun i hi q => d i q hi, fun i => by rw [e i, or_comm]⟩
theorem star_mono {a b c d : OA} {w : World} {F : Nat → Prop} (h1 : ∀ G, a.holds w G → c.holds w G) (h2 : ∀ G, b.holds w G → d.holds w G) (h : (a.star b).holds w F) : (c.star d).holds w F := by
 obtain ⟨G, H, g, h, q, e⟩ := h
 exact ⟨G, H, h1 G g, h2 H h, q, e⟩
theorem star_swap {a b c : OA} {w : World} {F : Nat → Prop} (h : (a.star (b.star c)).holds w F) : (b.star (a.star c)).holds w F :=
 star_assoc.1 (star_mono (fun _ h => star_comm h) (fun _ h => h) (star_assoc.2 h))
theorem star_true {a : OA} {w : World} {F : Nat → Prop} : ((OA.pure True).star a).holds w F ↔ a.holds w F := by
 constructor
 ·rintro ⟨G, H, ⟨_, g⟩, h, d, e⟩
  have : H = F := funext fun i => propext ⟨fun q => (e i).2 (.inr q), fun q => ((e i).1 q).elim (fun q => absurd q (g i)) id⟩
  rw [← this]; exact h
 ·intro h
  exact ⟨fun _ => False, F, ⟨trivial, fun _ x => x⟩, h, fun _ x => x.elim, fun i => ⟨.inr, fun q => q.elim (fun x => x.elim) id⟩⟩
theorem big_split {w : World} {μ α : Type} {R : μ → α → OA} {m : μ} {x : α} : ∀ (i : Nat) {ms : List μ} {l : List α} {F : Nat → Prop}, (big R ms l).holds w F → ms[i]? = some m → l[i]? = some x → ((R m x).star ((big R (ms.take i) (l.take i)).star (big R (ms.drop (i + 1)) (l.drop (i + 1))))).holds w F
 | 0, m' :: ms, x' :: l, F, h, hm, hx => by
  simp at hm hx; subst hm hx
  exact star_mono (fun _ h => h) (fun _ h => star_true.2 h) h
 | i + 1, m' :: ms, x' :: l, F, h, hm, hx => by
  have h1 := star_mono (c := R m' x') (fun _ h => h) (fun _ h => big_split i h (by simpa using hm) (by simpa using hx)) h
  exact star_mono (fun _ h => h) (fun _ h => star_assoc.2 h) (star_swap h1)
 | _, [], [], _, _, h, _ => by simp at h
 | _, [], _ :: _, _, h, _, _ => h.1.elim
 | _, _ :: _, [], _, h, _, _ => h.1.elim
theorem big_unsplit {w : World} {μ α : Type} {R : μ → α → OA} {m : μ} {x : α} : ∀ (i : Nat) {ms : List μ} {l : List α} {F : Nat → Prop}, ((R m x).star ((big R (ms.take i) (l.take i)).star (big R (ms.drop (i + 1)) (l.drop (i + 1))))).holds w F → ms[i]? = some m → i < l.length → (big R ms (l.set i x)).holds w F
 | 0, m' :: ms, x' :: l, F, h, hm, hx => by
  simp at hm; subst hm
  exact star_mono (fun _ h => h) (fun _ h => star_true.1 h) h
 | i + 1, m' :: ms, x' :: l, F, h, hm, hx => by
  have h1 : ((R m' x').star ((R m x).star ((big R (ms.take i) (l.take i)).star (big R (ms.drop (i + 1)) (l.drop (i + 1)))))).holds w F := star_swap (star_mono (fun _ h => h) (fun _ h => star_assoc.1 h) h)
  exact star_mono (fun _ h => h) (fun _ h => big_unsplit i h (by simpa using hm) (by simpa using hx)) h1
 | _, [], _, _, _, h, _ => by simp at h
 | _, _ :: _, [], _, _, _, h => by simp at h
end Gw
open Gw
def setMain (l : List PStep) (i : Int) (v : Int) : List PStep := l.set i.toNat { at_ PStep.z l i with main := v }
def setKids (l : List PStep) (i : Int) (v : List Int) : List PStep := l.set i.toNat { at_ PStep.z l i with kids := v }
theorem at_get {l : List PStep} {i : Int} (hi : 0 ≤ i ∧ i < l.length) : l[i.toNat]? = some (at_ PStep.z l i) := at_some _ hi
def oHole (s : SlV) (l : List PStep) (i : Int) (n : SlV) : OA := OA.ex fun ms => (OA.pure (ms[i.toNat]? = some ⟨(at_ PStep.z l i).seq, (at_ PStep.z l i).proved, (at_ PStep.z l i).rule, (at_ PStep.z l i).main, n⟩)).star ((oS T_Step 21 Step.C s ms).star ((big rStep (ms.take i.toNat) (l.take i.toNat)).star (big rStep (ms.drop (i.toNat + 1)) (l.drop (i.toNat + 1)))))
section
variable {A : Nat → Prop} {N : Oth} {w0 w w' : World} {L Z : List OA} {s : SlV} {l : List PStep} {i : Int}
theorem Gw.St.holeStep (h : St A N w0 w L Z) (k : Nat) (hi : 0 ≤ i ∧ i < l.length) {L' : List OA} (e : L[k]? = some (oDStep s l) := by rfl) (e' : L.eraseIdx k = L' := by rfl) :
  ∃ n : SlV, Cells w s.blk (s.off + i.toNat * 21) (Step.C ⟨(at_ PStep.z l i).seq, (at_ PStep.z l i).proved, (at_ PStep.z l i).rule, (at_ PStep.z l i).main, n⟩) ∧ St A N w0 w (oS T_int 1 IC n (at_ PStep.z l i).kids :: oHole s l i n :: L') Z := by
 subst e'
 obtain ⟨ms, S⟩ := h.openD k (q := e)
 have hlen : ms.length = l.length := (S.own 1 rfl).elim fun _ hb => big_len hb
 have h1 : i.toNat < ms.length := by omega
 have hx := at_get hi
 have hm := List.getElem?_eq_getElem h1
 have heq : ms[i.toNat].seq = (at_ PStep.z l i).seq ∧ ms[i.toNat].proved = (at_ PStep.z l i).proved ∧ ms[i.toNat].rule = (at_ PStep.z l i).rule ∧ ms[i.toNat].main = (at_ PStep.z l i).main := by
  obtain ⟨F, hF⟩ := S.own 1 rfl
  obtain ⟨G, hG, _⟩ := big_at hF hm hx
  exact rStep.eqs ⟨G, hG⟩
 have hms : ms[i.toNat]? = some ⟨(at_ PStep.z l i).seq, (at_ PStep.z l i).proved, (at_ PStep.z l i).rule, (at_ PStep.z l i).main, ms[i.toNat].kids⟩ := by
  rw [hm, ← heq.1, ← heq.2.1, ← heq.2.2.1, ← heq.2.2.2]
 have hc := (S.rdO 0).at hm
 rw [hm] at hms
 have hms' := Option.some.inj hms
 refine ⟨ms[i.toNat].kids, by rw [← hms']; exact hc, ?_⟩
 have S2 := S.turn 1 (b := (rStep ms[i.toNat] (at_ PStep.z l i)).star ((big rStep (ms.take i.toNat) (l.take i.toNat)).star (big rStep (ms.drop (i.toNat + 1)) (l.drop (i.toNat + 1))))) (fun F hF => big_split i.toNat hF hm hx)
 have S3 := S2.unstar 0
 have S4 : St A N w0 w ((OA.pure (ms[i.toNat].seq = (at_ PStep.z l i).seq ∧ ms[i.toNat].proved = (at_ PStep.z l i).proved ∧ ms[i.toNat].rule = (at_ PStep.z l i).rule ∧ ms[i.toNat].main = (at_ PStep.z l i).main)) :: oS T_int 1 IC ms[i.toNat].kids (at_ PStep.z l i).kids :: (big rStep (ms.take i.toNat) (l.take i.toNat)).star (big rStep (ms.drop (i.toNat + 1)) (l.drop (i.toNat + 1))) :: oS T_Step 21 Step.C s ms :: L.eraseIdx k) Z := S3.unstar 0
 have S5 := (S4.drop 0).front 2
 have S6 : St A N w0 w (oS T_int 1 IC ms[i.toNat].kids (at_ PStep.z l i).kids :: oS T_Step 21 Step.C s ms :: (big rStep (ms.take i.toNat) (l.take i.toNat)).star (big rStep (ms.drop (i.toNat + 1)) (l.drop (i.toNat + 1))) :: L.eraseIdx k) Z := S5.front 1
 have S7 : St A N w0 w (oS T_Step 21 Step.C s ms :: (big rStep (ms.take i.toNat) (l.take i.toNat)).star (big rStep (ms.drop (i.toNat + 1)) (l.drop (i.toNat + 1))) :: oS T_int 1 IC ms[i.toNat].kids (at_ PStep.z l i).kids :: L.eraseIdx k) Z := (S6.front 2).front 2
 have hp : ms[i.toNat]? = some ⟨(at_ PStep.z l i).seq, (at_ PStep.z l i).proved, (at_ PStep.z l i).rule, (at_ PStep.z l i).main, ms[i.toNat].kids⟩ := by rw [hm]; exact hms
 have S8 := (S7.star.putp hp).star
 have S9 := St.toex (f := fun ms' => (OA.pure (ms'[i.toNat]? = some ⟨(at_ PStep.z l i).seq, (at_ PStep.z l i).proved, (at_ PStep.z l i).rule, (at_ PStep.z l i).main, ms[i.toNat].kids⟩)).star ((oS T_Step 21 Step.C s ms').star ((big rStep (ms'.take i.toNat) (l.take i.toNat)).star (big rStep (ms'.drop (i.toNat + 1)) (l.drop (i.toNat + 1)))))) ms S8
 exact S9.front 1
theorem Gw.St.shutHole {n : SlV} {ks : List Int} (h : St A N w0 w (oS T_int 1 IC n ks :: oHole s l i n :: L) Z) (hi : 0 ≤ i ∧ i < l.length) : St A N w0 w (oDStep s (setKids l i ks) :: L) Z := by
 obtain ⟨ms, S⟩ := h.unex 1 (f := fun ms' => (OA.pure (ms'[i.toNat]? = some ⟨(at_ PStep.z l i).seq, (at_ PStep.z l i).proved, (at_ PStep.z l i).rule, (at_ PStep.z l i).main, n⟩)).star ((oS T_Step 21 Step.C s ms').star ((big rStep (ms'.take i.toNat) (l.take i.toNat)).star (big rStep (ms'.drop (i.toNat + 1)) (l.drop (i.toNat + 1))))))
 have S1 := S.unstar 0
 have hm := S1.getp 0
 have S2 := (S1.drop 0).unstar 0
 have S3 : St A N w0 w (oS T_int 1 IC n ks :: (big rStep (ms.take i.toNat) (l.take i.toNat)).star (big rStep (ms.drop (i.toNat + 1)) (l.drop (i.toNat + 1))) :: oS T_Step 21 Step.C s ms :: L) Z := (S2.front 1).front 2
 have S4 : St A N w0 w (rStep ⟨(at_ PStep.z l i).seq, (at_ PStep.z l i).proved, (at_ PStep.z l i).rule, (at_ PStep.z l i).main, n⟩ { at_ PStep.z l i with kids := ks } :: (big rStep (ms.take i.toNat) (l.take i.toNat)).star (big rStep (ms.drop (i.toNat + 1)) (l.drop (i.toNat + 1))) :: oS T_Step 21 Step.C s ms :: L) Z := (S3.putp (p := (at_ PStep.z l i).seq = (at_ PStep.z l i).seq ∧ (at_ PStep.z l i).proved = (at_ PStep.z l i).proved ∧ (at_ PStep.z l i).rule = (at_ PStep.z l i).rule ∧ (at_ PStep.z l i).main = (at_ PStep.z l i).main) ⟨rfl, rfl, rfl, rfl⟩).star
 have S5 := S4.star.turn 0 (b := big rStep ms (setKids l i ks)) (fun F hF => big_unsplit i.toNat hF hm (by omega))
 exact (S5.front 1).shutD
theorem setKids_same (hi : 0 ≤ i ∧ i < l.length) : setKids l i (at_ PStep.z l i).kids = l := by
 unfold setKids
 have h := at_get hi
 obtain ⟨h1, h2⟩ := List.getElem?_eq_some_iff.1 h
 have : ({ at_ PStep.z l i with kids := (at_ PStep.z l i).kids } : PStep) = l[i.toNat] := h2.symm
 rw [this, List.set_getElem_self]
theorem Gw.St.shutHole0 {n : SlV} (h : St A N w0 w (oS T_int 1 IC n (at_ PStep.z l i).kids :: oHole s l i n :: L) Z) (hi : 0 ≤ i ∧ i < l.length) : St A N w0 w (oDStep s l :: L) Z := by
 have := h.shutHole hi
 rwa [setKids_same hi] at this
theorem big_set {w : World} {μ α : Type} {R : μ → α → OA} {m m' : μ} {x x' : α} (hR : ∀ G, (R m x).holds w G → (R m' x').holds w G) : ∀ (i : Nat) {ms : List μ} {l : List α} {F : Nat → Prop}, (big R ms l).holds w F → ms[i]? = some m → l[i]? = some x → (big R (ms.set i m') (l.set i x')).holds w F
 | 0, m0 :: ms, x0 :: l, F, h, hm, hx => by
  simp at hm hx; subst hm hx
  exact star_mono hR (fun _ h => h) h
 | i + 1, m0 :: ms, x0 :: l, F, h, hm, hx => star_mono (fun _ h => h) (fun _ h => big_set hR i h (by simpa using hm) (by simpa using hx)) h
 | _, [], [], _, _, h, _ => by simp at h
 | _, [], _ :: _, _, h, _, _ => h.1.elim
 | _, _ :: _, [], _, h, _, _ => h.1.elim
theorem wl_setMain {P : Program} {rd : Option Nat} {n : Nat} {dm : List Nat} {ops : Array Oper} {rest : List Oper} {Q : Post} {f : Fr} {ty : TypeId} {pos : String} {af : Array Edge} {t : TypeId} {x y : Operand} {v : Int} (S : St A N w0 w L Z) (k : Nat) (hi : 0 ≤ i ∧ i < l.length) {L' : List OA} (ht : OneT P t) (hx : evF f x = .pointer (some ⟨s.blk, s.off + i.toNat * 21 + 19, none⟩)) (hy : evF f y = .int .i64 v)
  (h : ∀ w', St A N w0 w' L' Z → wl P rd n dm ops rest Q f w') (e : L[k]? = some (oDStep s l) := by rfl) (e' : oDStep s (setMain l i v) :: L.eraseIdx k = L' := by rfl) : wl P rd n dm ops (⟨none, .store t x y, ty, pos, af, none⟩ :: rest) Q f w := by
 subst e'
 obtain ⟨ms, S1⟩ := S.openD k (q := e)
 have hlen : ms.length = l.length := (S1.own 1 rfl).elim fun _ hb => big_len hb
 have h1 : i.toNat < ms.length := by omega
 have hm := List.getElem?_eq_getElem h1
 have hll := S1.lenO 0
 refine wl_storeE (C := Step.C) (a := { ms[i.toNat] with main := v }) (v := .int .i64 v) ht hx hy (S1.sl 0) ⟨hi.1, by omega⟩ (by decide) (fun b hb => ?_) rfl fun w' O hc => ?_
 ·rw [hm] at hb; cases hb
  exact Step.set_main _ _
 ·have S2 := S1.push 0 O (by rw [List.length_set]; exact hll) hc (fun i hi => .inl hi)
  have S3 := S2.turn 1 (b := big rStep (ms.set i.toNat { ms[i.toNat] with main := v }) (setMain l i v)) (fun F hF => big_set (m := ms[i.toNat]) (x := at_ PStep.z l i) (fun G hG => (by obtain ⟨G1, G2, g1, g2, d, q⟩ := hG; exact ⟨G1, G2, ⟨⟨g1.1.1, g1.1.2.1, g1.1.2.2.1, rfl⟩, g1.2⟩, g2, d, q⟩)) i.toNat hF hm (at_get hi))
  exact h w' (S3.front 1).shutD
end
end Go.Proofs.YtjjkhjieegmphaaDoor
end
section
namespace Go.Proofs.YtjjkhjieegmphaaDoor
open Gw
def law11_SearchRuns.b1 (x32_0 : Int) (x34_0 : Int) (x34_1 : List PStep) : Option (Stp (Int × List PStep) (Stp (Int × List PStep) Bool)) :=
 chk (inb x32_0 x34_1.length) (if decide (x34_0 < (((at_ PStep.z x34_1 x32_0).kids).length : Int)) then chk (inb x32_0 x34_1.length) (chk (inb x34_0 ((at_ PStep.z x34_1 x32_0).kids).length) (some (.go (IntKind.i64.wrap (x34_0 + 1), setKids x34_1 x32_0 (((at_ PStep.z x34_1 x32_0).kids).set (x34_0).toNat (-7)))))) else some (.brk (x34_0, x34_1)))
def law11_SearchRuns.b0 (k : Nat) (x32_0 : Int) (x32_1 : List PStep) : Option (Stp (Int × List PStep) Bool) :=
 if decide (x32_0 < (x32_1.length : Int)) then (iter (fun s => law11_SearchRuns.b1 x32_0 s.1 s.2) k (0, x32_1)).bind (aft fun (s34 : Int × List PStep) => chk (inb x32_0 s34.2.length) (some (.go (IntKind.i64.wrap (x32_0 + 1), setMain s34.2 x32_0 (-7))))) else some (.brk (x32_0, x32_1))
def law11_SearchRuns.f (k : Nat) (a0 : List Nd) (a1 : Sq) (a2 : Int) : Option Bool :=
 (law03_Both.f a0).bind fun r3 => if !r3.2.2 then (law11_heads.f k).bind fun r9 => some r9 else (search_Run.f k r3.1 a1 a2).bind fun r12 => (ref11_Run.f k r3.2.1 a1 a2).bind fun r19 => (ref11_Same.f r12.2.1 r19.2.1).bind fun r26 => (if (!((!r26) || (decide (r12.2.2 ≠ r19.2.2)))) then law03_Like.f r12.1 r19.1 else some false).bind fun r29 => if ((!r26) || (decide (r12.2.2 ≠ r19.2.2))) || (!r29) then some false else (iter (fun s => law11_SearchRuns.b0 k s.1 s.2) k (0, r12.2.1.steps)).bind (aft fun (s32 : Int × List PStep) => (search_Run.f k r12.1 a1 a2).bind fun r50 => (ref11_Run.f k r19.1 a1 a2).bind fun r57 => (ref11_Same.f r50.2.1 r57.2.1).bind fun r64 => (if (r64 && (decide (r50.2.2 = r57.2.2))) then law03_Like.f r50.1 r57.1 else some false).bind fun r67 => (if ((r64 && (decide (r50.2.2 = r57.2.2))) && r67) then law11_heads.f k else some false).bind fun r69 => some (((r64 && (decide (r50.2.2 = r57.2.2))) && r67) && r69))
end Go.Proofs.YtjjkhjieegmphaaDoor
end
section
namespace Go.Proofs.YtjjkhjieegmphaaDoor
open Gw Go.RowKit
theorem rule_node_st {A : Nat → Prop} {N : Oth} {w : World} {a0 : Tb} {a_0 : Option Addr} {a1 : Int} (S : St A N w w [] [oT a_0 a0]) {r : Nd} (H : rule_node.f a0 a1 = some r) :
  Calls PP F_rule_node #[.pointer a_0, .int .i64 a1] w fun e w' => ∃ v, e = .returned v ∧ (v = .agg (Nd.C r).toArray ∧ St A N w w' [] []) := by
 unfold rule_node.f at H
 refine calls_of_wc (n := 14) fn_rule_node rfl rfl (by simp) (wc_seq (wc_region ?_))
 refine wl_alloc ze_Nd (by decide) fun b2 w1 hw1 => ?_
 replace S := S.new hw1
 refine wl_nil (wc_seq (wc_region (wd (does_mv_p rfl) (wd (does_mv_i rfl) ?_))))
 obtain ⟨r3, er3, H⟩ := bind_ex H
 obtain ⟨B5, MB5, SB5, back⟩ := S.calln 0 ((.z 0 rfl .nil))
 refine wl_call (does_call ca_formula_Table_Node) (by decide) (formula_Table_Node_st SB5 er3) ?_
 rintro _ w4 ⟨rfl, S2⟩
 replace S := back _ _ _ _ S2 rfl
 clear back S2 SB5
 refine wd (does_mv_t rfl) (wd (does_extract rfl rfl) (wd (does_extract rfl rfl) ?_))
 refine wl_alloc ze_Nd (by decide) fun b7 w6 hw6 => ?_
 replace S := S.new hw6
 refine wl_store_agg ag_Nd rfl rfl (S.blk 0) (Nd.len _) (by rw [Nd.len]; decide) (Nd.one _) (store_all (Nd.len _)) fun w8 B hw8 zw8 => ?_
 replace S := S.store 0 B hw8
 clear B
 refine wd (does_as_b rfl) (wl_nil (wc_seq (wc_region (wd (does_load_agg ag_Nd rfl ((S.blk 0).all _ (Nd.len _)) (Nd.len _)) ?_))))
 refine wl_store_agg ag_Nd rfl rfl (S.blk 1) (Nd.len _) (by rw [Nd.len]; decide) (Nd.one _) (store_all (Nd.len _)) fun w9 B hw9 zw9 => ?_
 replace S := S.store 1 B hw9
 clear B
 refine wl_nil (wc_ret ?_)
 refine ⟨_, (rets1 (retOne_agg ag_Nd rfl ((S.blk 0).all _ (Nd.len _)) (Nd.len _))), ?_⟩
 replace S := S.arr [] []
 obtain rfl := Option.some.inj H
 exact ⟨rfl, S⟩
theorem rule_on_st {A : Nat → Prop} {N : Oth} {w : World} {a0 : Tb} {a_0 : Option Addr} {a1 : Sq} {a2 : Int} (S : St A N w w [] [oT a_0 a0]) {r : Int} (H : rule_on.f a0 a1 a2 = some r) :
  Calls PP F_rule_on #[.pointer a_0, .agg (Sq.C a1).toArray, .int .i64 a2] w fun e w' => ∃ v, e = .returned v ∧ (v = .int .i64 r ∧ St A N w w' [] []) := by
 unfold rule_on.f at H
 refine calls_of_wc (n := 41) fn_rule_on rfl rfl (by simp) (wc_seq (wc_region ?_))
 refine wl_box_agg rfl (by decide) fun b2 w1 hw1 => ?_
 replace S := S.new hw1
 refine wd (does_as_i rfl) (wl_nil (wc_seq (wc_region (wd (does_mv_p rfl) (wd (does_mv_i rfl) ?_)))))
 obtain ⟨r3, er3, H⟩ := bind_ex H
 obtain ⟨B5, MB5, SB5, back⟩ := S.calln 0 ((.z 0 rfl .nil))
 refine wl_call (does_call ca_rule_node) (by decide) (rule_node_st SB5 er3) ?_
 rintro _ w4 ⟨rfl, S2⟩
 replace S := back _ _ _ _ S2 rfl
 clear back S2 SB5
 refine wl_alloc ze_Nd (by decide) fun b7 w6 hw6 => ?_
 replace S := S.new hw6
 refine wl_store_agg ag_Nd rfl rfl (S.blk 0) (Nd.len _) (by rw [Nd.len]; decide) (Nd.one _) (store_all (Nd.len _)) fun w8 B hw8 zw8 => ?_
 replace S := S.store 0 B hw8
 clear B
 refine wl_nil (wc_seq (wc_seq (wc_region (wd (does_fieldAddr fl_Nd_kind rfl (o' := 0) rfl) (wd (does_load on_api_Kind rfl ((S.blk 0).cell (Nd.get_kind _))) (wl_nil ?_))))))
 refine wc_block (wc_seq (wc_region (wd (does_eq rfl rfl) (wd (does_as_b rfl) (wl_nil ?_)))))
 refine wc_if rfl (fun hc9 => ?_) (fun hc9 => ?_)
 ·replace H := if_t hc9 H
  refine wc_seq (wc_region (wd (does_as_i rfl) (wl_nil (wc_ret ?_))))
  refine ⟨_, (rets1 (retOne_tmp rfl)), ?_⟩
  replace S := S.arr [] []
  obtain rfl := Option.some.inj H
  exact ⟨rfl, S⟩
 replace H := if_f hc9 H
 refine wc_seq (wc_region (wd (does_eq rfl rfl) (wd (does_as_b rfl) (wl_nil ?_))))
 refine wc_if rfl (fun hc10 => ?_) (fun hc10 => ?_)
 ·replace H := if_t hc10 H
  refine wc_seq (wc_region (wd (does_as_i rfl) (wl_nil (wc_ret ?_))))
  refine ⟨_, (rets1 (retOne_tmp rfl)), ?_⟩
  replace S := S.arr [] []
  obtain rfl := Option.some.inj H
  exact ⟨rfl, S⟩
 replace H := if_f hc10 H
 refine wc_seq (wc_region (wd (does_eq rfl rfl) (wd (does_as_b rfl) (wl_nil ?_))))
 refine wc_if rfl (fun hc11 => ?_) (fun hc11 => ?_)
 ·replace H := if_t hc11 H
  refine wc_seq (wc_region (wd (does_as_i rfl) (wl_nil (wc_ret ?_))))
  refine ⟨_, (rets1 (retOne_tmp rfl)), ?_⟩
  replace S := S.arr [] []
  obtain rfl := Option.some.inj H
  exact ⟨rfl, S⟩
 replace H := if_f hc11 H
 refine wc_seq (wc_region (wd (does_eq rfl rfl) (wd (does_as_b rfl) (wl_nil ?_))))
 refine wc_if rfl (fun hc12 => ?_) (fun hc12 => ?_)
 ·replace H := if_t hc12 H
  refine wc_seq (wc_region (wd (does_mv_p rfl) (wd (does_fieldAddr fl_Nd_l rfl (o' := 2) rfl) (wd (does_load on_int rfl ((S.blk 0).cell (Nd.get_l _))) ?_))))
  obtain ⟨r13, er13, H⟩ := bind_ex H
  obtain ⟨B15, MB15, SB15, back⟩ := S.calln 0 ((.z 0 rfl .nil))
  refine wl_call (does_call ca_rule_node) (by decide) (rule_node_st SB15 er13) ?_
  rintro _ w14 ⟨rfl, S2⟩
  replace S := back _ _ _ _ S2 rfl
  clear back S2 SB15
  refine wd (does_field fv_Nd_kind on_api_Kind rfl (Nd.get_kind _)) (wl_nil ?_)
  refine wc_block (wc_seq (wc_region (wd (does_eq rfl rfl) (wd (does_as_b rfl) (wl_nil ?_)))))
  refine wc_if rfl (fun hc16 => ?_) (fun hc16 => ?_)
  ·replace H := if_t hc16 H
   refine wc_seq (wc_region (wd (does_fieldAddr fl_Sq_left rfl (o' := 0) rfl) (wd (does_load_agg ag_Bits rfl ((S.blk 1).cells (Sq.sub_left _)) (Bits.len _)) (wd (does_fieldAddr fl_Nd_l rfl (o' := 2) rfl) (wd (does_load on_int rfl ((S.blk 0).cell (Nd.get_l _))) ?_)))))
   obtain ⟨r17, er17, H⟩ := bind_ex H
   obtain ⟨B19, MB19, SB19, back⟩ := S.calln 0 ((.nil))
   refine wl_call (does_call ca_bits_Has) (by decide) (bits_Has_st SB19 er17) ?_
   rintro _ w18 ⟨rfl, S2⟩
   replace S := back _ _ _ _ S2 rfl
   clear back S2 SB19
   refine wl_nil ?_
   refine wc_if rfl (fun hc20 => ?_) (fun hc20 => ?_)
   ·replace H := if_t hc20 H
    refine wc_seq (wc_region (wd (does_as_i rfl) (wl_nil (wc_ret ?_))))
    refine ⟨_, (rets1 (retOne_tmp rfl)), ?_⟩
    replace S := S.arr [] []
    obtain rfl := Option.some.inj H
    exact ⟨rfl, S⟩
   replace H := if_f hc20 H
   refine wc_skip (wc_seq (wc_region (wd (does_as_i rfl) (wl_nil (wc_ret ?_)))))
   refine ⟨_, (rets1 (retOne_tmp rfl)), ?_⟩
   replace S := S.arr [] []
   obtain rfl := Option.some.inj H
   exact ⟨rfl, S⟩
  ·replace H := if_f hc16 H
   refine wc_seq (wc_region (wd (does_eq rfl rfl) (wd (does_as_b rfl) (wl_nil ?_))))
   refine wc_if rfl (fun hc21 => ?_) (fun hc21 => ?_)
   ·replace H := if_t hc21 H
    refine wc_seq (wc_region (wd (does_as_i rfl) (wl_nil (wc_ret ?_))))
    refine ⟨_, (rets1 (retOne_tmp rfl)), ?_⟩
    replace S := S.arr [] []
    obtain rfl := Option.some.inj H
    exact ⟨rfl, S⟩
   replace H := if_f hc21 H
   refine wc_seq (wc_region (wd (does_eq rfl rfl) (wd (does_as_b rfl) (wl_nil ?_))))
   refine wc_if rfl (fun hc22 => ?_) (fun hc22 => ?_)
   ·replace H := if_t hc22 H
    refine wc_seq (wc_region (wd (does_as_i rfl) (wl_nil (wc_ret ?_))))
    refine ⟨_, (rets1 (retOne_tmp rfl)), ?_⟩
    replace S := S.arr [] []
    obtain rfl := Option.some.inj H
    exact ⟨rfl, S⟩
   replace H := if_f hc22 H
   refine wc_seq (wc_region (wd (does_eq rfl rfl) (wd (does_as_b rfl) (wl_nil ?_))))
   refine wc_if rfl (fun hc23 => ?_) (fun hc23 => ?_)
   ·replace H := if_t hc23 H
    refine wc_seq (wc_region (wd (does_as_i rfl) (wl_nil (wc_ret ?_))))
    refine ⟨_, (rets1 (retOne_tmp rfl)), ?_⟩
    replace S := S.arr [] []
    obtain rfl := Option.some.inj H
    exact ⟨rfl, S⟩
   replace H := if_f hc23 H
   refine wc_seq (wc_region (wd (does_eq rfl rfl) (wd (does_as_b rfl) (wl_nil ?_))))
   refine wc_if rfl (fun hc24 => ?_) (fun hc24 => ?_)
   ·replace H := if_t hc24 H
    refine wc_seq (wc_region (wd (does_as_i rfl) (wl_nil (wc_ret ?_))))
    refine ⟨_, (rets1 (retOne_tmp rfl)), ?_⟩
    replace S := S.arr [] []
    obtain rfl := Option.some.inj H
    exact ⟨rfl, S⟩
   replace H := if_f hc24 H
   refine wc_skip (wc_seq (wc_region (wd (does_as_i rfl) (wl_nil (wc_ret ?_)))))
   refine ⟨_, (rets1 (retOne_tmp rfl)), ?_⟩
   replace S := S.arr [] []
   obtain rfl := Option.some.inj H
   exact ⟨rfl, S⟩
 ·replace H := if_f hc12 H
  refine wc_skip (wc_seq (wc_region (wd (does_as_i rfl) (wl_nil (wc_ret ?_)))))
  refine ⟨_, (rets1 (retOne_tmp rfl)), ?_⟩
  replace S := S.arr [] []
  obtain rfl := Option.some.inj H
  exact ⟨rfl, S⟩
theorem rule_fits_st {A : Nat → Prop} {N : Oth} {w : World} {a0 : Tb} {a_0 : Option Addr} {a1 : Sq} {a2 : Int} {a3 : Int} (S : St A N w w [] [oT a_0 a0]) {r : Bool} (H : rule_fits.f a0 a1 a2 a3 = some r) :
  Calls PP F_rule_fits #[.pointer a_0, .agg (Sq.C a1).toArray, .int .i64 a2, .int .i64 a3] w fun e w' => ∃ v, e = .returned v ∧ (v = .bool r ∧ St A N w w' [] []) := by
 unfold rule_fits.f at H
 refine calls_of_wc (n := 74) fn_rule_fits rfl rfl (by simp) (wc_seq (wc_region ?_))
 refine wl_box_agg rfl (by decide) fun b2 w1 hw1 => ?_
 replace S := S.new hw1
 refine wd (does_as_b rfl) (wl_nil (wc_seq (wc_seq (wc_region (wd (does_mv_i rfl) (wd (does_lt rfl rfl) (wd (does_mv_b rfl) (wg (fun hg => does_mv_i rfl) (wg (fun hg => does_mv_p rfl) ?_)))))))))
 obtain ⟨r3, er3, H⟩ := bind_ex H
 refine wl_gcall (j := 2) (pol := false) rfl rfl rfl (by decide) (fun hg => does_callg ca_formula_Table_Len (cons2 (gv_yes hg) rfl)) (by decide) (fun hg => (have ⟨M, SS⟩ := S.lend ((.z 0 rfl .nil)); quiet (formula_Table_Len_st SS (if_t (by simpa using hg) er3)) (fun v w' h => ⟨h.1, _, _, h.2⟩))) fun w4 hw4 => ?_
 replace S := S.ext hw4
 refine wg (fun hg => does_ge (gv_yes hg) (gv_yes hg)) (wd (does_or rfl (fun hp => (gv_yes (and_1 hp)))) (wl_nil ?_))
 refine wc_if rfl (fun hc5 => ?_) (fun hc5 => ?_)
 ·replace H := if_t hc5 H
  refine wc_seq (wc_region (wd (does_as_b rfl) (wl_nil (wc_ret ?_))))
  refine ⟨_, (rets1 (retOne_tmp rfl)), ?_⟩
  replace S := S.arr [] []
  obtain rfl := Option.some.inj H
  exact ⟨rfl, S⟩
 replace H := if_f hc5 H
 refine wc_skip (wc_seq ?_)
 refine wc_quiet 8 (Ext w4) hmix (by kernel_rfl) (by kernel_rfl) (Ext.drawn _) (wq_does (fun v K => does_mv_i rfl) (wq_does (fun v K => does_fieldAddr fl_Sq_goal rfl (o' := 16) rfl) (wq_does (fun v K => does_load on_int rfl (((S.ext K).blk 0).cell (Sq.get_goal _))) (wq_does (fun v K => does_eq rfl rfl) (wq_does (fun v K => does_fieldAddr fl_Sq_left rfl (o' := 0) rfl) (wq_does (fun v K => does_load_agg ag_Bits rfl (((S.ext K).blk 0).cells (Sq.sub_left _)) (Bits.len _)) (wq_does (fun v K => does_mv_i rfl) ?_)))))))
 obtain ⟨r6, er6, H⟩ := bind_ex H
 refine wq_call (fun v => does_call ca_bits_Has) (fun v K => (have ⟨M, SS⟩ := (S.ext K).lend ((.nil)); quiet (bits_Has_st SS er6) (fun v w' h => ⟨h.1, _, _, h.2⟩))) (fun v v' K h => K.thenExt h) ?_
 refine wq_nil fun w7 K => ?_
 replace S := S.ext K
 clear K
 refine wd (does_as_b rfl) (wd (does_as_b rfl) (wl_nil (wc_seq (wc_region (wd (does_mv_p rfl) (wd (does_mv_i rfl) ?_))))))
 obtain ⟨r8, er8, H⟩ := bind_ex H
 obtain ⟨B10, MB10, SB10, back⟩ := S.calln 0 ((.z 0 rfl .nil))
 refine wl_call (does_call ca_rule_node) (by decide) (rule_node_st SB10 er8) ?_
 rintro _ w9 ⟨rfl, S2⟩
 replace S := back _ _ _ _ S2 rfl
 clear back S2 SB10
 refine wd (does_field fv_Nd_kind on_api_Kind rfl (Nd.get_kind _)) (wd (does_as_i rfl) (wl_nil (wc_seq (wc_seq (wc_region (wd (does_mv_i rfl) (wl_nil ?_)))))))
 refine wc_block (wc_seq (wc_region (wd (does_eq rfl rfl) (wd (does_as_b rfl) (wl_nil ?_)))))
 refine wc_if rfl (fun hc11 => ?_) (fun hc11 => ?_)
 ·replace H := if_t hc11 H
  refine wc_seq (wc_region (wd (does_mv_b rfl) (wd (does_mv_b rfl) (wg (fun hg => does_mv_b rfl) (wd (does_and rfl (fun hp => (gv_yes (and_1 hp)))) (wd (does_as_b rfl) (wl_nil (wc_ret ?_))))))))
  refine ⟨_, (rets1 (retOne_tmp rfl)), ?_⟩
  replace S := S.arr [] []
  obtain rfl := Option.some.inj H
  exact ⟨rfl, S⟩
 replace H := if_f hc11 H
 refine wc_seq (wc_region (wd (does_eq rfl rfl) (wd (does_as_b rfl) (wl_nil ?_))))
 refine wc_if rfl (fun hc12 => ?_) (fun hc12 => ?_)
 ·replace H := if_t hc12 H
  refine wc_seq (wc_region (wd (does_mv_b rfl) (wd (does_mv_b rfl) (wg (fun hg => does_mv_i rfl) (wg (fun hg => does_eq (gv_yes hg) rfl) (wd (does_and rfl (fun hp => (gv_yes (and_1 hp)))) (wd (does_as_b rfl) (wl_nil (wc_ret ?_)))))))))
  refine ⟨_, (rets1 (retOne_tmp rfl)), ?_⟩
  replace S := S.arr [] []
  obtain rfl := Option.some.inj H
  exact ⟨rfl, S⟩
 replace H := if_f hc12 H
 refine wc_seq (wc_region (wd (does_eq rfl rfl) (wd (does_as_b rfl) (wl_nil ?_))))
 refine wc_if rfl (fun hc13 => ?_) (fun hc13 => ?_)
 ·replace H := if_t hc13 H
  refine wc_seq (wc_region (wd (does_mv_b rfl) (wd (does_mv_b rfl) (wg (fun hg => does_mv_i rfl) (wg (fun hg => does_eq (gv_yes hg) rfl) (wd (does_and rfl (fun hp => (gv_yes (and_1 hp)))) (wd (does_as_b rfl) (wl_nil (wc_ret ?_)))))))))
  refine ⟨_, (rets1 (retOne_tmp rfl)), ?_⟩
  replace S := S.arr [] []
  obtain rfl := Option.some.inj H
  exact ⟨rfl, S⟩
 replace H := if_f hc13 H
 refine wc_seq (wc_seq (wc_region (wd (does_eq rfl rfl) (wd (does_as_b rfl) (wl_nil ?_)))))
 obtain ⟨o14, e14, Ho14⟩ := bind_ex H
 replace H := e14; clear e14
 refine wc_cutq [53, 55] (fun fr W => fr 53 = .bool o14 ∧ St A N w W [oB b2 T_Sq (Sq.C a1)] [oT a_0 a0]) ?_ ?_
 ·refine wc_if rfl (fun hc15 => ?_) (fun hc15 => ?_)
  ·replace H := if_t hc15 H
   refine wc_skip ?_
   obtain rfl := Option.some.inj H
   exact ⟨rfl, (Dif.refl _ _), rfl, S⟩
  ·replace H := if_f hc15 H
   refine wc_region (wd (does_eq rfl rfl) (wd (does_as_b rfl) (wl_nil ?_)))
   obtain rfl := Option.some.inj H
   exact ⟨rfl, (((Dif.refl _ _).upd rfl _).upd rfl _), rfl, S⟩
 rintro g16 u17 ⟨p14_53, S⟩
 have H := Ho14
 refine wc_if p14_53 (fun hc18 => ?_) (fun hc18 => ?_)
 ·replace H := if_t hc18 H
  refine wc_seq (wc_region (wd (does_mv_b rfl) (wd (does_mv_b rfl) (wg (fun hg => does_mv_i rfl) (wg (fun hg => does_eq (gv_yes hg) rfl) (wd (does_and rfl (fun hp => (gv_yes (and_1 hp)))) (wd (does_as_b rfl) (wl_nil (wc_ret ?_)))))))))
  refine ⟨_, (rets1 (retOne_tmp rfl)), ?_⟩
  replace S := S.arr [] []
  obtain rfl := Option.some.inj H
  exact ⟨rfl, S⟩
 replace H := if_f hc18 H
 refine wc_skip (wc_seq (wc_region (wd (does_mv_i rfl) (wd (does_ne rfl rfl) (wd (does_mv_b rfl) (wg (fun hg => does_mv_b rfl) (wd (does_and rfl (fun hp => (gv_yes (and_1 hp)))) (wd (does_mv_b rfl) (wg (fun hg => does_mv_p rfl) (wg (fun hg => does_load_agg ag_Sq rfl ((S.blk 0).all _ (Sq.len _)) (Sq.len _)) (wg (fun hg => does_mv_i rfl) ?_)))))))))))
 obtain ⟨r19, er19, H⟩ := bind_ex H
 refine wl_gcall (j := 5) (pol := true) rfl rfl rfl (by decide) (fun hg => does_callg ca_rule_on (cons2 (gv_yes hg) (cons2 (gv_yes hg) (cons2 (gv_yes hg) rfl)))) (by decide) (fun hg => (have ⟨M, SS⟩ := S.lend ((.z 0 rfl .nil)); quiet (rule_on_st SS (if_t (by simpa using hg) er19)) (fun v w' h => ⟨h.1, _, _, h.2⟩))) fun w20 hw20 => ?_
 replace S := S.ext hw20
 refine wg (fun hg => does_mv_i rfl) (wg (fun hg => does_eq (gv_yes hg) (gv_yes hg)) (wd (does_and rfl (fun hp => (gv_yes (and_1 hp)))) (wd (does_as_b rfl) (wl_nil (wc_ret ?_)))))
 refine ⟨_, (rets1 (retOne_tmp rfl)), ?_⟩
 replace S := S.arr [] []
 obtain rfl := Option.some.inj H
 exact ⟨rfl, S⟩
theorem rule_with_st {A : Nat → Prop} {N : Oth} {w : World} {a0 : Sq} {a1 : List Int} {s_1 : SlV} (S : St A N w w [] [fS 1 IC s_1 a1]) {r : Sq} (H : rule_with.f a0 a1 = some r) :
  Calls PP F_rule_with #[.agg (Sq.C a0).toArray, s_1.v] w fun e w' => ∃ v, e = .returned v ∧ (v = .agg (Sq.C r).toArray ∧ St A N w w' [] []) := by
 unfold rule_with.f at H
 refine calls_of_wc (n := 18) fn_rule_with rfl rfl (by simp) (wc_seq (wc_region ?_))
 refine wl_box_agg rfl (by decide) fun b2 w1 hw1 => ?_
 replace S := S.new hw1
 refine wl_alloc ze_Sq (by decide) fun b4 w3 hw3 => ?_
 replace S := S.new hw3
 refine wl_nil (wc_seq (wc_region (wd (does_mv_l rfl) ?_)))
 obtain ⟨r5, er5, H⟩ := bind_ex H
 obtain ⟨B7, MB7, SB7, back⟩ := S.calln 0 ((.z 0 rfl .nil))
 refine wl_call (does_call ca_bits_Of) (by decide) (bits_Of_st SB7 er5) ?_
 rintro _ w6 ⟨rfl, S2⟩
 replace S := back _ _ _ _ S2 rfl
 clear back S2 SB7
 refine wd (does_mv_t rfl) (wd (does_extract rfl rfl) (wd (does_extract rfl rfl) ?_))
 refine wl_alloc ze_Bits (by decide) fun b9 w8 hw8 => ?_
 replace S := S.new hw8
 refine wl_store_agg ag_Bits rfl rfl (S.blk 0) (Bits.len _) (by rw [Bits.len]; decide) (Bits.one _) (store_all (Bits.len _)) fun w10 B hw10 zw10 => ?_
 replace S := S.store 0 B hw10
 clear B
 refine wd (does_as_i rfl) (wl_nil (wc_seq (wc_region (wd (does_fieldAddr fl_Sq_left rfl (o' := 0) rfl) (wd (does_load_agg ag_Bits rfl ((S.blk 2).cells (Sq.sub_left _)) (Bits.len _)) (wd (does_load_agg ag_Bits rfl ((S.blk 0).all _ (Bits.len _)) (Bits.len _)) ?_))))))
 obtain ⟨r11, er11, H⟩ := bind_ex H
 obtain ⟨B13, MB13, SB13, back⟩ := S.calln 0 ((.nil))
 refine wl_call (does_call ca_bits_Union) (by decide) (bits_Union_st SB13 er11) ?_
 rintro _ w12 ⟨rfl, S2⟩
 replace S := back _ _ _ _ S2 rfl
 clear back S2 SB13
 refine wd (does_fieldAddr fl_Sq_left rfl (o' := 0) rfl) ?_
 refine wl_store_agg ag_Bits rfl rfl (S.blk 2) (Bits.len _) (by rw [Sq.len]; decide) (Bits.one _) (Sq.put_left _ _) fun w14 B hw14 zw14 => ?_
 replace S := S.store 2 B hw14
 clear B
 refine wl_nil (wc_seq (wc_region (wd (does_load_agg ag_Sq rfl ((S.blk 0).all _ (Sq.len _)) (Sq.len _)) ?_)))
 refine wl_store_agg ag_Sq rfl rfl (S.blk 2) (Sq.len _) (by rw [Sq.len]; decide) (Sq.one _) (store_all (Sq.len _)) fun w15 B hw15 zw15 => ?_
 replace S := S.store 2 B hw15
 clear B
 refine wl_nil (wc_ret ?_)
 refine ⟨_, (rets1 (retOne_agg ag_Sq rfl ((S.blk 0).all _ (Sq.len _)) (Sq.len _))), ?_⟩
 replace S := S.arr [] []
 obtain rfl := Option.some.inj H
 exact ⟨rfl, S⟩
theorem rule_to_st {A : Nat → Prop} {N : Oth} {w : World} {a0 : Sq} {a1 : Int} (S : St A N w w [] []) {r : Sq} (H : rule_to.f a0 a1 = some r) :
  Calls PP F_rule_to #[.agg (Sq.C a0).toArray, .int .i64 a1] w fun e w' => ∃ v, e = .returned v ∧ (v = .agg (Sq.C r).toArray ∧ St A N w w' [] []) := by
 unfold rule_to.f at H
 refine calls_of_wc (n := 8) fn_rule_to rfl rfl (by simp) (wc_seq (wc_region ?_))
 refine wl_box_agg rfl (by decide) fun b2 w1 hw1 => ?_
 replace S := S.new hw1
 refine wl_alloc ze_Sq (by decide) fun b4 w3 hw3 => ?_
 replace S := S.new hw3
 refine wl_nil (wc_seq (wc_region (wd (does_mv_i rfl) (wd (does_fieldAddr fl_Sq_goal rfl (o' := 16) rfl) ?_))))
 refine wl_store on_int rfl rfl (S.blk 1) (by rw [Sq.len]; decide) rfl (Sq.set_goal _ _) fun w5 B hw5 zw5 => ?_
 replace S := S.store 1 B hw5
 clear B
 refine wl_nil (wc_seq (wc_region (wd (does_load_agg ag_Sq rfl ((S.blk 0).all _ (Sq.len _)) (Sq.len _)) ?_)))
 refine wl_store_agg ag_Sq rfl rfl (S.blk 1) (Sq.len _) (by rw [Sq.len]; decide) (Sq.one _) (store_all (Sq.len _)) fun w6 B hw6 zw6 => ?_
 replace S := S.store 1 B hw6
 clear B
 refine wl_nil (wc_ret ?_)
 refine ⟨_, (rets1 (retOne_agg ag_Sq rfl ((S.blk 0).all _ (Sq.len _)) (Sq.len _))), ?_⟩
 replace S := S.arr [] []
 obtain rfl := Option.some.inj H
 exact ⟨rfl, S⟩
theorem rule_look_st {A : Nat → Prop} {N : Oth} {w : World} {a0 : Tb} {a_0 : Option Addr} {a1 : Sq} (S : St A N w w [] [oT a_0 a0, oTz]) {r : Int} (H : rule_look.f a0 a1 = some r) :
  Calls PP F_rule_look #[.pointer a_0, .agg (Sq.C a1).toArray] w fun e w' => ∃ v, e = .returned v ∧ (v = .int .i64 r ∧ St A N w w' [] []) := by
 unfold rule_look.f at H
 refine calls_of_wc (n := 34) fn_rule_look rfl rfl (by simp) (wc_seq (wc_region ?_))
 refine wl_box_p rfl (by decide) fun b2 w1 hw1 => ?_
 replace S := S.new hw1
 refine wl_box_agg rfl (by decide) fun b4 w3 hw3 => ?_
 replace S := S.new hw3
 refine wl_alloc ze_api_Errno (by decide) fun b6 w5 hw5 => ?_
 replace S := S.new hw5
 refine wl_nil (wc_seq (wc_seq (wc_region (wd (does_load on_dictum_formula_has rfl ((S.blk 2).cell rfl)) ?_))))
 obtain ⟨r7, er7, H⟩ := bind_ex H
 obtain ⟨B9, MB9, SB9, back⟩ := S.calln 0 ((.z 0 rfl .nil))
 refine wl_call (does_call ca_formula_Table_Not) (by decide) (formula_Table_Not_neg_st SB9 rfl er7) ?_
 rintro _ w8 ⟨rfl, S2⟩
 replace S := back _ _ _ _ S2 rfl
 clear back S2 SB9
 refine wd (does_mv_t rfl) (wd (does_extract rfl rfl) (wd (does_extract rfl rfl) (wd (does_as_i rfl) (wd (does_as_i rfl) (wl_nil (wc_seq (wc_region (wd (does_mv_i rfl) (wd (does_eq rfl rfl) (wl_nil ?_))))))))))
 refine wc_if rfl (fun hc10 => ?_) (fun hc10 => ?_)
 ·replace H := if_t hc10 H
  refine wc_seq (wc_region (wd (does_mv_i rfl) ?_))
  refine wl_store on_api_Errno rfl rfl (S.blk 0) (by simp) rfl rfl fun w11 B hw11 zw11 => ?_
  replace S := S.store 0 B hw11
  clear B
  refine wl_nil (wc_ret ?_)
  refine ⟨_, (rets1 (retOne_one on_api_Errno rfl ((S.blk 0).cell rfl))), ?_⟩
  replace S := S.arr [] []
  obtain rfl := Option.some.inj H
  exact ⟨rfl, S⟩
 replace H := if_f hc10 H
 refine wc_skip (wc_seq (wc_seq (wc_region (wd (does_fieldAddr fl_Sq_left rfl (o' := 0) rfl) (wd (does_load_agg ag_Bits rfl ((S.blk 1).cells (Sq.sub_left _)) (Bits.len _)) ?_)))))
 refine wl_call (does_call ca_bits_All) (by decide) (bits_All_ok _ a1.left) ?_
 rintro _ w12 ⟨c13, rfl, Bc13, hc13, Ec13⟩
 replace S := S.addZ (b := oB c13 T_Bits (Bits.C a1.left)) (G := (· = c13)) Ec13 ⟨Bc13, fun _ => Iff.rfl⟩ (fun i hi => by rw [hi]; exact hc13)
 refine wl_nil ?_
 refine wc_block ?_
 obtain ⟨hok14, H⟩ := chk_ex H
 obtain ⟨o15, e15, Ho15⟩ := bind_ex H
 clear H
 refine wc_rangeSt (xs := Bits.list a1.left) (enc := fun (x : Nat) => Value.int .i64 (x : Int)) (bd := (fun (x : Nat) (s : Int) => rule_look.b0 a0 (x : Int) s)) (L := (fun (s : Int) (c : Unit) => [oB b6 T_api_Errno [.int .i64 s], oB b4 T_Sq (Sq.C a1), oB b2 T_dictum_formula_has [.pointer a_0]])) (Lr := (fun (s : Int) (c : Unit) => [oB b6 T_api_Errno [.int .i64 s], oB b4 T_Sq (Sq.C a1), oB b2 T_dictum_formula_has [.pointer a_0]])) (Z := [oB c13 T_Bits (Bits.C a1.left), oT a_0 a0, oTz]) () false 0 rfl ca_bits_All_1 (bits_All_1_gives (Bits.okB_ok hok14) c13) (by decide) (fun N' s c W h => ⟨h.blkZ 0, h.tz 2⟩) S e15 ?_ ?_ ?_ ?_
 ·rintro i15 x15_0 _ q15 N15 rd u15 H S
  replace S := S
  refine wc_region (wd (does_as_i rfl) (wl_nil ?_))
  refine ⟨rfl, S, fun M15 v15 S => ?_⟩
  replace S := S
  replace H : rule_look.b0 a0 (i15 : Int) x15_0 = some q15 := H
  unfold rule_look.b0 at H
  try dsimp only at H
  refine wc_block (wc_seq (wc_region (wd (does_mv_i rfl) (wd (does_load on_dictum_formula_has rfl ((S.blk 2).cell rfl)) ?_))))
  obtain ⟨r16, er16, H⟩ := bind_ex H
  obtain ⟨B18, MB18, SB18, back⟩ := S.calln 0 ((.z 1 rfl .nil))
  refine wl_call (does_call ca_formula_Table_Len) (by decide) (formula_Table_Len_st SB18 er16) ?_
  rintro _ w17 ⟨rfl, S2⟩
  replace S := back _ _ _ _ S2 rfl
  clear back S2 SB18
  refine wd (does_ge rfl rfl) (wl_nil ?_)
  refine wc_if rfl (fun hc19 => ?_) (fun hc19 => ?_)
  ·replace H := if_t hc19 H
   refine wc_seq (wc_region ?_)
   refine wl_store on_api_Errno rfl rfl (S.blk 0) (by simp) rfl rfl fun w20 B hw20 zw20 => ?_
   replace S := S.store 0 B hw20
   clear B
   refine wl_nil (wc_ret ?_)
   obtain rfl := Option.some.inj H
   exact ⟨_, rfl, (), S⟩
  replace H := if_f hc19 H
  refine wc_skip ?_
  obtain rfl := Option.some.inj H
  exact ⟨_, rfl, (), S⟩
 ·rintro s15 _ B15 w21 rfl S hB15
  replace S := S
  have H := Ho15
  dsimp only [fin] at H
  refine wc_seq (wc_seq ?_)
  refine wc_quiet 8 (Ext w21) hmix (by kernel_rfl) (by kernel_rfl) (Ext.drawn _) (wq_does (fun v K => does_fieldAddr fl_Sq_goal rfl (o' := 16) rfl) (wq_does (fun v K => does_load on_int rfl (((S.ext K).blk 1).cell (Sq.get_goal _))) (wq_does (fun v K => does_lt rfl rfl) (wq_does (fun v K => does_mv_b rfl) (wq_guard (j := 3) (pol := false) rfl rfl rfl (fun hg v K => does_fieldAddr fl_Sq_goal rfl (o' := 16) rfl) (wq_guard (j := 3) (pol := false) rfl rfl rfl (fun hg v K => does_load on_int (gv_yes hg) (((S.ext K).blk 1).cell (Sq.get_goal _))) (wq_guard (j := 3) (pol := false) rfl rfl rfl (fun hg v K => does_load on_dictum_formula_has rfl (((S.ext K).blk 2).cell rfl)) ?_)))))))
  obtain ⟨r22, er22, H⟩ := bind_ex H
  refine wq_gcall (j := 3) (pol := false) rfl rfl rfl (fun hg v => does_callg ca_formula_Table_Len (cons2 (gv_yes hg) rfl)) (fun hg v K => (have ⟨M, SS⟩ := (S.ext K).lend ((.z 1 rfl .nil)); quiet (formula_Table_Len_st SS (if_t (by simpa using hg) er22)) (fun v w' h => ⟨h.1, _, _, h.2⟩))) (fun v v' K h => K.thenExt h) ?_
  refine wq_nil fun w23 K => ?_
  replace S := S.ext K
  clear K
  refine wg (fun hg => does_ge (gv_yes hg) (gv_yes hg)) (wd (does_or rfl (fun hp => (gv_yes (and_1 hp)))) (wl_nil ?_))
  refine wc_if rfl (fun hc24 => ?_) (fun hc24 => ?_)
  ·replace H := if_t hc24 H
   refine wc_seq (wc_region ?_)
   refine wl_store on_api_Errno rfl rfl (S.blk 0) (by simp) rfl rfl fun w25 B hw25 zw25 => ?_
   replace S := S.store 0 B hw25
   clear B
   refine wl_nil (wc_ret ?_)
   refine end1 (.inl rfl) (S.take hB15).1 fun w26 hcw26 => ?_
   replace S := (S.take hB15).2 _ hcw26
   refine ⟨_, (rets1 (retOne_one on_api_Errno rfl ((S.blk 0).cell rfl))), ?_⟩
   replace S := S.arr [] []
   obtain rfl := Option.some.inj H
   exact ⟨rfl, S⟩
  replace H := if_f hc24 H
  refine wc_skip (wc_seq (wc_region ?_))
  refine wl_store on_api_Errno rfl rfl (S.blk 0) (by simp) rfl rfl fun w27 B hw27 zw27 => ?_
  replace S := S.store 0 B hw27
  clear B
  refine wl_nil (wc_ret ?_)
  refine end1 (.inl rfl) (S.take hB15).1 fun w28 hcw28 => ?_
  replace S := (S.take hB15).2 _ hcw28
  refine ⟨_, (rets1 (retOne_one on_api_Errno rfl ((S.blk 0).cell rfl))), ?_⟩
  replace S := S.arr [] []
  obtain rfl := Option.some.inj H
  exact ⟨rfl, S⟩
 ·rintro s15 _ B15 w29 rfl S hB15
  replace S := S
  have H := Ho15
  dsimp only [fin] at H
  refine end1 (.inl rfl) (S.take hB15).1 fun w30 hcw30 => ?_
  replace S := (S.take hB15).2 _ hcw30
  refine ⟨_, (rets1 (retOne_one on_api_Errno rfl ((S.blk 0).cell rfl))), ?_⟩
  replace S := S.arr [] []
  obtain rfl := Option.some.inj H
  exact ⟨rfl, S⟩
 ·intro h; cases h
theorem rule_apply_1_1_st {A : Nat → Prop} {N : Oth} {w : World} {a0 : Int} (S : St A N w w [] []) {r : Bool} (H : rule_apply_1_1.f a0 = some r) :
  Calls PP F_rule_apply_1_1 #[.int .i64 a0] w fun e w' => ∃ v, e = .returned v ∧ (v = .bool r ∧ St A N w w' [] []) := by
 unfold rule_apply_1_1.f at H
 refine calls_of_wc (n := 5) fn_rule_apply_1_1 rfl rfl (by simp) (wc_seq (wc_region (wd (does_as_b rfl) (wl_nil (wc_seq (wc_region (wd (does_mv_i rfl) (wd (does_eq rfl rfl) (wd (does_as_b rfl) (wl_nil (wc_ret ?_)))))))))))
 refine ⟨_, (rets1 (retOne_tmp rfl)), ?_⟩
 obtain rfl := Option.some.inj H
 exact ⟨rfl, S⟩
theorem rule_least__rule_apply_1_1_st {A : Nat → Prop} {N : Oth} {w : World} {a0 : Tb} {a_0 : Option Addr} {a1 : Sq} (S : St A N w w [] [oT a_0 a0, oTz]) {r : Fnd × Bool} (H : rule_least__rule_apply_1_1.f a0 a1 = some r) :
  Calls PP F_rule_least #[.pointer a_0, .agg (Sq.C a1).toArray, .func (.func F_rule_apply_1_1) #[] #[]] w fun e w' => ∃ v, e = .returned v ∧ (v = .tuple #[.agg (Fnd.C r.1).toArray, .bool r.2] ∧ St A N w w' [] []) := by
 unfold rule_least__rule_apply_1_1.f at H
 refine calls_of_wc (n := 25) fn_rule_least rfl rfl (by simp) (wc_seq (wc_region ?_))
 refine wl_box_p rfl (by decide) fun b2 w1 hw1 => ?_
 replace S := S.new hw1
 refine wl_box_agg rfl (by decide) fun b4 w3 hw3 => ?_
 replace S := S.new hw3
 refine wl_box_f rfl (by decide) fun b6 w5 hw5 => ?_
 replace S := S.new hw5
 refine wl_alloc ze_Fnd (by decide) fun b8 w7 hw7 => ?_
 replace S := S.new hw7
 refine wl_alloc ze_bool (by decide) fun b10 w9 hw9 => ?_
 replace S := S.new hw9
 refine wl_nil (wc_seq (wc_seq (wc_region (wd (does_fieldAddr fl_Sq_left rfl (o' := 0) rfl) (wd (does_load_agg ag_Bits rfl ((S.blk 3).cells (Sq.sub_left _)) (Bits.len _)) ?_)))))
 refine wl_call (does_call ca_bits_All) (by decide) (bits_All_ok _ a1.left) ?_
 rintro _ w11 ⟨c12, rfl, Bc12, hc12, Ec12⟩
 replace S := S.addZ (b := oB c12 T_Bits (Bits.C a1.left)) (G := (· = c12)) Ec12 ⟨Bc12, fun _ => Iff.rfl⟩ (fun i hi => by rw [hi]; exact hc12)
 refine wl_nil ?_
 refine wc_block ?_
 obtain ⟨hok13, H⟩ := chk_ex H
 obtain ⟨o14, e14, Ho14⟩ := bind_ex H
 clear H
 refine wc_rangeSt (xs := Bits.list a1.left) (enc := fun (x : Nat) => Value.int .i64 (x : Int)) (bd := (fun (x : Nat) (s : Bool × Fnd) => rule_least__rule_apply_1_1.b0 a0 a1 (x : Int) s.1 s.2)) (L := (fun (s : Bool × Fnd) (c : Unit) => [oB b10 T_bool [.bool s.1], oB b8 T_Fnd (Fnd.C s.2), oB b6 T_func_api_Rule_bool [.func (.func F_rule_apply_1_1) #[] #[]], oB b4 T_Sq (Sq.C a1), oB b2 T_dictum_formula_has [.pointer a_0]])) (Lr := (fun (s : Bool × Fnd) (c : Unit) => [oB b10 T_bool [.bool s.1], oB b8 T_Fnd (Fnd.C s.2), oB b6 T_func_api_Rule_bool [.func (.func F_rule_apply_1_1) #[] #[]], oB b4 T_Sq (Sq.C a1), oB b2 T_dictum_formula_has [.pointer a_0]])) (Z := [oB c12 T_Bits (Bits.C a1.left), oT a_0 a0, oTz]) () false 0 rfl ca_bits_All_1 (bits_All_1_gives (Bits.okB_ok hok13) c12) (by decide) (fun N' s c W h => ⟨h.blkZ 0, h.tz 2⟩) S e14 ?_ ?_ ?_ ?_
 ·rintro i14 ⟨x14_0, x14_1⟩ _ q14 N14 rd u14 H S
  replace S := S
  refine wc_region (wd (does_as_i rfl) (wl_nil ?_))
  refine ⟨rfl, S, fun M14 v14 S => ?_⟩
  replace S := S
  replace H : rule_least__rule_apply_1_1.b0 a0 a1 (i14 : Int) x14_0 x14_1 = some q14 := H
  unfold rule_least__rule_apply_1_1.b0 at H
  try dsimp only at H
  refine wc_block (wc_seq (wc_region (wd (does_load on_dictum_formula_has rfl ((S.blk 4).cell rfl)) (wd (does_load_agg ag_Sq rfl ((S.blk 3).all _ (Sq.len _)) (Sq.len _)) (wd (does_mv_i rfl) ?_)))))
  obtain ⟨r15, er15, H⟩ := bind_ex H
  obtain ⟨B17, MB17, SB17, back⟩ := S.calln 0 ((.z 1 rfl .nil))
  refine wl_call (does_call ca_rule_on) (by decide) (rule_on_st SB17 er15) ?_
  rintro _ w16 ⟨rfl, S2⟩
  replace S := back _ _ _ _ S2 rfl
  clear back S2 SB17
  refine wd (does_as_i rfl) (wl_nil (wc_seq (wc_region (wd (does_load on_func_api_Rule_bool rfl ((S.blk 2).cell rfl)) (wd (does_mv_i rfl) ?_)))))
  obtain ⟨r18, er18, H⟩ := bind_ex H
  obtain ⟨B20, MB20, SB20, back⟩ := S.calln 0 ((.nil))
  refine wl_call (does_callv ca_rule_apply_1_1 rfl) (by decide) (rule_apply_1_1_st SB20 er18) ?_
  rintro _ w19 ⟨rfl, S2⟩
  replace S := back _ _ _ _ S2 rfl
  clear back S2 SB20
  refine wl_nil ?_
  refine wc_if rfl (fun hc21 => ?_) (fun hc21 => ?_)
  ·replace H := if_t hc21 H
   refine wc_seq (wc_region (wd (does_mv_i rfl) (wd (does_mv_i rfl) (wd (does_build bu_Fnd (Bld.one rfl rfl (by rw [Fnd.len]; decide) (Fnd.set_k _ _) (Bld.one rfl rfl (by rw [Fnd.len]; decide) (Fnd.set_main _ _) Bld.nil))) ?_))))
   refine wl_store_agg ag_Fnd rfl rfl (S.blk 1) (Fnd.len _) (by rw [Fnd.len]; decide) (Fnd.one _) (store_all (Fnd.len _)) fun w22 B hw22 zw22 => ?_
   replace S := S.store 1 B hw22
   clear B
   refine wl_store on_bool rfl rfl (S.blk 1) (by simp) rfl rfl fun w23 B hw23 zw23 => ?_
   replace S := S.store 1 B hw23
   clear B
   refine wl_nil (wc_ret ?_)
   obtain rfl := Option.some.inj H
   exact ⟨_, rfl, (), S⟩
  replace H := if_f hc21 H
  refine wc_skip ?_
  obtain rfl := Option.some.inj H
  exact ⟨_, rfl, (), S⟩
 ·rintro s14 _ B14 w24 rfl S hB14
  replace S := S
  have H := Ho14
  dsimp only [fin] at H
  refine wc_seq (wc_region (wd (does_build bu_Fnd Bld.nil) ?_))
  refine wl_store_agg ag_Fnd rfl rfl (S.blk 1) (Fnd.len _) (by rw [Fnd.len]; decide) (Fnd.one _) (store_all (Fnd.len _)) fun w25 B hw25 zw25 => ?_
  replace S := S.store 1 B hw25
  clear B
  refine wl_store on_bool rfl rfl (S.blk 1) (by simp) rfl rfl fun w26 B hw26 zw26 => ?_
  replace S := S.store 1 B hw26
  clear B
  refine wl_nil (wc_ret ?_)
  refine end1 (.inl rfl) (S.take hB14).1 fun w27 hcw27 => ?_
  replace S := (S.take hB14).2 _ hcw27
  refine ⟨_, (rets2 (retOne_agg ag_Fnd rfl ((S.blk 1).all _ (Fnd.len _)) (Fnd.len _)) (retOne_one on_bool rfl ((S.blk 0).cell rfl))), ?_⟩
  replace S := S.arr [] []
  obtain rfl := Option.some.inj H
  exact ⟨rfl, S⟩
 ·rintro s14 _ B14 w28 rfl S hB14
  replace S := S
  have H := Ho14
  dsimp only [fin] at H
  refine end1 (.inl rfl) (S.take hB14).1 fun w29 hcw29 => ?_
  replace S := (S.take hB14).2 _ hcw29
  refine ⟨_, (rets2 (retOne_agg ag_Fnd rfl ((S.blk 1).all _ (Fnd.len _)) (Fnd.len _)) (retOne_one on_bool rfl ((S.blk 0).cell rfl))), ?_⟩
  replace S := S.arr [] []
  obtain rfl := Option.some.inj H
  exact ⟨rfl, S⟩
 ·intro h; cases h
theorem rule_apply_1_st {A : Nat → Prop} {N : Oth} {w : World} {a0 : Tb} {b_0 : Nat} {a_0_1 : Option Addr} {a1 : Sq} {b_1 : Nat} (S : St A N w w [] [oB b_0 T_dictum_formula_has [.pointer a_0_1], oT a_0_1 a0, oB b_1 T_Sq (Sq.C a1), oTz]) {r : Fnd × Bool} (H : rule_apply_1.f a0 a1 = some r) :
  Calls PP F_rule_apply_1 #[.pointer (some ⟨b_0, 0, none⟩), .pointer (some ⟨b_1, 0, none⟩)] w fun e w' => ∃ v, e = .returned v ∧ (v = .tuple #[.agg (Fnd.C r.1).toArray, .bool r.2] ∧ St A N w w' [] []) := by
 unfold rule_apply_1.f at H
 refine calls_of_wc (n := 9) fn_rule_apply_1 rfl rfl (by simp) (wc_seq (wc_region ?_))
 refine wl_alloc ze_Fnd (by decide) fun b2 w1 hw1 => ?_
 replace S := S.new hw1
 refine wd (does_as_b rfl) (wl_nil (wc_seq (wc_region (wd (does_load on_dictum_formula_has rfl ((S.blkZ 0).cell rfl)) (wd (does_load_agg ag_Sq rfl ((S.blkZ 2).all _ (Sq.len _)) (Sq.len _)) ?_)))))
 obtain ⟨r3, er3, H⟩ := bind_ex H
 obtain ⟨B5, MB5, SB5, back⟩ := S.calln 0 ((.z 1 rfl (.z 3 rfl .nil)))
 refine wl_call (does_call ca_rule_least) (by decide) (rule_least__rule_apply_1_1_st SB5 er3) ?_
 rintro _ w4 ⟨rfl, S2⟩
 replace S := back _ _ _ _ S2 rfl
 clear back S2 SB5
 refine wd (does_extract rfl rfl) (wd (does_extract rfl rfl) ?_)
 refine wl_store_agg ag_Fnd rfl rfl (S.blk 0) (Fnd.len _) (by rw [Fnd.len]; decide) (Fnd.one _) (store_all (Fnd.len _)) fun w6 B hw6 zw6 => ?_
 replace S := S.store 0 B hw6
 clear B
 refine wd (does_as_b rfl) (wl_nil (wc_ret ?_))
 refine ⟨_, (rets2 (retOne_agg ag_Fnd rfl ((S.blk 0).all _ (Fnd.len _)) (Fnd.len _)) (retOne_tmp rfl)), ?_⟩
 replace S := S.arr [] []
 obtain rfl := Option.some.inj H
 exact ⟨rfl, S⟩
theorem rule_apply_2_st {A : Nat → Prop} {N : Oth} {w : World} {a0 : Sq} {b_0 : Nat} (S : St A N w w [] [oB b_0 T_Sq (Sq.C a0)]) {r : Fnd × Bool} (H : rule_apply_2.f a0 = some r) :
  Calls PP F_rule_apply_2 #[.pointer (some ⟨b_0, 0, none⟩)] w fun e w' => ∃ v, e = .returned v ∧ (v = .tuple #[.agg (Fnd.C r.1).toArray, .bool r.2] ∧ St A N w w' [] []) := by
 unfold rule_apply_2.f at H
 refine calls_of_wc (n := 11) fn_rule_apply_2 rfl rfl (by simp) (wc_seq (wc_region ?_))
 refine wl_alloc ze_Fnd (by decide) fun b2 w1 hw1 => ?_
 replace S := S.new hw1
 refine wd (does_as_b rfl) (wl_nil (wc_seq ?_))
 refine wc_quiet 8 (Ext w1) hmix (by kernel_rfl) (by kernel_rfl) (Ext.drawn _) (wq_does (fun v K => does_fieldAddr fl_Sq_goal rfl (o' := 16) rfl) (wq_does (fun v K => does_load on_int rfl (((S.ext K).blkZ 0).cell (Sq.get_goal _))) (wq_does (fun v K => does_build bu_Fnd (Bld.one rfl rfl (by rw [Fnd.len]; decide) (Fnd.set_k _ _) (Bld.one rfl rfl (by rw [Fnd.len]; decide) (Fnd.set_main _ _) Bld.nil))) (wq_does (fun v K => does_fieldAddr fl_Sq_left rfl (o' := 0) rfl) (wq_does (fun v K => does_load_agg ag_Bits rfl (((S.ext K).blkZ 0).cells (Sq.sub_left _)) (Bits.len _)) (wq_does (fun v K => does_fieldAddr fl_Sq_goal rfl (o' := 16) rfl) (wq_does (fun v K => does_load on_int rfl (((S.ext K).blkZ 0).cell (Sq.get_goal _))) ?_)))))))
 obtain ⟨r3, er3, H⟩ := bind_ex H
 refine wq_call (fun v => does_call ca_bits_Has) (fun v K => (have ⟨M, SS⟩ := (S.ext K).lend ((.nil)); quiet (bits_Has_st SS er3) (fun v w' h => ⟨h.1, _, _, h.2⟩))) (fun v v' K h => K.thenExt h) ?_
 refine wq_nil fun w4 K => ?_
 replace S := S.ext K
 clear K
 refine wl_store_agg ag_Fnd rfl rfl (S.blk 0) (Fnd.len _) (by rw [Fnd.len]; decide) (Fnd.one _) (store_all (Fnd.len _)) fun w5 B hw5 zw5 => ?_
 replace S := S.store 0 B hw5
 clear B
 refine wd (does_as_b rfl) (wl_nil (wc_ret ?_))
 refine ⟨_, (rets2 (retOne_agg ag_Fnd rfl ((S.blk 0).all _ (Fnd.len _)) (Fnd.len _)) (retOne_tmp rfl)), ?_⟩
 replace S := S.arr [] []
 obtain rfl := Option.some.inj H
 exact ⟨rfl, S⟩
theorem rule_apply_3_1_st {A : Nat → Prop} {N : Oth} {w : World} {a0 : Int} (S : St A N w w [] []) {r : Bool} (H : rule_apply_3_1.f a0 = some r) :
  Calls PP F_rule_apply_3_1 #[.int .i64 a0] w fun e w' => ∃ v, e = .returned v ∧ (v = .bool r ∧ St A N w w' [] []) := by
 unfold rule_apply_3_1.f at H
 refine calls_of_wc (n := 9) fn_rule_apply_3_1 rfl rfl (by simp) (wc_seq (wc_region (wd (does_as_b rfl) (wl_nil (wc_seq (wc_region (wd (does_mv_i rfl) (wd (does_ge rfl rfl) (wd (does_mv_b rfl) (wg (fun hg => does_mv_i rfl) (wg (fun hg => does_le (gv_yes hg) rfl) (wd (does_and rfl (fun hp => (gv_yes (and_1 hp)))) (wd (does_as_b rfl) (wl_nil (wc_ret ?_)))))))))))))))
 refine ⟨_, (rets1 (retOne_tmp rfl)), ?_⟩
 obtain rfl := Option.some.inj H
 exact ⟨rfl, S⟩
theorem rule_least__rule_apply_3_1_st {A : Nat → Prop} {N : Oth} {w : World} {a0 : Tb} {a_0 : Option Addr} {a1 : Sq} (S : St A N w w [] [oT a_0 a0, oTz]) {r : Fnd × Bool} (H : rule_least__rule_apply_3_1.f a0 a1 = some r) :
  Calls PP F_rule_least #[.pointer a_0, .agg (Sq.C a1).toArray, .func (.func F_rule_apply_3_1) #[] #[]] w fun e w' => ∃ v, e = .returned v ∧ (v = .tuple #[.agg (Fnd.C r.1).toArray, .bool r.2] ∧ St A N w w' [] []) := by
 unfold rule_least__rule_apply_3_1.f at H
 refine calls_of_wc (n := 25) fn_rule_least rfl rfl (by simp) (wc_seq (wc_region ?_))
 refine wl_box_p rfl (by decide) fun b2 w1 hw1 => ?_
 replace S := S.new hw1
 refine wl_box_agg rfl (by decide) fun b4 w3 hw3 => ?_
 replace S := S.new hw3
 refine wl_box_f rfl (by decide) fun b6 w5 hw5 => ?_
 replace S := S.new hw5
 refine wl_alloc ze_Fnd (by decide) fun b8 w7 hw7 => ?_
 replace S := S.new hw7
 refine wl_alloc ze_bool (by decide) fun b10 w9 hw9 => ?_
 replace S := S.new hw9
 refine wl_nil (wc_seq (wc_seq (wc_region (wd (does_fieldAddr fl_Sq_left rfl (o' := 0) rfl) (wd (does_load_agg ag_Bits rfl ((S.blk 3).cells (Sq.sub_left _)) (Bits.len _)) ?_)))))
 refine wl_call (does_call ca_bits_All) (by decide) (bits_All_ok _ a1.left) ?_
 rintro _ w11 ⟨c12, rfl, Bc12, hc12, Ec12⟩
 replace S := S.addZ (b := oB c12 T_Bits (Bits.C a1.left)) (G := (· = c12)) Ec12 ⟨Bc12, fun _ => Iff.rfl⟩ (fun i hi => by rw [hi]; exact hc12)
 refine wl_nil ?_
 refine wc_block ?_
 obtain ⟨hok13, H⟩ := chk_ex H
 obtain ⟨o14, e14, Ho14⟩ := bind_ex H
 clear H
 refine wc_rangeSt (xs := Bits.list a1.left) (enc := fun (x : Nat) => Value.int .i64 (x : Int)) (bd := (fun (x : Nat) (s : Bool × Fnd) => rule_least__rule_apply_3_1.b0 a0 a1 (x : Int) s.1 s.2)) (L := (fun (s : Bool × Fnd) (c : Unit) => [oB b10 T_bool [.bool s.1], oB b8 T_Fnd (Fnd.C s.2), oB b6 T_func_api_Rule_bool [.func (.func F_rule_apply_3_1) #[] #[]], oB b4 T_Sq (Sq.C a1), oB b2 T_dictum_formula_has [.pointer a_0]])) (Lr := (fun (s : Bool × Fnd) (c : Unit) => [oB b10 T_bool [.bool s.1], oB b8 T_Fnd (Fnd.C s.2), oB b6 T_func_api_Rule_bool [.func (.func F_rule_apply_3_1) #[] #[]], oB b4 T_Sq (Sq.C a1), oB b2 T_dictum_formula_has [.pointer a_0]])) (Z := [oB c12 T_Bits (Bits.C a1.left), oT a_0 a0, oTz]) () false 0 rfl ca_bits_All_1 (bits_All_1_gives (Bits.okB_ok hok13) c12) (by decide) (fun N' s c W h => ⟨h.blkZ 0, h.tz 2⟩) S e14 ?_ ?_ ?_ ?_
 ·rintro i14 ⟨x14_0, x14_1⟩ _ q14 N14 rd u14 H S
  replace S := S
  refine wc_region (wd (does_as_i rfl) (wl_nil ?_))
  refine ⟨rfl, S, fun M14 v14 S => ?_⟩
  replace S := S
  replace H : rule_least__rule_apply_3_1.b0 a0 a1 (i14 : Int) x14_0 x14_1 = some q14 := H
  unfold rule_least__rule_apply_3_1.b0 at H
  try dsimp only at H
  refine wc_block (wc_seq (wc_region (wd (does_load on_dictum_formula_has rfl ((S.blk 4).cell rfl)) (wd (does_load_agg ag_Sq rfl ((S.blk 3).all _ (Sq.len _)) (Sq.len _)) (wd (does_mv_i rfl) ?_)))))
  obtain ⟨r15, er15, H⟩ := bind_ex H
  obtain ⟨B17, MB17, SB17, back⟩ := S.calln 0 ((.z 1 rfl .nil))
  refine wl_call (does_call ca_rule_on) (by decide) (rule_on_st SB17 er15) ?_
  rintro _ w16 ⟨rfl, S2⟩
  replace S := back _ _ _ _ S2 rfl
  clear back S2 SB17
  refine wd (does_as_i rfl) (wl_nil (wc_seq (wc_region (wd (does_load on_func_api_Rule_bool rfl ((S.blk 2).cell rfl)) (wd (does_mv_i rfl) ?_)))))
  obtain ⟨r18, er18, H⟩ := bind_ex H
  obtain ⟨B20, MB20, SB20, back⟩ := S.calln 0 ((.nil))
  refine wl_call (does_callv ca_rule_apply_3_1 rfl) (by decide) (rule_apply_3_1_st SB20 er18) ?_
  rintro _ w19 ⟨rfl, S2⟩
  replace S := back _ _ _ _ S2 rfl
  clear back S2 SB20
  refine wl_nil ?_
  refine wc_if rfl (fun hc21 => ?_) (fun hc21 => ?_)
  ·replace H := if_t hc21 H
   refine wc_seq (wc_region (wd (does_mv_i rfl) (wd (does_mv_i rfl) (wd (does_build bu_Fnd (Bld.one rfl rfl (by rw [Fnd.len]; decide) (Fnd.set_k _ _) (Bld.one rfl rfl (by rw [Fnd.len]; decide) (Fnd.set_main _ _) Bld.nil))) ?_))))
   refine wl_store_agg ag_Fnd rfl rfl (S.blk 1) (Fnd.len _) (by rw [Fnd.len]; decide) (Fnd.one _) (store_all (Fnd.len _)) fun w22 B hw22 zw22 => ?_
   replace S := S.store 1 B hw22
   clear B
   refine wl_store on_bool rfl rfl (S.blk 1) (by simp) rfl rfl fun w23 B hw23 zw23 => ?_
   replace S := S.store 1 B hw23
   clear B
   refine wl_nil (wc_ret ?_)
   obtain rfl := Option.some.inj H
   exact ⟨_, rfl, (), S⟩
  replace H := if_f hc21 H
  refine wc_skip ?_
  obtain rfl := Option.some.inj H
  exact ⟨_, rfl, (), S⟩
 ·rintro s14 _ B14 w24 rfl S hB14
  replace S := S
  have H := Ho14
  dsimp only [fin] at H
  refine wc_seq (wc_region (wd (does_build bu_Fnd Bld.nil) ?_))
  refine wl_store_agg ag_Fnd rfl rfl (S.blk 1) (Fnd.len _) (by rw [Fnd.len]; decide) (Fnd.one _) (store_all (Fnd.len _)) fun w25 B hw25 zw25 => ?_
  replace S := S.store 1 B hw25
  clear B
  refine wl_store on_bool rfl rfl (S.blk 1) (by simp) rfl rfl fun w26 B hw26 zw26 => ?_
  replace S := S.store 1 B hw26
  clear B
  refine wl_nil (wc_ret ?_)
  refine end1 (.inl rfl) (S.take hB14).1 fun w27 hcw27 => ?_
  replace S := (S.take hB14).2 _ hcw27
  refine ⟨_, (rets2 (retOne_agg ag_Fnd rfl ((S.blk 1).all _ (Fnd.len _)) (Fnd.len _)) (retOne_one on_bool rfl ((S.blk 0).cell rfl))), ?_⟩
  replace S := S.arr [] []
  obtain rfl := Option.some.inj H
  exact ⟨rfl, S⟩
 ·rintro s14 _ B14 w28 rfl S hB14
  replace S := S
  have H := Ho14
  dsimp only [fin] at H
  refine end1 (.inl rfl) (S.take hB14).1 fun w29 hcw29 => ?_
  replace S := (S.take hB14).2 _ hcw29
  refine ⟨_, (rets2 (retOne_agg ag_Fnd rfl ((S.blk 1).all _ (Fnd.len _)) (Fnd.len _)) (retOne_one on_bool rfl ((S.blk 0).cell rfl))), ?_⟩
  replace S := S.arr [] []
  obtain rfl := Option.some.inj H
  exact ⟨rfl, S⟩
 ·intro h; cases h
theorem rule_apply_3_st {A : Nat → Prop} {N : Oth} {w : World} {a0 : Tb} {b_0 : Nat} {a_0_1 : Option Addr} {a1 : Sq} {b_1 : Nat} (S : St A N w w [] [oB b_0 T_dictum_formula_has [.pointer a_0_1], oT a_0_1 a0, oB b_1 T_Sq (Sq.C a1), oTz]) {r : Fnd × Bool} (H : rule_apply_3.f a0 a1 = some r) :
  Calls PP F_rule_apply_3 #[.pointer (some ⟨b_0, 0, none⟩), .pointer (some ⟨b_1, 0, none⟩)] w fun e w' => ∃ v, e = .returned v ∧ (v = .tuple #[.agg (Fnd.C r.1).toArray, .bool r.2] ∧ St A N w w' [] []) := by
 unfold rule_apply_3.f at H
 refine calls_of_wc (n := 9) fn_rule_apply_3 rfl rfl (by simp) (wc_seq (wc_region ?_))
 refine wl_alloc ze_Fnd (by decide) fun b2 w1 hw1 => ?_
 replace S := S.new hw1
 refine wd (does_as_b rfl) (wl_nil (wc_seq (wc_region (wd (does_load on_dictum_formula_has rfl ((S.blkZ 0).cell rfl)) (wd (does_load_agg ag_Sq rfl ((S.blkZ 2).all _ (Sq.len _)) (Sq.len _)) ?_)))))
 obtain ⟨r3, er3, H⟩ := bind_ex H
 obtain ⟨B5, MB5, SB5, back⟩ := S.calln 0 ((.z 1 rfl (.z 3 rfl .nil)))
 refine wl_call (does_call ca_rule_least) (by decide) (rule_least__rule_apply_3_1_st SB5 er3) ?_
 rintro _ w4 ⟨rfl, S2⟩
 replace S := back _ _ _ _ S2 rfl
 clear back S2 SB5
 refine wd (does_extract rfl rfl) (wd (does_extract rfl rfl) ?_)
 refine wl_store_agg ag_Fnd rfl rfl (S.blk 0) (Fnd.len _) (by rw [Fnd.len]; decide) (Fnd.one _) (store_all (Fnd.len _)) fun w6 B hw6 zw6 => ?_
 replace S := S.store 0 B hw6
 clear B
 refine wd (does_as_b rfl) (wl_nil (wc_ret ?_))
 refine ⟨_, (rets2 (retOne_agg ag_Fnd rfl ((S.blk 0).all _ (Fnd.len _)) (Fnd.len _)) (retOne_tmp rfl)), ?_⟩
 replace S := S.arr [] []
 obtain rfl := Option.some.inj H
 exact ⟨rfl, S⟩
theorem rule_apply_4_st {A : Nat → Prop} {N : Oth} {w : World} {a0 : Sq} {b_0 : Nat} {a1 : Tb} {b_1 : Nat} {a_1_1 : Option Addr} (S : St A N w w [] [oB b_0 T_Sq (Sq.C a0), oB b_1 T_dictum_formula_has [.pointer a_1_1], oT a_1_1 a1]) {r : Fnd × Bool} (H : rule_apply_4.f a0 a1 = some r) :
  Calls PP F_rule_apply_4 #[.pointer (some ⟨b_0, 0, none⟩), .pointer (some ⟨b_1, 0, none⟩)] w fun e w' => ∃ v, e = .returned v ∧ (v = .tuple #[.agg (Fnd.C r.1).toArray, .bool r.2] ∧ St A N w w' [] []) := by
 unfold rule_apply_4.f at H
 refine calls_of_wc (n := 13) fn_rule_apply_4 rfl rfl (by simp) (wc_seq (wc_region ?_))
 refine wl_alloc ze_Fnd (by decide) fun b2 w1 hw1 => ?_
 replace S := S.new hw1
 refine wd (does_as_b rfl) (wl_nil (wc_seq ?_))
 obtain ⟨r3, er3, H⟩ := bind_ex H
 have hSB := S.blk 0
 have SH : ∀ v, Chg (· = b2) w1 v → St A (N.or (· = b2)) w v [] [oB b_0 T_Sq (Sq.C a0), oB b_1 T_dictum_formula_has [.pointer a_1_1], oT a_1_1 a1] := fun v hc => S.awayB 0 (hc := hc)
 refine wc_draw2 10 ⟨fun L v => Chg (· = b2) w1 v ∧ (L 9 = false → Ext w1 v) ∧ (L 9 = true → Blk v b2 T_Fnd (Fnd.C (⟨8, a0.goal⟩ : Fnd))), fun L a c => Chg (· = b2) a c ∧ (L 9 = true → Ext a c), fun i v _ => match i with
  | 0 => v = Value.pointer (some ⟨b_0, 16, none⟩)
  | 1 => v = Value.int .i64 a0.goal
  | 2 => v = Value.agg (Fnd.C (⟨8, a0.goal⟩ : Fnd)).toArray
  | 3 => v = Value.pointer a_1_1
  | 4 => v = Value.pointer (some ⟨b_0, 16, none⟩)
  | 5 => v = Value.int .i64 a0.goal
  | 6 => v = Value.agg (Nd.C r3).toArray
  | 7 => v = Value.int .i64 r3.kind
  | 8 => v = Value.bool (decide (r3.kind = 5))
  | _ => True⟩ hmix (by kernel_rfl) (fun _ _ _ _ _ _ _ hv => hv) ⟨(Ext.drawn _).mono (fun _ _ x => x.elim), fun _ => Ext.drawn _, fun h => by cases h⟩ ⟨?_, ?_, ?_, ?_, ?_, ?_, ?_, ?_, ?_, ?_, trivial⟩ ?_
 ·rintro L g v hL hT 
  refine wd (does_fieldAddr fl_Sq_goal rfl (o' := 16) rfl) (wl_nil (ob2 ⟨hT.1, fun h => hT.2.1 h, fun h => hT.2.2 h⟩ ⟨Chg.refl _ _, fun _ => Ext.refl _⟩ rfl))
 ·rintro L g v hL hT hv0
  refine wd (does_load on_int hv0 (((SH v hT.1).blkZ 0).cell (Sq.get_goal _))) (wl_nil (ob2 ⟨hT.1, fun h => hT.2.1 h, fun h => hT.2.2 h⟩ ⟨Chg.refl _ _, fun _ => Ext.refl _⟩ rfl))
 ·rintro L g v hL hT hv1
  refine wd (does_buildv (vs := [(0, .int .i64 8), (1, .int .i64 a0.goal)]) bu_Fnd (consP rfl (consP hv1 rfl)) (Bld.one rfl rfl (by rw [Fnd.len]; decide) (Fnd.set_k _ _) (Bld.one rfl rfl (by rw [Fnd.len]; decide) (Fnd.set_main _ _) Bld.nil))) (wl_nil (ob2 ⟨hT.1, fun h => hT.2.1 h, fun h => hT.2.2 h⟩ ⟨Chg.refl _ _, fun _ => Ext.refl _⟩ rfl))
 ·rintro L g v hL hT 
  refine wd (does_load on_dictum_formula_has rfl (((SH v hT.1).blkZ 1).cell rfl)) (wl_nil (ob2 ⟨hT.1, fun h => hT.2.1 h, fun h => hT.2.2 h⟩ ⟨Chg.refl _ _, fun _ => Ext.refl _⟩ rfl))
 ·rintro L g v hL hT 
  refine wd (does_fieldAddr fl_Sq_goal rfl (o' := 16) rfl) (wl_nil (ob2 ⟨hT.1, fun h => hT.2.1 h, fun h => hT.2.2 h⟩ ⟨Chg.refl _ _, fun _ => Ext.refl _⟩ rfl))
 ·rintro L g v hL hT hv4
  refine wd (does_load on_int hv4 (((SH v hT.1).blkZ 0).cell (Sq.get_goal _))) (wl_nil (ob2 ⟨hT.1, fun h => hT.2.1 h, fun h => hT.2.2 h⟩ ⟨Chg.refl _ _, fun _ => Ext.refl _⟩ rfl))
 ·rintro L g v hL hT hv3 hv5
  refine (have ⟨M, SS⟩ := (SH v hT.1).lend ((.z 2 rfl .nil)); wl_call (does_callg ca_rule_node (cons2 hv3 (cons2 hv5 rfl))) (by decide) (quiet (rule_node_st SS er3) (fun v w' h => ⟨h.1, _, _, h.2⟩)) (by rintro _ v' ⟨rfl, hx⟩; exact wl_nil (ob2 ⟨hT.1.thenExt hx, fun h => (hT.2.1 h).trans hx, fun h => (hT.2.2 h).ext hx⟩ ⟨hx.mono (fun _ _ x => x.elim), fun _ => hx⟩ rfl)))
 ·rintro L g v hL hT hv6
  refine wd (does_field fv_Nd_kind on_api_Kind hv6 (Nd.get_kind _)) (wl_nil (ob2 ⟨hT.1, fun h => hT.2.1 h, fun h => hT.2.2 h⟩ ⟨Chg.refl _ _, fun _ => Ext.refl _⟩ rfl))
 ·rintro L g v hL hT hv7
  refine wd (does_eq hv7 rfl) (wl_nil (ob2 ⟨hT.1, fun h => hT.2.1 h, fun h => hT.2.2 h⟩ ⟨Chg.refl _ _, fun _ => Ext.refl _⟩ rfl))
 ·rintro L g v hL hT hv2
  refine wl_store_agg ag_Fnd rfl hv2 (hSB.ext (hT.2.1 hL)) (Fnd.len _) (by rw [Fnd.len]; decide) (Fnd.one _) (store_all (Fnd.len _)) fun v' hb hc _ => wl_nil (ob0 ⟨hT.1.trans hc, fun h => (by cases h), fun _ => hb⟩ ⟨hc, fun h => (by rw [hL] at h; cases h)⟩ (fun _ => trivial))
 rintro L g w4 hLm hT hv5_0 hv5_1 hv5_2 hv5_3 hv5_4 hv5_5 hv5_6 hv5_7 hv5_8 _
 replace S := S.store 0 (hT.2.2 (by rw [hLm]; rfl)) hT.1
 clear SH hSB
 refine wd (does_as_b hv5_8) (wl_nil (wc_ret ?_))
 refine ⟨_, (rets2 (retOne_agg ag_Fnd rfl ((S.blk 0).all _ (Fnd.len _)) (Fnd.len _)) (retOne_tmp rfl)), ?_⟩
 replace S := S.arr [] []
 obtain rfl := Option.some.inj H
 exact ⟨rfl, S⟩
theorem rule_apply_5_st {A : Nat → Prop} {N : Oth} {w : World} {a0 : Sq} {b_0 : Nat} {a1 : Tb} {b_1 : Nat} {a_1_1 : Option Addr} (S : St A N w w [] [oB b_0 T_Sq (Sq.C a0), oB b_1 T_dictum_formula_has [.pointer a_1_1], oT a_1_1 a1]) {r : Fnd × Bool} (H : rule_apply_5.f a0 a1 = some r) :
  Calls PP F_rule_apply_5 #[.pointer (some ⟨b_0, 0, none⟩), .pointer (some ⟨b_1, 0, none⟩)] w fun e w' => ∃ v, e = .returned v ∧ (v = .tuple #[.agg (Fnd.C r.1).toArray, .bool r.2] ∧ St A N w w' [] []) := by
 unfold rule_apply_5.f at H
 refine calls_of_wc (n := 13) fn_rule_apply_5 rfl rfl (by simp) (wc_seq (wc_region ?_))
 refine wl_alloc ze_Fnd (by decide) fun b2 w1 hw1 => ?_
 replace S := S.new hw1
 refine wd (does_as_b rfl) (wl_nil (wc_seq ?_))
 obtain ⟨r3, er3, H⟩ := bind_ex H
 have hSB := S.blk 0
 have SH : ∀ v, Chg (· = b2) w1 v → St A (N.or (· = b2)) w v [] [oB b_0 T_Sq (Sq.C a0), oB b_1 T_dictum_formula_has [.pointer a_1_1], oT a_1_1 a1] := fun v hc => S.awayB 0 (hc := hc)
 refine wc_draw2 10 ⟨fun L v => Chg (· = b2) w1 v ∧ (L 9 = false → Ext w1 v) ∧ (L 9 = true → Blk v b2 T_Fnd (Fnd.C (⟨9, a0.goal⟩ : Fnd))), fun L a c => Chg (· = b2) a c ∧ (L 9 = true → Ext a c), fun i v _ => match i with
  | 0 => v = Value.pointer (some ⟨b_0, 16, none⟩)
  | 1 => v = Value.int .i64 a0.goal
  | 2 => v = Value.agg (Fnd.C (⟨9, a0.goal⟩ : Fnd)).toArray
  | 3 => v = Value.pointer a_1_1
  | 4 => v = Value.pointer (some ⟨b_0, 16, none⟩)
  | 5 => v = Value.int .i64 a0.goal
  | 6 => v = Value.agg (Nd.C r3).toArray
  | 7 => v = Value.int .i64 r3.kind
  | 8 => v = Value.bool (decide (r3.kind = 3))
  | _ => True⟩ hmix (by kernel_rfl) (fun _ _ _ _ _ _ _ hv => hv) ⟨(Ext.drawn _).mono (fun _ _ x => x.elim), fun _ => Ext.drawn _, fun h => by cases h⟩ ⟨?_, ?_, ?_, ?_, ?_, ?_, ?_, ?_, ?_, ?_, trivial⟩ ?_
 ·rintro L g v hL hT 
  refine wd (does_fieldAddr fl_Sq_goal rfl (o' := 16) rfl) (wl_nil (ob2 ⟨hT.1, fun h => hT.2.1 h, fun h => hT.2.2 h⟩ ⟨Chg.refl _ _, fun _ => Ext.refl _⟩ rfl))
 ·rintro L g v hL hT hv0
  refine wd (does_load on_int hv0 (((SH v hT.1).blkZ 0).cell (Sq.get_goal _))) (wl_nil (ob2 ⟨hT.1, fun h => hT.2.1 h, fun h => hT.2.2 h⟩ ⟨Chg.refl _ _, fun _ => Ext.refl _⟩ rfl))
 ·rintro L g v hL hT hv1
  refine wd (does_buildv (vs := [(0, .int .i64 9), (1, .int .i64 a0.goal)]) bu_Fnd (consP rfl (consP hv1 rfl)) (Bld.one rfl rfl (by rw [Fnd.len]; decide) (Fnd.set_k _ _) (Bld.one rfl rfl (by rw [Fnd.len]; decide) (Fnd.set_main _ _) Bld.nil))) (wl_nil (ob2 ⟨hT.1, fun h => hT.2.1 h, fun h => hT.2.2 h⟩ ⟨Chg.refl _ _, fun _ => Ext.refl _⟩ rfl))
 ·rintro L g v hL hT 
  refine wd (does_load on_dictum_formula_has rfl (((SH v hT.1).blkZ 1).cell rfl)) (wl_nil (ob2 ⟨hT.1, fun h => hT.2.1 h, fun h => hT.2.2 h⟩ ⟨Chg.refl _ _, fun _ => Ext.refl _⟩ rfl))
 ·rintro L g v hL hT 
  refine wd (does_fieldAddr fl_Sq_goal rfl (o' := 16) rfl) (wl_nil (ob2 ⟨hT.1, fun h => hT.2.1 h, fun h => hT.2.2 h⟩ ⟨Chg.refl _ _, fun _ => Ext.refl _⟩ rfl))
 ·rintro L g v hL hT hv4
  refine wd (does_load on_int hv4 (((SH v hT.1).blkZ 0).cell (Sq.get_goal _))) (wl_nil (ob2 ⟨hT.1, fun h => hT.2.1 h, fun h => hT.2.2 h⟩ ⟨Chg.refl _ _, fun _ => Ext.refl _⟩ rfl))
 ·rintro L g v hL hT hv3 hv5
  refine (have ⟨M, SS⟩ := (SH v hT.1).lend ((.z 2 rfl .nil)); wl_call (does_callg ca_rule_node (cons2 hv3 (cons2 hv5 rfl))) (by decide) (quiet (rule_node_st SS er3) (fun v w' h => ⟨h.1, _, _, h.2⟩)) (by rintro _ v' ⟨rfl, hx⟩; exact wl_nil (ob2 ⟨hT.1.thenExt hx, fun h => (hT.2.1 h).trans hx, fun h => (hT.2.2 h).ext hx⟩ ⟨hx.mono (fun _ _ x => x.elim), fun _ => hx⟩ rfl)))
 ·rintro L g v hL hT hv6
  refine wd (does_field fv_Nd_kind on_api_Kind hv6 (Nd.get_kind _)) (wl_nil (ob2 ⟨hT.1, fun h => hT.2.1 h, fun h => hT.2.2 h⟩ ⟨Chg.refl _ _, fun _ => Ext.refl _⟩ rfl))
 ·rintro L g v hL hT hv7
  refine wd (does_eq hv7 rfl) (wl_nil (ob2 ⟨hT.1, fun h => hT.2.1 h, fun h => hT.2.2 h⟩ ⟨Chg.refl _ _, fun _ => Ext.refl _⟩ rfl))
 ·rintro L g v hL hT hv2
  refine wl_store_agg ag_Fnd rfl hv2 (hSB.ext (hT.2.1 hL)) (Fnd.len _) (by rw [Fnd.len]; decide) (Fnd.one _) (store_all (Fnd.len _)) fun v' hb hc _ => wl_nil (ob0 ⟨hT.1.trans hc, fun h => (by cases h), fun _ => hb⟩ ⟨hc, fun h => (by rw [hL] at h; cases h)⟩ (fun _ => trivial))
 rintro L g w4 hLm hT hv5_0 hv5_1 hv5_2 hv5_3 hv5_4 hv5_5 hv5_6 hv5_7 hv5_8 _
 replace S := S.store 0 (hT.2.2 (by rw [hLm]; rfl)) hT.1
 clear SH hSB
 refine wd (does_as_b hv5_8) (wl_nil (wc_ret ?_))
 refine ⟨_, (rets2 (retOne_agg ag_Fnd rfl ((S.blk 0).all _ (Fnd.len _)) (Fnd.len _)) (retOne_tmp rfl)), ?_⟩
 replace S := S.arr [] []
 obtain rfl := Option.some.inj H
 exact ⟨rfl, S⟩
theorem rule_apply_6_1_st {A : Nat → Prop} {N : Oth} {w : World} {a0 : Int} (S : St A N w w [] []) {r : Bool} (H : rule_apply_6_1.f a0 = some r) :
  Calls PP F_rule_apply_6_1 #[.int .i64 a0] w fun e w' => ∃ v, e = .returned v ∧ (v = .bool r ∧ St A N w w' [] []) := by
 unfold rule_apply_6_1.f at H
 refine calls_of_wc (n := 5) fn_rule_apply_6_1 rfl rfl (by simp) (wc_seq (wc_region (wd (does_as_b rfl) (wl_nil (wc_seq (wc_region (wd (does_mv_i rfl) (wd (does_eq rfl rfl) (wd (does_as_b rfl) (wl_nil (wc_ret ?_)))))))))))
 refine ⟨_, (rets1 (retOne_tmp rfl)), ?_⟩
 obtain rfl := Option.some.inj H
 exact ⟨rfl, S⟩
theorem rule_least__rule_apply_6_1_st {A : Nat → Prop} {N : Oth} {w : World} {a0 : Tb} {a_0 : Option Addr} {a1 : Sq} (S : St A N w w [] [oT a_0 a0, oTz]) {r : Fnd × Bool} (H : rule_least__rule_apply_6_1.f a0 a1 = some r) :
  Calls PP F_rule_least #[.pointer a_0, .agg (Sq.C a1).toArray, .func (.func F_rule_apply_6_1) #[] #[]] w fun e w' => ∃ v, e = .returned v ∧ (v = .tuple #[.agg (Fnd.C r.1).toArray, .bool r.2] ∧ St A N w w' [] []) := by
 unfold rule_least__rule_apply_6_1.f at H
 refine calls_of_wc (n := 25) fn_rule_least rfl rfl (by simp) (wc_seq (wc_region ?_))
 refine wl_box_p rfl (by decide) fun b2 w1 hw1 => ?_
 replace S := S.new hw1
 refine wl_box_agg rfl (by decide) fun b4 w3 hw3 => ?_
 replace S := S.new hw3
 refine wl_box_f rfl (by decide) fun b6 w5 hw5 => ?_
 replace S := S.new hw5
 refine wl_alloc ze_Fnd (by decide) fun b8 w7 hw7 => ?_
 replace S := S.new hw7
 refine wl_alloc ze_bool (by decide) fun b10 w9 hw9 => ?_
 replace S := S.new hw9
 refine wl_nil (wc_seq (wc_seq (wc_region (wd (does_fieldAddr fl_Sq_left rfl (o' := 0) rfl) (wd (does_load_agg ag_Bits rfl ((S.blk 3).cells (Sq.sub_left _)) (Bits.len _)) ?_)))))
 refine wl_call (does_call ca_bits_All) (by decide) (bits_All_ok _ a1.left) ?_
 rintro _ w11 ⟨c12, rfl, Bc12, hc12, Ec12⟩
 replace S := S.addZ (b := oB c12 T_Bits (Bits.C a1.left)) (G := (· = c12)) Ec12 ⟨Bc12, fun _ => Iff.rfl⟩ (fun i hi => by rw [hi]; exact hc12)
 refine wl_nil ?_
 refine wc_block ?_
 obtain ⟨hok13, H⟩ := chk_ex H
 obtain ⟨o14, e14, Ho14⟩ := bind_ex H
 clear H
 refine wc_rangeSt (xs := Bits.list a1.left) (enc := fun (x : Nat) => Value.int .i64 (x : Int)) (bd := (fun (x : Nat) (s : Bool × Fnd) => rule_least__rule_apply_6_1.b0 a0 a1 (x : Int) s.1 s.2)) (L := (fun (s : Bool × Fnd) (c : Unit) => [oB b10 T_bool [.bool s.1], oB b8 T_Fnd (Fnd.C s.2), oB b6 T_func_api_Rule_bool [.func (.func F_rule_apply_6_1) #[] #[]], oB b4 T_Sq (Sq.C a1), oB b2 T_dictum_formula_has [.pointer a_0]])) (Lr := (fun (s : Bool × Fnd) (c : Unit) => [oB b10 T_bool [.bool s.1], oB b8 T_Fnd (Fnd.C s.2), oB b6 T_func_api_Rule_bool [.func (.func F_rule_apply_6_1) #[] #[]], oB b4 T_Sq (Sq.C a1), oB b2 T_dictum_formula_has [.pointer a_0]])) (Z := [oB c12 T_Bits (Bits.C a1.left), oT a_0 a0, oTz]) () false 0 rfl ca_bits_All_1 (bits_All_1_gives (Bits.okB_ok hok13) c12) (by decide) (fun N' s c W h => ⟨h.blkZ 0, h.tz 2⟩) S e14 ?_ ?_ ?_ ?_
 ·rintro i14 ⟨x14_0, x14_1⟩ _ q14 N14 rd u14 H S
  replace S := S
  refine wc_region (wd (does_as_i rfl) (wl_nil ?_))
  refine ⟨rfl, S, fun M14 v14 S => ?_⟩
  replace S := S
  replace H : rule_least__rule_apply_6_1.b0 a0 a1 (i14 : Int) x14_0 x14_1 = some q14 := H
  unfold rule_least__rule_apply_6_1.b0 at H
  try dsimp only at H
  refine wc_block (wc_seq (wc_region (wd (does_load on_dictum_formula_has rfl ((S.blk 4).cell rfl)) (wd (does_load_agg ag_Sq rfl ((S.blk 3).all _ (Sq.len _)) (Sq.len _)) (wd (does_mv_i rfl) ?_)))))
  obtain ⟨r15, er15, H⟩ := bind_ex H
  obtain ⟨B17, MB17, SB17, back⟩ := S.calln 0 ((.z 1 rfl .nil))
  refine wl_call (does_call ca_rule_on) (by decide) (rule_on_st SB17 er15) ?_
  rintro _ w16 ⟨rfl, S2⟩
  replace S := back _ _ _ _ S2 rfl
  clear back S2 SB17
  refine wd (does_as_i rfl) (wl_nil (wc_seq (wc_region (wd (does_load on_func_api_Rule_bool rfl ((S.blk 2).cell rfl)) (wd (does_mv_i rfl) ?_)))))
  obtain ⟨r18, er18, H⟩ := bind_ex H
  obtain ⟨B20, MB20, SB20, back⟩ := S.calln 0 ((.nil))
  refine wl_call (does_callv ca_rule_apply_6_1 rfl) (by decide) (rule_apply_6_1_st SB20 er18) ?_
  rintro _ w19 ⟨rfl, S2⟩
  replace S := back _ _ _ _ S2 rfl
  clear back S2 SB20
  refine wl_nil ?_
  refine wc_if rfl (fun hc21 => ?_) (fun hc21 => ?_)
  ·replace H := if_t hc21 H
   refine wc_seq (wc_region (wd (does_mv_i rfl) (wd (does_mv_i rfl) (wd (does_build bu_Fnd (Bld.one rfl rfl (by rw [Fnd.len]; decide) (Fnd.set_k _ _) (Bld.one rfl rfl (by rw [Fnd.len]; decide) (Fnd.set_main _ _) Bld.nil))) ?_))))
   refine wl_store_agg ag_Fnd rfl rfl (S.blk 1) (Fnd.len _) (by rw [Fnd.len]; decide) (Fnd.one _) (store_all (Fnd.len _)) fun w22 B hw22 zw22 => ?_
   replace S := S.store 1 B hw22
   clear B
   refine wl_store on_bool rfl rfl (S.blk 1) (by simp) rfl rfl fun w23 B hw23 zw23 => ?_
   replace S := S.store 1 B hw23
   clear B
   refine wl_nil (wc_ret ?_)
   obtain rfl := Option.some.inj H
   exact ⟨_, rfl, (), S⟩
  replace H := if_f hc21 H
  refine wc_skip ?_
  obtain rfl := Option.some.inj H
  exact ⟨_, rfl, (), S⟩
 ·rintro s14 _ B14 w24 rfl S hB14
  replace S := S
  have H := Ho14
  dsimp only [fin] at H
  refine wc_seq (wc_region (wd (does_build bu_Fnd Bld.nil) ?_))
  refine wl_store_agg ag_Fnd rfl rfl (S.blk 1) (Fnd.len _) (by rw [Fnd.len]; decide) (Fnd.one _) (store_all (Fnd.len _)) fun w25 B hw25 zw25 => ?_
  replace S := S.store 1 B hw25
  clear B
  refine wl_store on_bool rfl rfl (S.blk 1) (by simp) rfl rfl fun w26 B hw26 zw26 => ?_
  replace S := S.store 1 B hw26
  clear B
  refine wl_nil (wc_ret ?_)
  refine end1 (.inl rfl) (S.take hB14).1 fun w27 hcw27 => ?_
  replace S := (S.take hB14).2 _ hcw27
  refine ⟨_, (rets2 (retOne_agg ag_Fnd rfl ((S.blk 1).all _ (Fnd.len _)) (Fnd.len _)) (retOne_one on_bool rfl ((S.blk 0).cell rfl))), ?_⟩
  replace S := S.arr [] []
  obtain rfl := Option.some.inj H
  exact ⟨rfl, S⟩
 ·rintro s14 _ B14 w28 rfl S hB14
  replace S := S
  have H := Ho14
  dsimp only [fin] at H
  refine end1 (.inl rfl) (S.take hB14).1 fun w29 hcw29 => ?_
  replace S := (S.take hB14).2 _ hcw29
  refine ⟨_, (rets2 (retOne_agg ag_Fnd rfl ((S.blk 1).all _ (Fnd.len _)) (Fnd.len _)) (retOne_one on_bool rfl ((S.blk 0).cell rfl))), ?_⟩
  replace S := S.arr [] []
  obtain rfl := Option.some.inj H
  exact ⟨rfl, S⟩
 ·intro h; cases h
theorem rule_apply_6_st {A : Nat → Prop} {N : Oth} {w : World} {a0 : Tb} {b_0 : Nat} {a_0_1 : Option Addr} {a1 : Sq} {b_1 : Nat} (S : St A N w w [] [oB b_0 T_dictum_formula_has [.pointer a_0_1], oT a_0_1 a0, oB b_1 T_Sq (Sq.C a1), oTz]) {r : Fnd × Bool} (H : rule_apply_6.f a0 a1 = some r) :
  Calls PP F_rule_apply_6 #[.pointer (some ⟨b_0, 0, none⟩), .pointer (some ⟨b_1, 0, none⟩)] w fun e w' => ∃ v, e = .returned v ∧ (v = .tuple #[.agg (Fnd.C r.1).toArray, .bool r.2] ∧ St A N w w' [] []) := by
 unfold rule_apply_6.f at H
 refine calls_of_wc (n := 9) fn_rule_apply_6 rfl rfl (by simp) (wc_seq (wc_region ?_))
 refine wl_alloc ze_Fnd (by decide) fun b2 w1 hw1 => ?_
 replace S := S.new hw1
 refine wd (does_as_b rfl) (wl_nil (wc_seq (wc_region (wd (does_load on_dictum_formula_has rfl ((S.blkZ 0).cell rfl)) (wd (does_load_agg ag_Sq rfl ((S.blkZ 2).all _ (Sq.len _)) (Sq.len _)) ?_)))))
 obtain ⟨r3, er3, H⟩ := bind_ex H
 obtain ⟨B5, MB5, SB5, back⟩ := S.calln 0 ((.z 1 rfl (.z 3 rfl .nil)))
 refine wl_call (does_call ca_rule_least) (by decide) (rule_least__rule_apply_6_1_st SB5 er3) ?_
 rintro _ w4 ⟨rfl, S2⟩
 replace S := back _ _ _ _ S2 rfl
 clear back S2 SB5
 refine wd (does_extract rfl rfl) (wd (does_extract rfl rfl) ?_)
 refine wl_store_agg ag_Fnd rfl rfl (S.blk 0) (Fnd.len _) (by rw [Fnd.len]; decide) (Fnd.one _) (store_all (Fnd.len _)) fun w6 B hw6 zw6 => ?_
 replace S := S.store 0 B hw6
 clear B
 refine wd (does_as_b rfl) (wl_nil (wc_ret ?_))
 refine ⟨_, (rets2 (retOne_agg ag_Fnd rfl ((S.blk 0).all _ (Fnd.len _)) (Fnd.len _)) (retOne_tmp rfl)), ?_⟩
 replace S := S.arr [] []
 obtain rfl := Option.some.inj H
 exact ⟨rfl, S⟩
theorem rule_apply_st {A : Nat → Prop} {N : Oth} {w : World} {a0 : Tb} {a_0 : Option Addr} {a1 : Sq} (S : St A N w w [] [oT a_0 a0, oTz]) {r : Fnd} (H : rule_apply.f a0 a1 = some r) :
  Calls PP F_rule_apply #[.pointer a_0, .agg (Sq.C a1).toArray] w fun e w' => ∃ v, e = .returned v ∧ (v = .agg (Fnd.C r).toArray ∧ St A N w w' [] []) := by
 unfold rule_apply.f at H
 refine calls_of_wc (n := 32) fn_rule_apply rfl rfl (by simp) (wc_seq (wc_region ?_))
 refine wl_box_p rfl (by decide) fun b2 w1 hw1 => ?_
 replace S := S.new hw1
 refine wl_box_agg rfl (by decide) fun b4 w3 hw3 => ?_
 replace S := S.new hw3
 refine wl_alloc ze_Fnd (by decide) fun b6 w5 hw5 => ?_
 replace S := S.new hw5
 refine wl_nil (wc_seq (wc_region (wd (does_funcl) (wd (does_funcl) (wd (does_funcl) (wd (does_funcl) (wd (does_funcl) (wd (does_funcl) ?_))))))))
 refine wl_lits (C := FC) (l := [FnV.mk (.func F_rule_apply_1) #[] #[.pointer (some ⟨b2, 0, none⟩), .pointer (some ⟨b4, 0, none⟩)], FnV.mk (.func F_rule_apply_2) #[] #[.pointer (some ⟨b4, 0, none⟩)], FnV.mk (.func F_rule_apply_3) #[] #[.pointer (some ⟨b2, 0, none⟩), .pointer (some ⟨b4, 0, none⟩)], FnV.mk (.func F_rule_apply_4) #[] #[.pointer (some ⟨b4, 0, none⟩), .pointer (some ⟨b2, 0, none⟩)], FnV.mk (.func F_rule_apply_5) #[] #[.pointer (some ⟨b4, 0, none⟩), .pointer (some ⟨b2, 0, none⟩)], FnV.mk (.func F_rule_apply_6) #[] #[.pointer (some ⟨b2, 0, none⟩), .pointer (some ⟨b4, 0, none⟩)]]) (vs := [.func (.func F_rule_apply_1) #[] #[.pointer (some ⟨b2, 0, none⟩), .pointer (some ⟨b4, 0, none⟩)], .func (.func F_rule_apply_2) #[] #[.pointer (some ⟨b4, 0, none⟩)], .func (.func F_rule_apply_3) #[] #[.pointer (some ⟨b2, 0, none⟩), .pointer (some ⟨b4, 0, none⟩)], .func (.func F_rule_apply_4) #[] #[.pointer (some ⟨b4, 0, none⟩), .pointer (some ⟨b2, 0, none⟩)], .func (.func F_rule_apply_5) #[] #[.pointer (some ⟨b4, 0, none⟩), .pointer (some ⟨b2, 0, none⟩)], .func (.func F_rule_apply_6) #[] #[.pointer (some ⟨b2, 0, none⟩), .pointer (some ⟨b4, 0, none⟩)]]) sl_L_func_rule_found_bool el_func_rule_found_bool.zero rfl rfl (fun _ _ => rfl) (by decide) rfl (by decide) fun b8 w7 s9 hBw7 hw7 => ?_
 replace S := S.lit hBw7 hw7 (by simp)
 refine wd (does_as_l rfl) (wl_nil (wc_seq (wc_seq (wc_region (wd (does_mv_l rfl) (wd (does_lenR sl_L_func_rule_found_bool rfl (S.rdO 0)) (wd (does_mv_i rfl) (wl_nil ?_))))))))
 refine wc_block ?_
 refine wc_rounds 7 ?_
 refine rounds_s (wc_seq (wc_region (wd (does_lt rfl rfl) (wl_nil (wc_seq ?_)))))
 refine wc_true rfl (wc_skip (wc_seq ?_))
 refine wc_block (wc_seq (wc_region (wd (does_indexR sl_L_func_rule_found_bool rfl rfl (S.rdO 0) (by decide) (by simp)) (wd (does_load on_func_rule_found_bool rfl ((S.rdO 0).one (at_some FnV.nil (And.intro (by decide) (by simp))) rfl)) (wd (does_as_f rfl) (wl_nil (wc_seq (wc_region (wd (does_mv_f rfl) ?_)))))))))
 obtain ⟨r12, er12, H⟩ := bind_ex H
 obtain ⟨B14, MB14, SB14, back⟩ := S.calln 0 ((.o 3 rfl (.z 0 rfl (.o 2 rfl (.z 1 rfl .nil)))))
 refine wl_call (does_callv ca_rule_apply_1 rfl) (by decide) (rule_apply_1_st SB14 er12) ?_
 rintro _ w13 ⟨rfl, S2⟩
 replace S := back _ _ _ _ S2 rfl
 clear back S2 SB14
 refine wd (does_mv_t rfl) (wd (does_extract rfl rfl) (wd (does_extract rfl rfl) ?_))
 refine wl_alloc ze_Fnd (by decide) fun b16 w15 hw15 => ?_
 replace S := S.new hw15
 refine wl_store_agg ag_Fnd rfl rfl (S.blk 0) (Fnd.len _) (by rw [Fnd.len]; decide) (Fnd.one _) (store_all (Fnd.len _)) fun w17 B hw17 zw17 => ?_
 replace S := S.store 0 B hw17
 clear B
 refine wd (does_as_b rfl) (wl_nil (wc_seq (wc_region (wd (does_mv_b rfl) (wl_nil ?_)))))
 refine wc_if rfl (fun hc18 => ?_) (fun hc18 => ?_)
 ·replace H := if_t hc18 H
  refine wc_seq (wc_region (wd (does_load_agg ag_Fnd rfl ((S.blk 0).all _ (Fnd.len _)) (Fnd.len _)) ?_))
  refine wl_store_agg ag_Fnd rfl rfl (S.blk 2) (Fnd.len _) (by rw [Fnd.len]; decide) (Fnd.one _) (store_all (Fnd.len _)) fun w19 B hw19 zw19 => ?_
  replace S := S.store 2 B hw19
  clear B
  refine wl_nil (wc_ret ?_)
  refine ⟨_, (rets1 (retOne_agg ag_Fnd rfl ((S.blk 0).all _ (Fnd.len _)) (Fnd.len _))), ?_⟩
  replace S := S.arr [] []
  obtain rfl := Option.some.inj H
  exact ⟨rfl, S⟩
 replace H := if_f hc18 H
 refine wc_skip (wc_region (wd (does_addc rfl rfl (c := 1) rfl (by decide) (by decide)) (wd (does_mv_i rfl) (wl_nil ?_))))
 refine ⟨rfl, ?_⟩
 refine rounds_s (wc_seq (wc_region (wd (does_lt rfl rfl) (wl_nil (wc_seq ?_)))))
 refine wc_true rfl (wc_skip (wc_seq ?_))
 refine wc_block (wc_seq (wc_region (wd (does_indexR sl_L_func_rule_found_bool rfl rfl (S.rdO 1) (by decide) (by simp)) (wd (does_load on_func_rule_found_bool rfl ((S.rdO 1).one (at_some FnV.nil (And.intro (by decide) (by simp))) rfl)) (wd (does_as_f rfl) (wl_nil (wc_seq (wc_region (wd (does_mv_f rfl) ?_)))))))))
 obtain ⟨r22, er22, H⟩ := bind_ex H
 obtain ⟨B24, MB24, SB24, back⟩ := S.calln 0 ((.o 3 rfl .nil))
 refine wl_call (does_callv ca_rule_apply_2 rfl) (by decide) (rule_apply_2_st SB24 er22) ?_
 rintro _ w23 ⟨rfl, S2⟩
 replace S := back _ _ _ _ S2 rfl
 clear back S2 SB24
 refine wd (does_mv_t rfl) (wd (does_extract rfl rfl) (wd (does_extract rfl rfl) ?_))
 refine wl_alloc ze_Fnd (by decide) fun b26 w25 hw25 => ?_
 replace S := S.new hw25
 refine wl_store_agg ag_Fnd rfl rfl (S.blk 0) (Fnd.len _) (by rw [Fnd.len]; decide) (Fnd.one _) (store_all (Fnd.len _)) fun w27 B hw27 zw27 => ?_
 replace S := S.store 0 B hw27
 clear B
 refine wd (does_as_b rfl) (wl_nil (wc_seq (wc_region (wd (does_mv_b rfl) (wl_nil ?_)))))
 refine wc_if rfl (fun hc28 => ?_) (fun hc28 => ?_)
 ·replace H := if_t hc28 H
  refine wc_seq (wc_region (wd (does_load_agg ag_Fnd rfl ((S.blk 0).all _ (Fnd.len _)) (Fnd.len _)) ?_))
  refine wl_store_agg ag_Fnd rfl rfl (S.blk 3) (Fnd.len _) (by rw [Fnd.len]; decide) (Fnd.one _) (store_all (Fnd.len _)) fun w29 B hw29 zw29 => ?_
  replace S := S.store 3 B hw29
  clear B
  refine wl_nil (wc_ret ?_)
  refine ⟨_, (rets1 (retOne_agg ag_Fnd rfl ((S.blk 0).all _ (Fnd.len _)) (Fnd.len _))), ?_⟩
  replace S := S.arr [] []
  obtain rfl := Option.some.inj H
  exact ⟨rfl, S⟩
 replace H := if_f hc28 H
 refine wc_skip (wc_region (wd (does_addc rfl rfl (c := 2) rfl (by decide) (by decide)) (wd (does_mv_i rfl) (wl_nil ?_))))
 refine ⟨rfl, ?_⟩
 refine rounds_s (wc_seq (wc_region (wd (does_lt rfl rfl) (wl_nil (wc_seq ?_)))))
 refine wc_true rfl (wc_skip (wc_seq ?_))
 refine wc_block (wc_seq (wc_region (wd (does_indexR sl_L_func_rule_found_bool rfl rfl (S.rdO 2) (by decide) (by simp)) (wd (does_load on_func_rule_found_bool rfl ((S.rdO 2).one (at_some FnV.nil (And.intro (by decide) (by simp))) rfl)) (wd (does_as_f rfl) (wl_nil (wc_seq (wc_region (wd (does_mv_f rfl) ?_)))))))))
 obtain ⟨r32, er32, H⟩ := bind_ex H
 obtain ⟨B34, MB34, SB34, back⟩ := S.calln 0 ((.o 5 rfl (.z 0 rfl (.o 4 rfl (.z 1 rfl .nil)))))
 refine wl_call (does_callv ca_rule_apply_3 rfl) (by decide) (rule_apply_3_st SB34 er32) ?_
 rintro _ w33 ⟨rfl, S2⟩
 replace S := back _ _ _ _ S2 rfl
 clear back S2 SB34
 refine wd (does_mv_t rfl) (wd (does_extract rfl rfl) (wd (does_extract rfl rfl) ?_))
 refine wl_alloc ze_Fnd (by decide) fun b36 w35 hw35 => ?_
 replace S := S.new hw35
 refine wl_store_agg ag_Fnd rfl rfl (S.blk 0) (Fnd.len _) (by rw [Fnd.len]; decide) (Fnd.one _) (store_all (Fnd.len _)) fun w37 B hw37 zw37 => ?_
 replace S := S.store 0 B hw37
 clear B
 refine wd (does_as_b rfl) (wl_nil (wc_seq (wc_region (wd (does_mv_b rfl) (wl_nil ?_)))))
 refine wc_if rfl (fun hc38 => ?_) (fun hc38 => ?_)
 ·replace H := if_t hc38 H
  refine wc_seq (wc_region (wd (does_load_agg ag_Fnd rfl ((S.blk 0).all _ (Fnd.len _)) (Fnd.len _)) ?_))
  refine wl_store_agg ag_Fnd rfl rfl (S.blk 4) (Fnd.len _) (by rw [Fnd.len]; decide) (Fnd.one _) (store_all (Fnd.len _)) fun w39 B hw39 zw39 => ?_
  replace S := S.store 4 B hw39
  clear B
  refine wl_nil (wc_ret ?_)
  refine ⟨_, (rets1 (retOne_agg ag_Fnd rfl ((S.blk 0).all _ (Fnd.len _)) (Fnd.len _))), ?_⟩
  replace S := S.arr [] []
  obtain rfl := Option.some.inj H
  exact ⟨rfl, S⟩
 replace H := if_f hc38 H
 refine wc_skip (wc_region (wd (does_addc rfl rfl (c := 3) rfl (by decide) (by decide)) (wd (does_mv_i rfl) (wl_nil ?_))))
 refine ⟨rfl, ?_⟩
 refine rounds_s (wc_seq (wc_region (wd (does_lt rfl rfl) (wl_nil (wc_seq ?_)))))
 refine wc_true rfl (wc_skip (wc_seq ?_))
 refine wc_block (wc_seq (wc_region (wd (does_indexR sl_L_func_rule_found_bool rfl rfl (S.rdO 3) (by decide) (by simp)) (wd (does_load on_func_rule_found_bool rfl ((S.rdO 3).one (at_some FnV.nil (And.intro (by decide) (by simp))) rfl)) (wd (does_as_f rfl) (wl_nil (wc_seq (wc_region (wd (does_mv_f rfl) ?_)))))))))
 obtain ⟨r42, er42, H⟩ := bind_ex H
 obtain ⟨B44, MB44, SB44, back⟩ := S.calln 0 ((.o 5 rfl (.o 6 rfl (.z 0 rfl .nil))))
 refine wl_call (does_callv ca_rule_apply_4 rfl) (by decide) (rule_apply_4_st SB44 er42) ?_
 rintro _ w43 ⟨rfl, S2⟩
 replace S := back _ _ _ _ S2 rfl
 clear back S2 SB44
 refine wd (does_mv_t rfl) (wd (does_extract rfl rfl) (wd (does_extract rfl rfl) ?_))
 refine wl_alloc ze_Fnd (by decide) fun b46 w45 hw45 => ?_
 replace S := S.new hw45
 refine wl_store_agg ag_Fnd rfl rfl (S.blk 0) (Fnd.len _) (by rw [Fnd.len]; decide) (Fnd.one _) (store_all (Fnd.len _)) fun w47 B hw47 zw47 => ?_
 replace S := S.store 0 B hw47
 clear B
 refine wd (does_as_b rfl) (wl_nil (wc_seq (wc_region (wd (does_mv_b rfl) (wl_nil ?_)))))
 refine wc_if rfl (fun hc48 => ?_) (fun hc48 => ?_)
 ·replace H := if_t hc48 H
  refine wc_seq (wc_region (wd (does_load_agg ag_Fnd rfl ((S.blk 0).all _ (Fnd.len _)) (Fnd.len _)) ?_))
  refine wl_store_agg ag_Fnd rfl rfl (S.blk 5) (Fnd.len _) (by rw [Fnd.len]; decide) (Fnd.one _) (store_all (Fnd.len _)) fun w49 B hw49 zw49 => ?_
  replace S := S.store 5 B hw49
  clear B
  refine wl_nil (wc_ret ?_)
  refine ⟨_, (rets1 (retOne_agg ag_Fnd rfl ((S.blk 0).all _ (Fnd.len _)) (Fnd.len _))), ?_⟩
  replace S := S.arr [] []
  obtain rfl := Option.some.inj H
  exact ⟨rfl, S⟩
 replace H := if_f hc48 H
 refine wc_skip (wc_region (wd (does_addc rfl rfl (c := 4) rfl (by decide) (by decide)) (wd (does_mv_i rfl) (wl_nil ?_))))
 refine ⟨rfl, ?_⟩
 refine rounds_s (wc_seq (wc_region (wd (does_lt rfl rfl) (wl_nil (wc_seq ?_)))))
 refine wc_true rfl (wc_skip (wc_seq ?_))
 refine wc_block (wc_seq (wc_region (wd (does_indexR sl_L_func_rule_found_bool rfl rfl (S.rdO 4) (by decide) (by simp)) (wd (does_load on_func_rule_found_bool rfl ((S.rdO 4).one (at_some FnV.nil (And.intro (by decide) (by simp))) rfl)) (wd (does_as_f rfl) (wl_nil (wc_seq (wc_region (wd (does_mv_f rfl) ?_)))))))))
 obtain ⟨r52, er52, H⟩ := bind_ex H
 obtain ⟨B54, MB54, SB54, back⟩ := S.calln 0 ((.o 6 rfl (.o 7 rfl (.z 0 rfl .nil))))
 refine wl_call (does_callv ca_rule_apply_5 rfl) (by decide) (rule_apply_5_st SB54 er52) ?_
 rintro _ w53 ⟨rfl, S2⟩
 replace S := back _ _ _ _ S2 rfl
 clear back S2 SB54
 refine wd (does_mv_t rfl) (wd (does_extract rfl rfl) (wd (does_extract rfl rfl) ?_))
 refine wl_alloc ze_Fnd (by decide) fun b56 w55 hw55 => ?_
 replace S := S.new hw55
 refine wl_store_agg ag_Fnd rfl rfl (S.blk 0) (Fnd.len _) (by rw [Fnd.len]; decide) (Fnd.one _) (store_all (Fnd.len _)) fun w57 B hw57 zw57 => ?_
 replace S := S.store 0 B hw57
 clear B
 refine wd (does_as_b rfl) (wl_nil (wc_seq (wc_region (wd (does_mv_b rfl) (wl_nil ?_)))))
 refine wc_if rfl (fun hc58 => ?_) (fun hc58 => ?_)
 ·replace H := if_t hc58 H
  refine wc_seq (wc_region (wd (does_load_agg ag_Fnd rfl ((S.blk 0).all _ (Fnd.len _)) (Fnd.len _)) ?_))
  refine wl_store_agg ag_Fnd rfl rfl (S.blk 6) (Fnd.len _) (by rw [Fnd.len]; decide) (Fnd.one _) (store_all (Fnd.len _)) fun w59 B hw59 zw59 => ?_
  replace S := S.store 6 B hw59
  clear B
  refine wl_nil (wc_ret ?_)
  refine ⟨_, (rets1 (retOne_agg ag_Fnd rfl ((S.blk 0).all _ (Fnd.len _)) (Fnd.len _))), ?_⟩
  replace S := S.arr [] []
  obtain rfl := Option.some.inj H
  exact ⟨rfl, S⟩
 replace H := if_f hc58 H
 refine wc_skip (wc_region (wd (does_addc rfl rfl (c := 5) rfl (by decide) (by decide)) (wd (does_mv_i rfl) (wl_nil ?_))))
 refine ⟨rfl, ?_⟩
 refine rounds_s (wc_seq (wc_region (wd (does_lt rfl rfl) (wl_nil (wc_seq ?_)))))
 refine wc_true rfl (wc_skip (wc_seq ?_))
 refine wc_block (wc_seq (wc_region (wd (does_indexR sl_L_func_rule_found_bool rfl rfl (S.rdO 5) (by decide) (by simp)) (wd (does_load on_func_rule_found_bool rfl ((S.rdO 5).one (at_some FnV.nil (And.intro (by decide) (by simp))) rfl)) (wd (does_as_f rfl) (wl_nil (wc_seq (wc_region (wd (does_mv_f rfl) ?_)))))))))
 obtain ⟨r62, er62, H⟩ := bind_ex H
 obtain ⟨B64, MB64, SB64, back⟩ := S.calln 0 ((.o 8 rfl (.z 0 rfl (.o 7 rfl (.z 1 rfl .nil)))))
 refine wl_call (does_callv ca_rule_apply_6 rfl) (by decide) (rule_apply_6_st SB64 er62) ?_
 rintro _ w63 ⟨rfl, S2⟩
 replace S := back _ _ _ _ S2 rfl
 clear back S2 SB64
 refine wd (does_mv_t rfl) (wd (does_extract rfl rfl) (wd (does_extract rfl rfl) ?_))
 refine wl_alloc ze_Fnd (by decide) fun b66 w65 hw65 => ?_
 replace S := S.new hw65
 refine wl_store_agg ag_Fnd rfl rfl (S.blk 0) (Fnd.len _) (by rw [Fnd.len]; decide) (Fnd.one _) (store_all (Fnd.len _)) fun w67 B hw67 zw67 => ?_
 replace S := S.store 0 B hw67
 clear B
 refine wd (does_as_b rfl) (wl_nil (wc_seq (wc_region (wd (does_mv_b rfl) (wl_nil ?_)))))
 refine wc_if rfl (fun hc68 => ?_) (fun hc68 => ?_)
 ·replace H := if_t hc68 H
  refine wc_seq (wc_region (wd (does_load_agg ag_Fnd rfl ((S.blk 0).all _ (Fnd.len _)) (Fnd.len _)) ?_))
  refine wl_store_agg ag_Fnd rfl rfl (S.blk 7) (Fnd.len _) (by rw [Fnd.len]; decide) (Fnd.one _) (store_all (Fnd.len _)) fun w69 B hw69 zw69 => ?_
  replace S := S.store 7 B hw69
  clear B
  refine wl_nil (wc_ret ?_)
  refine ⟨_, (rets1 (retOne_agg ag_Fnd rfl ((S.blk 0).all _ (Fnd.len _)) (Fnd.len _))), ?_⟩
  replace S := S.arr [] []
  obtain rfl := Option.some.inj H
  exact ⟨rfl, S⟩
 replace H := if_f hc68 H
 refine wc_skip (wc_region (wd (does_addc rfl rfl (c := 6) rfl (by decide) (by decide)) (wd (does_mv_i rfl) (wl_nil ?_))))
 refine ⟨rfl, ?_⟩
 refine rounds_s (wc_seq (wc_region (wd (does_lt rfl rfl) (wl_nil (wc_seq ?_)))))
 refine wc_false rfl ?_
 refine wc_exit (wc_seq (wc_region (wd (does_build bu_Fnd (Bld.one rfl rfl (by rw [Fnd.len]; decide) (Fnd.set_k _ _) (Bld.one rfl rfl (by rw [Fnd.len]; decide) (Fnd.set_main _ _) Bld.nil))) ?_)))
 refine wl_store_agg ag_Fnd rfl rfl (S.blk 7) (Fnd.len _) (by rw [Fnd.len]; decide) (Fnd.one _) (store_all (Fnd.len _)) fun w71 B hw71 zw71 => ?_
 replace S := S.store 7 B hw71
 clear B
 refine wl_nil (wc_ret ?_)
 refine ⟨_, (rets1 (retOne_agg ag_Fnd rfl ((S.blk 0).all _ (Fnd.len _)) (Fnd.len _))), ?_⟩
 replace S := S.arr [] []
 obtain rfl := Option.some.inj H
 exact ⟨rfl, S⟩
theorem rule_Apply_st {A : Nat → Prop} {N : Oth} {w : World} {a0 : Tb} {a_0 : Option Addr} {a1 : Sq} (S : St A N w w [] [oT a_0 a0, oTz]) {r : Int × Int × Int} (H : rule_Apply.f a0 a1 = some r) :
  Calls PP F_rule_Apply #[.pointer a_0, .agg (Sq.C a1).toArray] w fun e w' => ∃ v, e = .returned v ∧ (v = .tuple #[.int .i64 r.1, .int .i64 r.2.1, .int .i64 r.2.2] ∧ St A N w w' [] []) := by
 unfold rule_Apply.f at H
 refine calls_of_wc (n := 22) fn_rule_Apply rfl rfl (by simp) (wc_seq (wc_region ?_))
 refine wl_box_agg rfl (by decide) fun b2 w1 hw1 => ?_
 replace S := S.new hw1
 refine wd (does_as_i rfl) (wd (does_as_i rfl) (wd (does_as_i rfl) (wl_nil (wc_seq (wc_seq (wc_region (wd (does_mv_p rfl) (wd (does_load_agg ag_Sq rfl ((S.blk 0).all _ (Sq.len _)) (Sq.len _)) ?_))))))))
 obtain ⟨r3, er3, H⟩ := bind_ex H
 obtain ⟨B5, MB5, SB5, back⟩ := S.calln 0 ((.z 0 rfl (.z 1 rfl .nil)))
 refine wl_call (does_call ca_rule_look) (by decide) (rule_look_st SB5 er3) ?_
 rintro _ w4 ⟨rfl, S2⟩
 replace S := back _ _ _ _ S2 rfl
 clear back S2 SB5
 refine wd (does_as_i rfl) (wl_nil (wc_seq (wc_region (wd (does_mv_i rfl) (wd (does_ne rfl rfl) (wl_nil ?_))))))
 refine wc_if rfl (fun hc6 => ?_) (fun hc6 => ?_)
 ·replace H := if_t hc6 H
  refine wc_seq (wc_region (wd (does_mv_i rfl) (wd (does_as_i rfl) (wd (does_as_i rfl) (wd (does_as_i rfl) (wl_nil (wc_ret ?_)))))))
  refine ⟨_, (rets3 (retOne_tmp rfl) (retOne_tmp rfl) (retOne_tmp rfl)), ?_⟩
  replace S := S.arr [] []
  obtain rfl := Option.some.inj H
  exact ⟨rfl, S⟩
 replace H := if_f hc6 H
 refine wc_skip (wc_seq (wc_region (wd (does_mv_p rfl) (wd (does_load_agg ag_Sq rfl ((S.blk 0).all _ (Sq.len _)) (Sq.len _)) ?_))))
 obtain ⟨r7, er7, H⟩ := bind_ex H
 obtain ⟨B9, MB9, SB9, back⟩ := S.calln 0 ((.z 0 rfl (.z 1 rfl .nil)))
 refine wl_call (does_call ca_rule_apply) (by decide) (rule_apply_st SB9 er7) ?_
 rintro _ w8 ⟨rfl, S2⟩
 replace S := back _ _ _ _ S2 rfl
 clear back S2 SB9
 refine wl_alloc ze_Fnd (by decide) fun b11 w10 hw10 => ?_
 replace S := S.new hw10
 refine wl_store_agg ag_Fnd rfl rfl (S.blk 0) (Fnd.len _) (by rw [Fnd.len]; decide) (Fnd.one _) (store_all (Fnd.len _)) fun w12 B hw12 zw12 => ?_
 replace S := S.store 0 B hw12
 clear B
 refine wl_nil (wc_seq ?_)
 refine wc_quiet 5 (Ext w12) hmix (by kernel_rfl) (by kernel_rfl) (Ext.drawn _) (wq_does (fun v K => does_fieldAddr fl_Fnd_k rfl (o' := 0) rfl) (wq_does (fun v K => does_load on_api_Rule rfl (((S.ext K).blk 0).cell (Fnd.get_k _))) (wq_does (fun v K => does_fieldAddr fl_Fnd_main rfl (o' := 1) rfl) (wq_does (fun v K => does_load on_int rfl (((S.ext K).blk 0).cell (Fnd.get_main _))) (wq_does (fun v K => does_as_i rfl) ?_)))))
 refine wq_nil fun w13 K => ?_
 replace S := S.ext K
 clear K
 refine wd (does_as_i rfl) (wd (does_as_i rfl) (wl_nil (wc_ret ?_)))
 refine ⟨_, (rets3 (retOne_tmp rfl) (retOne_tmp rfl) (retOne_tmp rfl)), ?_⟩
 replace S := S.arr [] []
 obtain rfl := Option.some.inj H
 exact ⟨rfl, S⟩
theorem rule_Choices_st {A : Nat → Prop} {N : Oth} {w : World} {a0 : Tb} {a_0 : Option Addr} {a1 : Sq} (S : St A N w w [] [oT a_0 a0, oTz]) {r : List Int × List Int × Int} (H : rule_Choices.f a0 a1 = some r) :
  Calls PP F_rule_Choices #[.pointer a_0, .agg (Sq.C a1).toArray] w fun e w' => ∃ v, e = .returned v ∧ (∃ so0 : SlV, ∃ so1 : SlV, v = .tuple #[so0.v, so1.v, .int .i64 r.2.2] ∧ St A N w w' [oS T_api_Rule 1 IC so0 r.1, oS T_int 1 IC so1 r.2.1] []) := by
 unfold rule_Choices.f at H
 refine calls_of_wc (n := 56) fn_rule_Choices rfl rfl (by simp) (wc_seq (wc_region ?_))
 refine wl_box_p rfl (by decide) fun b2 w1 hw1 => ?_
 replace S := S.new hw1
 refine wl_box_agg rfl (by decide) fun b4 w3 hw3 => ?_
 replace S := S.new hw3
 refine wd (does_as_nil) (wd (does_as_nil) (wd (does_as_i rfl) (wl_nil (wc_seq (wc_seq (wc_region (wd (does_load on_dictum_formula_has rfl ((S.blk 1).cell rfl)) (wd (does_load_agg ag_Sq rfl ((S.blk 0).all _ (Sq.len _)) (Sq.len _)) ?_))))))))
 obtain ⟨r5, er5, H⟩ := bind_ex H
 obtain ⟨B7, MB7, SB7, back⟩ := S.calln 0 ((.z 0 rfl (.z 1 rfl .nil)))
 refine wl_call (does_call ca_rule_look) (by decide) (rule_look_st SB7 er5) ?_
 rintro _ w6 ⟨rfl, S2⟩
 replace S := back _ _ _ _ S2 rfl
 clear back S2 SB7
 refine wd (does_as_i rfl) (wl_nil (wc_seq (wc_region (wd (does_mv_i rfl) (wd (does_ne rfl rfl) (wl_nil ?_))))))
 refine wc_if rfl (fun hc8 => ?_) (fun hc8 => ?_)
 ·replace H := if_t hc8 H
  refine wc_seq (wc_region (wd (does_mv_i rfl) (wd (does_as_nil) (wd (does_as_nil) (wd (does_as_i rfl) (wl_nil (wc_ret ?_)))))))
  replace S := (S.nil T_api_Rule 1 IC).nil T_int 1 IC
  refine ⟨_, (rets3 (retOne_tmp rfl) (retOne_tmp rfl) (retOne_tmp rfl)), ?_⟩
  replace S := S.arr [1, 0] []
  obtain rfl := Option.some.inj H
  exact ⟨SlV.nil, SlV.nil, rfl, S⟩
 replace H := if_f hc8 H
 refine wc_skip (wc_seq (wc_region ?_))
 refine wl_alloc zs_L_api_Rule (by decide) fun b10 w9 hw9 => ?_
 replace S := S.new hw9
 refine wl_nil (wc_seq (wc_region ?_))
 refine wl_alloc zs_L_int (by decide) fun b12 w11 hw11 => ?_
 replace S := S.new hw11
 refine wl_nil (wc_seq (wc_seq (wc_region (wd (does_load on_dictum_formula_has rfl ((S.blk 3).cell rfl)) (wd (does_load_agg ag_Sq rfl ((S.blk 2).all _ (Sq.len _)) (Sq.len _)) ?_)))))
 obtain ⟨r13, er13, H⟩ := bind_ex H
 obtain ⟨B15, MB15, SB15, back⟩ := S.calln 0 ((.z 0 rfl (.z 1 rfl .nil)))
 refine wl_call (does_call ca_rule_apply) (by decide) (rule_apply_st SB15 er13) ?_
 rintro _ w14 ⟨rfl, S2⟩
 replace S := back _ _ _ _ S2 rfl
 clear back S2 SB15
 refine wd (does_field fv_Fnd_k on_api_Rule rfl (Fnd.get_k _)) (wd (does_ne rfl rfl) (wl_nil ?_))
 refine wc_if rfl (fun hc16 => ?_) (fun hc16 => ?_)
 ·replace H := if_t hc16 H
  refine wc_seq (wc_region (wd (does_as_nil) (wd (does_as_nil) (wd (does_as_i rfl) (wl_nil (wc_ret ?_))))))
  replace S := (S.nil T_api_Rule 1 IC).nil T_int 1 IC
  refine ⟨_, (rets3 (retOne_tmp rfl) (retOne_tmp rfl) (retOne_tmp rfl)), ?_⟩
  replace S := S.arr [1, 0] []
  obtain rfl := Option.some.inj H
  exact ⟨SlV.nil, SlV.nil, rfl, S⟩
 replace H := if_f hc16 H
 refine wc_skip (wc_seq (wc_seq (wc_region (wd (does_load on_dictum_formula_has rfl ((S.blk 3).cell rfl)) (wd (does_fieldAddr fl_Sq_goal rfl (o' := 16) rfl) (wd (does_load on_int rfl ((S.blk 2).cell (Sq.get_goal _))) ?_))))))
 obtain ⟨r17, er17, H⟩ := bind_ex H
 obtain ⟨B19, MB19, SB19, back⟩ := S.calln 0 ((.z 0 rfl .nil))
 refine wl_call (does_call ca_rule_node) (by decide) (rule_node_st SB19 er17) ?_
 rintro _ w18 ⟨rfl, S2⟩
 replace S := back _ _ _ _ S2 rfl
 clear back S2 SB19
 refine wd (does_field fv_Nd_kind on_api_Kind rfl (Nd.get_kind _)) (wd (does_eq rfl rfl) (wl_nil ?_))
 replace S := (S.nil T_int 1 IC).nil T_api_Rule 1 IC
 obtain ⟨o20, e20, Ho20⟩ := bind_ex H
 replace H := e20; clear e20
 refine wc_cutq [28, 29, 30, 31, 32, 33, 34, 35, 36, 37] (fun fr W => ∃ s21 : SlV, ∃ s22 : SlV, St A N w W [oS T_api_Rule 1 IC s22 o20.2, oS T_int 1 IC s21 o20.1, oB b12 T_L_int [s21.v], oB b10 T_L_api_Rule [s22.v], oB b4 T_Sq (Sq.C a1), oB b2 T_dictum_formula_has [.pointer a_0]] [oT a_0 a0, oTz]) ?_ ?_
 ·refine wc_if rfl (fun hc23 => ?_) (fun hc23 => ?_)
  ·replace H := if_t hc23 H
   refine wc_seq (wc_region (wd (does_load on_L_api_Rule rfl ((S.blk 3).cell rfl)) ?_))
   refine wl_lits (C := IC) (l := [11, 12]) (vs := [.int .i64 11, .int .i64 12]) sl_L_api_Rule el_api_Rule.zero rfl rfl (fun _ _ => rfl) (by decide) rfl (by decide) fun b25 w24 s26 hBw24 hw24 => ?_
   replace S := S.lit hBw24 hw24 (by simp)
   obtain ⟨ha29, H⟩ := chk_ex H
   have ha29 := of_decide_eq_true ha29
   refine wl_appends (C := IC) sl_L_api_Rule el_api_Rule rfl rfl (S.sl 1) (S.rdO 0) (by simp) (fun a _ v hv => by rw [List.mem_singleton.1 hv]; rfl) ha29 (by omega) (by decide) fun s28 w27 O hw27 gw27 => ?_
   replace S := S.push 1 O (by first | (simp; done) | (simp; omega)) hw27 gw27
   clear O
   refine wl_store on_L_api_Rule rfl rfl (S.blk 4) (by simp) (SlV.one _ _ rfl) rfl fun w30 B hw30 zw30 => ?_
   replace S := S.store 4 B hw30
   clear B
   refine wl_nil (wc_region (wd (does_load on_L_int rfl ((S.blk 4).cell rfl)) (wd (does_fieldAddr fl_Sq_goal rfl (o' := 16) rfl) (wd (does_load on_int rfl ((S.blk 5).cell (Sq.get_goal _))) (wd (does_fieldAddr fl_Sq_goal rfl (o' := 16) rfl) (wd (does_load on_int rfl ((S.blk 5).cell (Sq.get_goal _))) ?_))))))
   refine wl_lits (C := IC) (l := [a1.goal, a1.goal]) (vs := [.int .i64 a1.goal, .int .i64 a1.goal]) sl_L_int el_int.zero rfl rfl (fun _ _ => rfl) (by decide) rfl (by decide) fun b32 w31 s33 hBw31 hw31 => ?_
   replace S := S.lit hBw31 hw31 (by simp)
   obtain ⟨ha36, H⟩ := chk_ex H
   have ha36 := of_decide_eq_true ha36
   refine wl_appends (C := IC) sl_L_int el_int rfl rfl (S.sl 4) (S.rdO 0) (by simp) (fun a _ v hv => by rw [List.mem_singleton.1 hv]; rfl) ha36 (by omega) (by decide) fun s35 w34 O hw34 gw34 => ?_
   replace S := S.push 4 O (by first | (simp; done) | (simp; omega)) hw34 gw34
   clear O
   refine wl_store on_L_int rfl rfl (S.blk 5) (by simp) (SlV.one _ _ rfl) rfl fun w37 B hw37 zw37 => ?_
   replace S := S.store 5 B hw37
   clear B
   refine wl_nil ?_
   replace S := S.arr [4, 1, 0, 3, 6, 7] [0, 1]
   obtain rfl := Option.some.inj H
   exact ⟨rfl, (((((((((((Dif.refl _ _).upd rfl _).upd rfl _).upd rfl _).upd rfl _).upd rfl _).upd rfl _).upd rfl _).upd rfl _).upd rfl _).upd rfl _), s35, s28, S⟩
  ·replace H := if_f hc23 H
   refine wc_skip ?_
   obtain rfl := Option.some.inj H
   exact ⟨rfl, (Dif.refl _ _), SlV.nil, SlV.nil, S⟩
 rintro g38 u39 ⟨s21, s22, S⟩
 have H := Ho20
 refine wc_seq (wc_seq (wc_region (wd (does_fieldAddr fl_Sq_left rfl (o' := 0) rfl) (wd (does_load_agg ag_Bits rfl ((S.blk 4).cells (Sq.sub_left _)) (Bits.len _)) ?_))))
 refine wl_call (does_call ca_bits_All) (by decide) (bits_All_ok _ a1.left) ?_
 rintro _ w40 ⟨c41, rfl, Bc41, hc41, Ec41⟩
 replace S := S.addZ (b := oB c41 T_Bits (Bits.C a1.left)) (G := (· = c41)) Ec41 ⟨Bc41, fun _ => Iff.rfl⟩ (fun i hi => by rw [hi]; exact hc41)
 refine wl_nil ?_
 refine wc_block ?_
 obtain ⟨hok42, H⟩ := chk_ex H
 obtain ⟨o43, e43, Ho43⟩ := bind_ex H
 clear H
 refine wc_rangeSt (xs := Bits.list a1.left) (enc := fun (x : Nat) => Value.int .i64 (x : Int)) (bd := (fun (x : Nat) (s : List Int × List Int) => rule_Choices.b0 a0 a1 (x : Int) s.1 s.2)) (L := (fun (s : List Int × List Int) (c : SlV × SlV) => [oS T_api_Rule 1 IC c.2 s.2, oS T_int 1 IC c.1 s.1, oB b12 T_L_int [c.1.v], oB b10 T_L_api_Rule [c.2.v], oB b4 T_Sq (Sq.C a1), oB b2 T_dictum_formula_has [.pointer a_0]])) (Lr := (fun (_ : Empty) (_ : Unit) => [])) (Z := [oB c41 T_Bits (Bits.C a1.left), oT a_0 a0, oTz]) (s21, s22) false 0 rfl ca_bits_All_1 (bits_All_1_gives (Bits.okB_ok hok42) c41) (by decide) (fun N' s c W h => ⟨h.blkZ 0, h.tz 2⟩) S e43 ?_ ?_ ?_ ?_
 ·rintro i43 ⟨x43_0, x43_1⟩ ⟨s44, s45⟩ q43 N43 rd u43 H S
  replace S := S
  refine wc_region (wd (does_as_i rfl) (wl_nil ?_))
  refine ⟨rfl, S, fun M43 v43 S => ?_⟩
  replace S := S
  replace H : rule_Choices.b0 a0 a1 (i43 : Int) x43_0 x43_1 = some q43 := H
  unfold rule_Choices.b0 at H
  try dsimp only at H
  refine wc_block (wc_seq (wc_region (wd (does_load on_dictum_formula_has rfl ((S.blk 5).cell rfl)) (wd (does_load_agg ag_Sq rfl ((S.blk 4).all _ (Sq.len _)) (Sq.len _)) (wd (does_mv_i rfl) ?_)))))
  obtain ⟨r46, er46, H⟩ := bind_ex H
  obtain ⟨B48, MB48, SB48, back⟩ := S.calln 0 ((.z 1 rfl .nil))
  refine wl_call (does_call ca_rule_on) (by decide) (rule_on_st SB48 er46) ?_
  rintro _ w47 ⟨rfl, S2⟩
  replace S : St A M43 w w47 [oS T_api_Rule 1 IC s45 x43_1, oS T_int 1 IC s44 x43_0, oB b12 T_L_int [s44.v], oB b10 T_L_api_Rule [s45.v], oB b4 T_Sq (Sq.C a1), oB b2 T_dictum_formula_has [.pointer a_0]] [oB c41 T_Bits (Bits.C a1.left), oT a_0 a0, oTz] := back _ _ _ _ S2 rfl
  clear back S2 SB48
  refine wd (does_eq rfl rfl) (wl_nil ?_)
  refine wc_if rfl (fun hc49 => ?_) (fun hc49 => ?_)
  ·replace H := if_t hc49 H
   refine wc_seq (wc_region (wd (does_load on_L_api_Rule rfl ((S.blk 3).cell rfl)) ?_))
   refine wl_lits (C := IC) (l := [13]) (vs := [.int .i64 13]) sl_L_api_Rule el_api_Rule.zero rfl rfl (fun _ _ => rfl) (by decide) rfl (by decide) fun b51 w50 s52 hBw50 hw50 => ?_
   replace S : St A M43 w w50 [oS T_api_Rule 1 IC s52 ([13]), oS T_api_Rule 1 IC s45 x43_1, oS T_int 1 IC s44 x43_0, oB b12 T_L_int [s44.v], oB b10 T_L_api_Rule [s45.v], oB b4 T_Sq (Sq.C a1), oB b2 T_dictum_formula_has [.pointer a_0]] [oB c41 T_Bits (Bits.C a1.left), oT a_0 a0, oTz] := S.lit hBw50 hw50 (by simp)
   obtain ⟨ha55, H⟩ := chk_ex H
   have ha55 := of_decide_eq_true ha55
   refine wl_appends (C := IC) sl_L_api_Rule el_api_Rule rfl rfl (S.sl 1) (S.rdO 0) (by simp) (fun a _ v hv => by rw [List.mem_singleton.1 hv]; rfl) ha55 (by omega) (by decide) fun s54 w53 O hw53 gw53 => ?_
   replace S := S.push 1 O (by first | (simp; done) | (simp; omega)) hw53 gw53
   clear O
   refine wl_store on_L_api_Rule rfl rfl (S.blk 4) (by simp) (SlV.one _ _ rfl) rfl fun w56 B hw56 zw56 => ?_
   replace S := S.store 4 B hw56
   clear B
   refine wl_nil (wc_region (wd (does_load on_L_int rfl ((S.blk 4).cell rfl)) (wd (does_mv_i rfl) ?_)))
   refine wl_lits (C := IC) (l := [(i43 : Int)]) (vs := [.int .i64 (i43 : Int)]) sl_L_int el_int.zero rfl rfl (fun _ _ => rfl) (by decide) rfl (by decide) fun b58 w57 s59 hBw57 hw57 => ?_
   replace S := S.lit hBw57 hw57 (by simp)
   obtain ⟨ha62, H⟩ := chk_ex H
   have ha62 := of_decide_eq_true ha62
   refine wl_appends (C := IC) sl_L_int el_int rfl rfl (S.sl 4) (S.rdO 0) (by simp) (fun a _ v hv => by rw [List.mem_singleton.1 hv]; rfl) ha62 (by omega) (by decide) fun s61 w60 O hw60 gw60 => ?_
   replace S := S.push 4 O (by first | (simp; done) | (simp; omega)) hw60 gw60
   clear O
   refine wl_store on_L_int rfl rfl (S.blk 5) (by simp) (SlV.one _ _ rfl) rfl fun w63 B hw63 zw63 => ?_
   replace S := S.store 5 B hw63
   clear B
   refine wl_nil ?_
   replace S := S.arr [4, 1, 0, 3, 6, 7] [0, 1, 2]
   obtain rfl := Option.some.inj H
   exact ⟨_, rfl, (s61, s54), S⟩
  ·replace H := if_f hc49 H
   refine wc_skip ?_
   obtain rfl := Option.some.inj H
   exact ⟨_, rfl, (s44, s45), S⟩
 ·rintro s43 ⟨s65, s66⟩ B43 w64 rfl S hB43
  replace S := S
  have H := Ho43
  dsimp only [fin] at H
  refine wc_seq ?_
  refine wc_quiet 3 (Ext w64) hmix (by kernel_rfl) (by kernel_rfl) (Ext.drawn _) (wq_does (fun v K => does_load on_L_api_Rule rfl (((S.ext K).blk 3).cell rfl)) (wq_does (fun v K => does_load on_L_int rfl (((S.ext K).blk 2).cell rfl)) (wq_does (fun v K => does_as_l rfl) ?_)))
  refine wq_nil fun w67 K => ?_
  replace S := S.ext K
  clear K
  refine wd (does_as_l rfl) (wd (does_as_i rfl) (wl_nil (wc_ret ?_)))
  refine end1 (.inl rfl) (S.take hB43).1 fun w68 hcw68 => ?_
  replace S := (S.take hB43).2 _ hcw68
  refine ⟨_, (rets3 (retOne_tmp rfl) (retOne_tmp rfl) (retOne_tmp rfl)), ?_⟩
  replace S := S.arr [0, 1] []
  obtain rfl := Option.some.inj H
  exact ⟨s66, s65, rfl, S⟩
 ·intro r; exact r.elim
 ·intro h; cases h
end Go.Proofs.YtjjkhjieegmphaaDoor
end
section
namespace Go.Proofs.YtjjkhjieegmphaaDoor
open Gw Go.RowKit
theorem rule_pair_1_st {A : Nat → Prop} {N : Oth} {w : World} {a0 : List Int} {s_0 : SlV} {a1 : Int} {b_1 : Nat} {a2 : Int} {b_2 : Nat} (S : St A N w w [] [fS 1 IC s_0 a0, oB b_1 T_int [.int .i64 a1], oB b_2 T_int [.int .i64 a2]]) {r : Int × Int} (H : rule_pair_1.f a0 a1 a2 = some r) :
  Calls PP F_rule_pair_1 #[s_0.v, .pointer (some ⟨b_1, 0, none⟩), .pointer (some ⟨b_2, 0, none⟩)] w fun e w' => ∃ v, e = .returned v ∧ (v = .tuple #[.int .i64 r.1, .int .i64 r.2] ∧ St A N w w' [] []) := by
 unfold rule_pair_1.f at H
 refine calls_of_wc (n := 8) fn_rule_pair_1 rfl rfl (by simp) (wc_seq (wc_region (wd (does_as_i rfl) (wd (does_as_i rfl) (wl_nil (wc_seq ?_))))))
 refine wc_quiet 3 (Ext w) hmix (by kernel_rfl) (by kernel_rfl) (Ext.drawn _) (wq_does (fun v K => does_load on_int rfl (((S.ext K).blkZ 1).cell rfl)) (wq_does (fun v K => does_load on_int rfl (((S.ext K).blkZ 2).cell rfl)) (wq_does (fun v K => does_as_i rfl) ?_)))
 refine wq_nil fun w1 K => ?_
 replace S := S.ext K
 clear K
 refine wd (does_as_i rfl) (wl_nil (wc_ret ?_))
 refine ⟨_, (rets2 (retOne_tmp rfl) (retOne_tmp rfl)), ?_⟩
 replace S := S.arr [] []
 obtain rfl := Option.some.inj H
 exact ⟨rfl, S⟩
theorem rule_pair_st {A : Nat → Prop} {N : Oth} {w : World} {a0 : Int} {a1 : Int} (S : St A N w w [] []) {r : Int × Int} (H : rule_pair.f a0 a1 = some r) :
  Calls PP F_rule_pair #[.int .i64 a0, .int .i64 a1] w fun e w' => ∃ v, e = .returned v ∧ (∃ bo0 : Nat, ∃ bo1 : Nat, v = .func (.func F_rule_pair_1) #[] #[.pointer (some ⟨bo0, 0, none⟩), .pointer (some ⟨bo1, 0, none⟩)] ∧ (w.heap.size ≤ bo0 ∧ w.heap.size ≤ bo1) ∧ St A N w w' [] [oB bo0 T_int [.int .i64 r.1], oB bo1 T_int [.int .i64 r.2]]) := by
 unfold rule_pair.f at H
 refine calls_of_wc (n := 6) fn_rule_pair rfl rfl (by simp) (wc_seq (wc_region ?_))
 refine wl_box_i rfl (by decide) fun b2 w1 hw1 => ?_
 have lb2 : w.heap.size ≤ b2 := by have := S.size; have := hw1.at_; omega
 replace S := S.new hw1
 refine wl_box_i rfl (by decide) fun b4 w3 hw3 => ?_
 have lb4 : w.heap.size ≤ b4 := by have := S.size; have := hw3.at_; omega
 replace S := S.new hw3
 refine wd (does_assign rfl) (wl_nil (wc_seq (wc_region (wd (does_funcl) (wd (does_as_f rfl) (wl_nil (wc_ret ?_)))))))
 replace S := (S.frzB 1).frzB 0
 refine ⟨_, (rets1 (retOne_tmp rfl)), ?_⟩
 replace S := S.arr [] [1, 0]
 obtain rfl := Option.some.inj H
 exact ⟨b2, b4, rfl, ⟨lb2, lb4⟩, S⟩
theorem rule_premises_1_st {A : Nat → Prop} {N : Oth} {w : World} {a0 : List Int} {s_0 : SlV} {a1 : Nd} {b_1 : Nat} (S : St A N w w [] [fS 1 IC s_0 a0, oB b_1 T_Nd (Nd.C a1)]) {r : Int × Int} (H : rule_premises_1.f a0 a1 = some r) :
  Calls PP F_rule_premises_1 #[s_0.v, .pointer (some ⟨b_1, 0, none⟩)] w fun e w' => ∃ v, e = .returned v ∧ (v = .tuple #[.int .i64 r.1, .int .i64 r.2] ∧ St A N w w' [] []) := by
 unfold rule_premises_1.f at H
 refine calls_of_wc (n := 10) fn_rule_premises_1 rfl rfl (by simp) (wc_seq (wc_region (wd (does_as_i rfl) (wd (does_as_i rfl) (wl_nil (wc_seq ?_))))))
 refine wc_quiet 6 (Ext w) hmix (by kernel_rfl) (by kernel_rfl) (Ext.drawn _) (wq_does (fun v K => does_fieldAddr fl_Nd_l rfl (o' := 2) rfl) (wq_does (fun v K => does_load on_int rfl (((S.ext K).blkZ 1).cell (Nd.get_l _))) (wq_does (fun v K => does_mv_l rfl) ?_)))
 obtain ⟨hi1, H⟩ := chk_ex H
 refine wq_does (fun v K => does_indexR sl_L_int rfl rfl ((S.ext K).rd 0) (inb_ex hi1).1 (inb_ex hi1).2) (wq_does (fun v K => does_load on_int rfl (((S.ext K).rd 0).one (at_some (0 : Int) (inb_ex hi1)) rfl)) (wq_does (fun v K => does_as_i rfl) ?_))
 refine wq_nil fun w2 K => ?_
 replace S := S.ext K
 clear K
 refine wd (does_as_i rfl) (wl_nil (wc_ret ?_))
 refine ⟨_, (rets2 (retOne_tmp rfl) (retOne_tmp rfl)), ?_⟩
 replace S := S.arr [] []
 obtain rfl := Option.some.inj H
 exact ⟨rfl, S⟩
theorem rule_imps__rule_pair_1__rule_premises_1_st {A : Nat → Prop} {N : Oth} {w : World} {a0 : Tb} {a_0 : Option Addr} {a1_0 : Int} {a1_1 : Int} {a1_2 : Nd} {s_1 : SlV} {b_1_1 : Nat} {b_1_2 : Nat} {b_1_3 : Nat} (S : St A N w w [oT a_0 a0] [fS 1 FC s_1 ([FnV.mk (.func F_rule_pair_1) #[] #[.pointer (some ⟨b_1_1, 0, none⟩), .pointer (some ⟨b_1_2, 0, none⟩)], FnV.mk (.func F_rule_premises_1) #[] #[.pointer (some ⟨b_1_3, 0, none⟩)]]), oB b_1_1 T_int [.int .i64 a1_0], oB b_1_2 T_int [.int .i64 a1_1], oB b_1_3 T_Nd (Nd.C a1_2)]) {r : Tb × List Int × Int} (H : rule_imps__rule_pair_1__rule_premises_1.f a0 a1_0 a1_1 a1_2 = some r) :
  Calls PP F_rule_imps #[.pointer a_0, s_1.v] w fun e w' => ∃ v, e = .returned v ∧ (∃ so0 : SlV, v = .tuple #[so0.v, .int .i64 r.2.2] ∧ St A N w w' [oT a_0 r.1, oS T_int 1 IC so0 r.2.1] []) := by
 unfold rule_imps__rule_pair_1__rule_premises_1.f at H
 refine calls_of_wc (n := 41) fn_rule_imps rfl rfl (by simp) (wc_seq (wc_region (wd (does_as_nil) (wd (does_as_i rfl) (wl_nil (wc_seq (wc_region (wd (does_as_nil) (wl_nil (wc_seq (wc_seq (wc_region (wd (does_mv_l rfl) (wd (does_lenR sl_L_func_L_int_int_int rfl (S.rd 0)) (wd (does_mv_i rfl) (wl_nil ?_))))))))))))))))
 refine wc_block ?_
 refine wc_rounds 3 ?_
 refine rounds_s (wc_seq (wc_region (wd (does_lt rfl rfl) (wl_nil (wc_seq ?_)))))
 refine wc_true rfl (wc_skip (wc_seq ?_))
 refine wc_block (wc_seq (wc_region (wd (does_indexR sl_L_func_L_int_int_int rfl rfl (S.rd 0) (by decide) (by simp)) (wd (does_load on_func_L_int_int_int rfl ((S.rd 0).one (at_some FnV.nil (And.intro (by decide) (by simp))) rfl)) (wd (does_as_f rfl) (wl_nil (wc_seq (wc_region (wd (does_mv_f rfl) (wd (does_mv_l rfl) ?_))))))))))
 replace S := S.nilZ 1 IC
 obtain ⟨r3, er3, H⟩ := bind_ex H
 obtain ⟨B5, MB5, SB5, back⟩ := S.calln 0 ((.z 0 rfl (.z 2 rfl (.z 3 rfl .nil))))
 refine wl_call (does_callv ca_rule_pair_1 rfl) (by decide) (rule_pair_1_st SB5 er3) ?_
 rintro _ w4 ⟨rfl, S2⟩
 replace S := back _ _ _ _ S2 rfl
 clear back S2 SB5
 refine wd (does_mv_t rfl) (wd (does_extract rfl rfl) (wd (does_extract rfl rfl) (wd (does_as_i rfl) (wd (does_as_i rfl) (wl_nil (wc_seq (wc_region (wd (does_mv_p rfl) (wd (does_mv_i rfl) (wd (does_mv_i rfl) ?_))))))))))
 obtain ⟨r6, er6, H⟩ := bind_ex H
 obtain ⟨B8, MB8, SB8, back⟩ := S.calln 1 ((.nil))
 refine wl_call (does_call ca_formula_Table_Imp) (by decide) (formula_Table_Imp_st SB8 er6) ?_
 rintro _ w7 ⟨rfl, S2⟩
 replace S := back _ _ _ _ S2 rfl
 clear back S2 SB8
 refine wd (does_mv_t rfl) (wd (does_extract rfl rfl) (wd (does_extract rfl rfl) (wd (does_as_i rfl) (wd (does_as_i rfl) (wl_nil (wc_seq (wc_seq (wc_region (wd (does_mv_i rfl) (wd (does_ne rfl rfl) (wl_nil ?_)))))))))))
 refine wc_if rfl (fun hc9 => ?_) (fun hc9 => ?_)
 ·replace H := if_t hc9 H
  refine wc_seq (wc_region (wd (does_mv_i rfl) (wd (does_as_nil) (wd (does_as_i rfl) (wl_nil (wc_ret ?_))))))
  replace S := S.nil T_int 1 IC
  refine ⟨_, (rets2 (retOne_tmp rfl) (retOne_tmp rfl)), ?_⟩
  replace S := S.arr [1, 0] []
  obtain rfl := Option.some.inj H
  exact ⟨SlV.nil, rfl, S⟩
 replace H := if_f hc9 H
 refine wc_skip (wc_region (wd (does_mv_l rfl) (wd (does_mv_i rfl) ?_)))
 refine wl_lits (C := IC) (l := [r6.2.1]) (vs := [.int .i64 r6.2.1]) sl_L_int el_int.zero rfl rfl (fun _ _ => rfl) (by decide) rfl (by decide) fun b11 w10 s12 hBw10 hw10 => ?_
 replace S := (S.lit hBw10 hw10 (by simp)).nil T_int 1 IC
 obtain ⟨ha15, H⟩ := chk_ex H
 have ha15 := of_decide_eq_true ha15
 refine wl_appends (C := IC) sl_L_int el_int rfl rfl (S.sl 0) (S.rdO 1) (by simp) (fun a _ v hv => by rw [List.mem_singleton.1 hv]; rfl) ha15 (by omega) (by decide) fun s14 w13 O hw13 gw13 => ?_
 replace S := S.push 0 O (by first | (simp; done) | (simp; omega)) hw13 gw13
 clear O
 refine wd (does_as_l rfl) (wl_nil (wc_region (wd (does_addc rfl rfl (c := 1) rfl (by decide) (by decide)) (wd (does_mv_i rfl) (wl_nil ?_)))))
 refine ⟨rfl, ?_⟩
 refine rounds_s (wc_seq (wc_region (wd (does_lt rfl rfl) (wl_nil (wc_seq ?_)))))
 refine wc_true rfl (wc_skip (wc_seq ?_))
 refine wc_block (wc_seq (wc_region (wd (does_indexR sl_L_func_L_int_int_int rfl rfl (S.rd 1) (by decide) (by simp)) (wd (does_load on_func_L_int_int_int rfl ((S.rd 1).one (at_some FnV.nil (And.intro (by decide) (by simp))) rfl)) (wd (does_as_f rfl) (wl_nil (wc_seq (wc_region (wd (does_mv_f rfl) (wd (does_mv_l rfl) ?_))))))))))
 obtain ⟨r18, er18, H⟩ := bind_ex H
 obtain ⟨B20, MB20, SB20, back⟩ := S.calln 0 ((.s 0 rfl (.z 4 rfl .nil)))
 refine wl_call (does_callv ca_rule_premises_1 rfl) (by decide) (rule_premises_1_st SB20 er18) ?_
 rintro _ w19 ⟨rfl, S2⟩
 replace S := back _ _ _ _ S2 rfl
 clear back S2 SB20
 refine wd (does_mv_t rfl) (wd (does_extract rfl rfl) (wd (does_extract rfl rfl) (wd (does_as_i rfl) (wd (does_as_i rfl) (wl_nil (wc_seq (wc_region (wd (does_mv_p rfl) (wd (does_mv_i rfl) (wd (does_mv_i rfl) ?_))))))))))
 obtain ⟨r21, er21, H⟩ := bind_ex H
 replace S := S.front 2
 obtain ⟨B23, MB23, SB23, back⟩ := S.calln 1 ((.nil))
 refine wl_call (does_call ca_formula_Table_Imp) (by decide) (formula_Table_Imp_st SB23 er21) ?_
 rintro _ w22 ⟨rfl, S2⟩
 replace S := back _ _ _ _ S2 rfl
 clear back S2 SB23
 refine wd (does_mv_t rfl) (wd (does_extract rfl rfl) (wd (does_extract rfl rfl) (wd (does_as_i rfl) (wd (does_as_i rfl) (wl_nil (wc_seq (wc_seq (wc_region (wd (does_mv_i rfl) (wd (does_ne rfl rfl) (wl_nil ?_)))))))))))
 refine wc_if rfl (fun hc24 => ?_) (fun hc24 => ?_)
 ·replace H := if_t hc24 H
  refine wc_seq (wc_region (wd (does_mv_i rfl) (wd (does_as_nil) (wd (does_as_i rfl) (wl_nil (wc_ret ?_))))))
  replace S := S.nil T_int 1 IC
  refine ⟨_, (rets2 (retOne_tmp rfl) (retOne_tmp rfl)), ?_⟩
  replace S := S.arr [1, 0] []
  obtain rfl := Option.some.inj H
  exact ⟨SlV.nil, rfl, S⟩
 replace H := if_f hc24 H
 refine wc_skip (wc_region (wd (does_mv_l rfl) (wd (does_mv_i rfl) ?_)))
 refine wl_lits (C := IC) (l := [r21.2.1]) (vs := [.int .i64 r21.2.1]) sl_L_int el_int.zero rfl rfl (fun _ _ => rfl) (by decide) rfl (by decide) fun b26 w25 s27 hBw25 hw25 => ?_
 replace S := S.lit hBw25 hw25 (by simp)
 obtain ⟨ha30, H⟩ := chk_ex H
 have ha30 := of_decide_eq_true ha30
 refine wl_appends (C := IC) sl_L_int el_int rfl rfl (S.sl 2) (S.rdO 0) (by simp) (fun a _ v hv => by rw [List.mem_singleton.1 hv]; rfl) ha30 (by omega) (by decide) fun s29 w28 O hw28 gw28 => ?_
 replace S := S.push 2 O (by first | (simp; done) | (simp; omega)) hw28 gw28
 clear O
 refine wd (does_as_l rfl) (wl_nil (wc_region (wd (does_addc rfl rfl (c := 2) rfl (by decide) (by decide)) (wd (does_mv_i rfl) (wl_nil ?_)))))
 refine ⟨rfl, ?_⟩
 refine rounds_s (wc_seq (wc_region (wd (does_lt rfl rfl) (wl_nil (wc_seq ?_)))))
 refine wc_false rfl ?_
 refine wc_exit (wc_seq (wc_region (wd (does_mv_l rfl) (wd (does_as_l rfl) (wd (does_as_i rfl) (wl_nil (wc_ret ?_)))))))
 refine ⟨_, (rets2 (retOne_tmp rfl) (retOne_tmp rfl)), ?_⟩
 replace S := S.arr [2, 0] []
 obtain rfl := Option.some.inj H
 exact ⟨s29, rfl, S⟩
theorem rule_imps__rule_pair_1__rule_pair_1_st {A : Nat → Prop} {N : Oth} {w : World} {a0 : Tb} {a_0 : Option Addr} {a1_0 : Int} {a1_1 : Int} {a1_2 : Int} {a1_3 : Int} {s_1 : SlV} {b_1_1 : Nat} {b_1_2 : Nat} {b_1_3 : Nat} {b_1_4 : Nat} (S : St A N w w [oT a_0 a0] [fS 1 FC s_1 ([FnV.mk (.func F_rule_pair_1) #[] #[.pointer (some ⟨b_1_1, 0, none⟩), .pointer (some ⟨b_1_2, 0, none⟩)], FnV.mk (.func F_rule_pair_1) #[] #[.pointer (some ⟨b_1_3, 0, none⟩), .pointer (some ⟨b_1_4, 0, none⟩)]]), oB b_1_1 T_int [.int .i64 a1_0], oB b_1_2 T_int [.int .i64 a1_1], oB b_1_3 T_int [.int .i64 a1_2], oB b_1_4 T_int [.int .i64 a1_3]]) {r : Tb × List Int × Int} (H : rule_imps__rule_pair_1__rule_pair_1.f a0 a1_0 a1_1 a1_2 a1_3 = some r) :
  Calls PP F_rule_imps #[.pointer a_0, s_1.v] w fun e w' => ∃ v, e = .returned v ∧ (∃ so0 : SlV, v = .tuple #[so0.v, .int .i64 r.2.2] ∧ St A N w w' [oT a_0 r.1, oS T_int 1 IC so0 r.2.1] []) := by
 unfold rule_imps__rule_pair_1__rule_pair_1.f at H
 refine calls_of_wc (n := 41) fn_rule_imps rfl rfl (by simp) (wc_seq (wc_region (wd (does_as_nil) (wd (does_as_i rfl) (wl_nil (wc_seq (wc_region (wd (does_as_nil) (wl_nil (wc_seq (wc_seq (wc_region (wd (does_mv_l rfl) (wd (does_lenR sl_L_func_L_int_int_int rfl (S.rd 0)) (wd (does_mv_i rfl) (wl_nil ?_))))))))))))))))
 refine wc_block ?_
 refine wc_rounds 3 ?_
 refine rounds_s (wc_seq (wc_region (wd (does_lt rfl rfl) (wl_nil (wc_seq ?_)))))
 refine wc_true rfl (wc_skip (wc_seq ?_))
 refine wc_block (wc_seq (wc_region (wd (does_indexR sl_L_func_L_int_int_int rfl rfl (S.rd 0) (by decide) (by simp)) (wd (does_load on_func_L_int_int_int rfl ((S.rd 0).one (at_some FnV.nil (And.intro (by decide) (by simp))) rfl)) (wd (does_as_f rfl) (wl_nil (wc_seq (wc_region (wd (does_mv_f rfl) (wd (does_mv_l rfl) ?_))))))))))
 replace S := S.nilZ 1 IC
 obtain ⟨r3, er3, H⟩ := bind_ex H
 obtain ⟨B5, MB5, SB5, back⟩ := S.calln 0 ((.z 0 rfl (.z 2 rfl (.z 3 rfl .nil))))
 refine wl_call (does_callv ca_rule_pair_1 rfl) (by decide) (rule_pair_1_st SB5 er3) ?_
 rintro _ w4 ⟨rfl, S2⟩
 replace S := back _ _ _ _ S2 rfl
 clear back S2 SB5
 refine wd (does_mv_t rfl) (wd (does_extract rfl rfl) (wd (does_extract rfl rfl) (wd (does_as_i rfl) (wd (does_as_i rfl) (wl_nil (wc_seq (wc_region (wd (does_mv_p rfl) (wd (does_mv_i rfl) (wd (does_mv_i rfl) ?_))))))))))
 obtain ⟨r6, er6, H⟩ := bind_ex H
 obtain ⟨B8, MB8, SB8, back⟩ := S.calln 1 ((.nil))
 refine wl_call (does_call ca_formula_Table_Imp) (by decide) (formula_Table_Imp_st SB8 er6) ?_
 rintro _ w7 ⟨rfl, S2⟩
 replace S := back _ _ _ _ S2 rfl
 clear back S2 SB8
 refine wd (does_mv_t rfl) (wd (does_extract rfl rfl) (wd (does_extract rfl rfl) (wd (does_as_i rfl) (wd (does_as_i rfl) (wl_nil (wc_seq (wc_seq (wc_region (wd (does_mv_i rfl) (wd (does_ne rfl rfl) (wl_nil ?_)))))))))))
 refine wc_if rfl (fun hc9 => ?_) (fun hc9 => ?_)
 ·replace H := if_t hc9 H
  refine wc_seq (wc_region (wd (does_mv_i rfl) (wd (does_as_nil) (wd (does_as_i rfl) (wl_nil (wc_ret ?_))))))
  replace S := S.nil T_int 1 IC
  refine ⟨_, (rets2 (retOne_tmp rfl) (retOne_tmp rfl)), ?_⟩
  replace S := S.arr [1, 0] []
  obtain rfl := Option.some.inj H
  exact ⟨SlV.nil, rfl, S⟩
 replace H := if_f hc9 H
 refine wc_skip (wc_region (wd (does_mv_l rfl) (wd (does_mv_i rfl) ?_)))
 refine wl_lits (C := IC) (l := [r6.2.1]) (vs := [.int .i64 r6.2.1]) sl_L_int el_int.zero rfl rfl (fun _ _ => rfl) (by decide) rfl (by decide) fun b11 w10 s12 hBw10 hw10 => ?_
 replace S := (S.lit hBw10 hw10 (by simp)).nil T_int 1 IC
 obtain ⟨ha15, H⟩ := chk_ex H
 have ha15 := of_decide_eq_true ha15
 refine wl_appends (C := IC) sl_L_int el_int rfl rfl (S.sl 0) (S.rdO 1) (by simp) (fun a _ v hv => by rw [List.mem_singleton.1 hv]; rfl) ha15 (by omega) (by decide) fun s14 w13 O hw13 gw13 => ?_
 replace S := S.push 0 O (by first | (simp; done) | (simp; omega)) hw13 gw13
 clear O
 refine wd (does_as_l rfl) (wl_nil (wc_region (wd (does_addc rfl rfl (c := 1) rfl (by decide) (by decide)) (wd (does_mv_i rfl) (wl_nil ?_)))))
 refine ⟨rfl, ?_⟩
 refine rounds_s (wc_seq (wc_region (wd (does_lt rfl rfl) (wl_nil (wc_seq ?_)))))
 refine wc_true rfl (wc_skip (wc_seq ?_))
 refine wc_block (wc_seq (wc_region (wd (does_indexR sl_L_func_L_int_int_int rfl rfl (S.rd 1) (by decide) (by simp)) (wd (does_load on_func_L_int_int_int rfl ((S.rd 1).one (at_some FnV.nil (And.intro (by decide) (by simp))) rfl)) (wd (does_as_f rfl) (wl_nil (wc_seq (wc_region (wd (does_mv_f rfl) (wd (does_mv_l rfl) ?_))))))))))
 obtain ⟨r18, er18, H⟩ := bind_ex H
 obtain ⟨B20, MB20, SB20, back⟩ := S.calln 0 ((.s 0 rfl (.z 4 rfl (.z 5 rfl .nil))))
 refine wl_call (does_callv ca_rule_pair_1 rfl) (by decide) (rule_pair_1_st SB20 er18) ?_
 rintro _ w19 ⟨rfl, S2⟩
 replace S := back _ _ _ _ S2 rfl
 clear back S2 SB20
 refine wd (does_mv_t rfl) (wd (does_extract rfl rfl) (wd (does_extract rfl rfl) (wd (does_as_i rfl) (wd (does_as_i rfl) (wl_nil (wc_seq (wc_region (wd (does_mv_p rfl) (wd (does_mv_i rfl) (wd (does_mv_i rfl) ?_))))))))))
 obtain ⟨r21, er21, H⟩ := bind_ex H
 replace S := S.front 2
 obtain ⟨B23, MB23, SB23, back⟩ := S.calln 1 ((.nil))
 refine wl_call (does_call ca_formula_Table_Imp) (by decide) (formula_Table_Imp_st SB23 er21) ?_
 rintro _ w22 ⟨rfl, S2⟩
 replace S := back _ _ _ _ S2 rfl
 clear back S2 SB23
 refine wd (does_mv_t rfl) (wd (does_extract rfl rfl) (wd (does_extract rfl rfl) (wd (does_as_i rfl) (wd (does_as_i rfl) (wl_nil (wc_seq (wc_seq (wc_region (wd (does_mv_i rfl) (wd (does_ne rfl rfl) (wl_nil ?_)))))))))))
 refine wc_if rfl (fun hc24 => ?_) (fun hc24 => ?_)
 ·replace H := if_t hc24 H
  refine wc_seq (wc_region (wd (does_mv_i rfl) (wd (does_as_nil) (wd (does_as_i rfl) (wl_nil (wc_ret ?_))))))
  replace S := S.nil T_int 1 IC
  refine ⟨_, (rets2 (retOne_tmp rfl) (retOne_tmp rfl)), ?_⟩
  replace S := S.arr [1, 0] []
  obtain rfl := Option.some.inj H
  exact ⟨SlV.nil, rfl, S⟩
 replace H := if_f hc24 H
 refine wc_skip (wc_region (wd (does_mv_l rfl) (wd (does_mv_i rfl) ?_)))
 refine wl_lits (C := IC) (l := [r21.2.1]) (vs := [.int .i64 r21.2.1]) sl_L_int el_int.zero rfl rfl (fun _ _ => rfl) (by decide) rfl (by decide) fun b26 w25 s27 hBw25 hw25 => ?_
 replace S := S.lit hBw25 hw25 (by simp)
 obtain ⟨ha30, H⟩ := chk_ex H
 have ha30 := of_decide_eq_true ha30
 refine wl_appends (C := IC) sl_L_int el_int rfl rfl (S.sl 2) (S.rdO 0) (by simp) (fun a _ v hv => by rw [List.mem_singleton.1 hv]; rfl) ha30 (by omega) (by decide) fun s29 w28 O hw28 gw28 => ?_
 replace S := S.push 2 O (by first | (simp; done) | (simp; omega)) hw28 gw28
 clear O
 refine wd (does_as_l rfl) (wl_nil (wc_region (wd (does_addc rfl rfl (c := 2) rfl (by decide) (by decide)) (wd (does_mv_i rfl) (wl_nil ?_)))))
 refine ⟨rfl, ?_⟩
 refine rounds_s (wc_seq (wc_region (wd (does_lt rfl rfl) (wl_nil (wc_seq ?_)))))
 refine wc_false rfl ?_
 refine wc_exit (wc_seq (wc_region (wd (does_mv_l rfl) (wd (does_as_l rfl) (wd (does_as_i rfl) (wl_nil (wc_ret ?_)))))))
 refine ⟨_, (rets2 (retOne_tmp rfl) (retOne_tmp rfl)), ?_⟩
 replace S := S.arr [2, 0] []
 obtain rfl := Option.some.inj H
 exact ⟨s29, rfl, S⟩
theorem rule_imps__rule_pair_1_st {A : Nat → Prop} {N : Oth} {w : World} {a0 : Tb} {a_0 : Option Addr} {a1_0 : Int} {a1_1 : Int} {s_1 : SlV} {b_1_1 : Nat} {b_1_2 : Nat} (S : St A N w w [oT a_0 a0] [fS 1 FC s_1 ([FnV.mk (.func F_rule_pair_1) #[] #[.pointer (some ⟨b_1_1, 0, none⟩), .pointer (some ⟨b_1_2, 0, none⟩)]]), oB b_1_1 T_int [.int .i64 a1_0], oB b_1_2 T_int [.int .i64 a1_1]]) {r : Tb × List Int × Int} (H : rule_imps__rule_pair_1.f a0 a1_0 a1_1 = some r) :
  Calls PP F_rule_imps #[.pointer a_0, s_1.v] w fun e w' => ∃ v, e = .returned v ∧ (∃ so0 : SlV, v = .tuple #[so0.v, .int .i64 r.2.2] ∧ St A N w w' [oT a_0 r.1, oS T_int 1 IC so0 r.2.1] []) := by
 unfold rule_imps__rule_pair_1.f at H
 refine calls_of_wc (n := 41) fn_rule_imps rfl rfl (by simp) (wc_seq (wc_region (wd (does_as_nil) (wd (does_as_i rfl) (wl_nil (wc_seq (wc_region (wd (does_as_nil) (wl_nil (wc_seq (wc_seq (wc_region (wd (does_mv_l rfl) (wd (does_lenR sl_L_func_L_int_int_int rfl (S.rd 0)) (wd (does_mv_i rfl) (wl_nil ?_))))))))))))))))
 refine wc_block ?_
 refine wc_rounds 2 ?_
 refine rounds_s (wc_seq (wc_region (wd (does_lt rfl rfl) (wl_nil (wc_seq ?_)))))
 refine wc_true rfl (wc_skip (wc_seq ?_))
 refine wc_block (wc_seq (wc_region (wd (does_indexR sl_L_func_L_int_int_int rfl rfl (S.rd 0) (by decide) (by simp)) (wd (does_load on_func_L_int_int_int rfl ((S.rd 0).one (at_some FnV.nil (And.intro (by decide) (by simp))) rfl)) (wd (does_as_f rfl) (wl_nil (wc_seq (wc_region (wd (does_mv_f rfl) (wd (does_mv_l rfl) ?_))))))))))
 replace S := S.nilZ 1 IC
 obtain ⟨r3, er3, H⟩ := bind_ex H
 obtain ⟨B5, MB5, SB5, back⟩ := S.calln 0 ((.z 0 rfl (.z 2 rfl (.z 3 rfl .nil))))
 refine wl_call (does_callv ca_rule_pair_1 rfl) (by decide) (rule_pair_1_st SB5 er3) ?_
 rintro _ w4 ⟨rfl, S2⟩
 replace S := back _ _ _ _ S2 rfl
 clear back S2 SB5
 refine wd (does_mv_t rfl) (wd (does_extract rfl rfl) (wd (does_extract rfl rfl) (wd (does_as_i rfl) (wd (does_as_i rfl) (wl_nil (wc_seq (wc_region (wd (does_mv_p rfl) (wd (does_mv_i rfl) (wd (does_mv_i rfl) ?_))))))))))
 obtain ⟨r6, er6, H⟩ := bind_ex H
 obtain ⟨B8, MB8, SB8, back⟩ := S.calln 1 ((.nil))
 refine wl_call (does_call ca_formula_Table_Imp) (by decide) (formula_Table_Imp_st SB8 er6) ?_
 rintro _ w7 ⟨rfl, S2⟩
 replace S := back _ _ _ _ S2 rfl
 clear back S2 SB8
 refine wd (does_mv_t rfl) (wd (does_extract rfl rfl) (wd (does_extract rfl rfl) (wd (does_as_i rfl) (wd (does_as_i rfl) (wl_nil (wc_seq (wc_seq (wc_region (wd (does_mv_i rfl) (wd (does_ne rfl rfl) (wl_nil ?_)))))))))))
 refine wc_if rfl (fun hc9 => ?_) (fun hc9 => ?_)
 ·replace H := if_t hc9 H
  refine wc_seq (wc_region (wd (does_mv_i rfl) (wd (does_as_nil) (wd (does_as_i rfl) (wl_nil (wc_ret ?_))))))
  replace S := S.nil T_int 1 IC
  refine ⟨_, (rets2 (retOne_tmp rfl) (retOne_tmp rfl)), ?_⟩
  replace S := S.arr [1, 0] []
  obtain rfl := Option.some.inj H
  exact ⟨SlV.nil, rfl, S⟩
 replace H := if_f hc9 H
 refine wc_skip (wc_region (wd (does_mv_l rfl) (wd (does_mv_i rfl) ?_)))
 refine wl_lits (C := IC) (l := [r6.2.1]) (vs := [.int .i64 r6.2.1]) sl_L_int el_int.zero rfl rfl (fun _ _ => rfl) (by decide) rfl (by decide) fun b11 w10 s12 hBw10 hw10 => ?_
 replace S := (S.lit hBw10 hw10 (by simp)).nil T_int 1 IC
 obtain ⟨ha15, H⟩ := chk_ex H
 have ha15 := of_decide_eq_true ha15
 refine wl_appends (C := IC) sl_L_int el_int rfl rfl (S.sl 0) (S.rdO 1) (by simp) (fun a _ v hv => by rw [List.mem_singleton.1 hv]; rfl) ha15 (by omega) (by decide) fun s14 w13 O hw13 gw13 => ?_
 replace S := S.push 0 O (by first | (simp; done) | (simp; omega)) hw13 gw13
 clear O
 refine wd (does_as_l rfl) (wl_nil (wc_region (wd (does_addc rfl rfl (c := 1) rfl (by decide) (by decide)) (wd (does_mv_i rfl) (wl_nil ?_)))))
 refine ⟨rfl, ?_⟩
 refine rounds_s (wc_seq (wc_region (wd (does_lt rfl rfl) (wl_nil (wc_seq ?_)))))
 refine wc_false rfl ?_
 refine wc_exit (wc_seq (wc_region (wd (does_mv_l rfl) (wd (does_as_l rfl) (wd (does_as_i rfl) (wl_nil (wc_ret ?_)))))))
 refine ⟨_, (rets2 (retOne_tmp rfl) (retOne_tmp rfl)), ?_⟩
 replace S := S.arr [2, 0] []
 obtain rfl := Option.some.inj H
 exact ⟨s14, rfl, S⟩
theorem rule_premises_st {A : Nat → Prop} {N : Oth} {w : World} {a0 : Tb} {a_0 : Option Addr} {a1 : Sq} {a2 : Int} {a3 : Int} (S : St A N w w [oT a_0 a0] []) {r : Tb × List Sq × Int} (H : rule_premises.f a0 a1 a2 a3 = some r) :
  Calls PP F_rule_premises #[.pointer a_0, .agg (Sq.C a1).toArray, .int .i64 a2, .int .i64 a3] w fun e w' => ∃ v, e = .returned v ∧ (∃ so0 : SlV, v = .tuple #[so0.v, .int .i64 r.2.2] ∧ St A N w w' [oT a_0 r.1, oS T_Sq 17 Sq.C so0 r.2.1] []) := by
 unfold rule_premises.f at H
 refine calls_of_wc (n := 181) fn_rule_premises rfl rfl (by simp) (wc_seq (wc_region ?_))
 refine wl_box_agg rfl (by decide) fun b2 w1 hw1 => ?_
 replace S := S.new hw1
 refine wd (does_as_nil) (wd (does_as_i rfl) (wl_nil (wc_seq (wc_region (wd (does_mv_p rfl) (wd (does_mv_i rfl) ?_))))))
 obtain ⟨r3, er3, H⟩ := bind_ex H
 obtain ⟨B5, MB5, SB5, back⟩ := S.calln 0 ((.o 1 rfl .nil))
 refine wl_call (does_call ca_rule_node) (by decide) (rule_node_st SB5 er3) ?_
 rintro _ w4 ⟨rfl, S2⟩
 replace S := back _ _ _ _ S2 rfl
 clear back S2 SB5
 refine wl_alloc ze_Nd (by decide) fun b7 w6 hw6 => ?_
 replace S := S.new hw6
 refine wl_store_agg ag_Nd rfl rfl (S.blk 0) (Nd.len _) (by rw [Nd.len]; decide) (Nd.one _) (store_all (Nd.len _)) fun w8 B hw8 zw8 => ?_
 replace S := S.store 0 B hw8
 clear B
 refine wl_nil (wc_seq (wc_region (wd (does_mv_p rfl) (wd (does_fieldAddr fl_Nd_l rfl (o' := 2) rfl) (wd (does_load on_int rfl ((S.blk 0).cell (Nd.get_l _))) ?_)))))
 obtain ⟨r9, er9, H⟩ := bind_ex H
 obtain ⟨B11, MB11, SB11, back⟩ := S.calln 0 ((.o 2 rfl .nil))
 refine wl_call (does_call ca_rule_node) (by decide) (rule_node_st SB11 er9) ?_
 rintro _ w10 ⟨rfl, S2⟩
 replace S := back _ _ _ _ S2 rfl
 clear back S2 SB11
 refine wl_alloc ze_Nd (by decide) fun b13 w12 hw12 => ?_
 replace S := S.new hw12
 refine wl_store_agg ag_Nd rfl rfl (S.blk 0) (Nd.len _) (by rw [Nd.len]; decide) (Nd.one _) (store_all (Nd.len _)) fun w14 B hw14 zw14 => ?_
 replace S := S.store 0 B hw14
 clear B
 refine wl_nil (wc_seq (wc_region (wd (does_load_agg ag_Sq rfl ((S.blk 2).all _ (Sq.len _)) (Sq.len _)) ?_)))
 refine wl_alloc ze_Sq (by decide) fun b16 w15 hw15 => ?_
 replace S := S.new hw15
 refine wl_store_agg ag_Sq rfl rfl (S.blk 0) (Sq.len _) (by rw [Sq.len]; decide) (Sq.one _) (store_all (Sq.len _)) fun w17 B hw17 zw17 => ?_
 replace S := S.store 0 B hw17
 clear B
 refine wl_nil (wc_seq (wc_region (wd (does_fieldAddr fl_Sq_left rfl (o' := 0) rfl) (wd (does_load_agg ag_Bits rfl ((S.blk 3).cells (Sq.sub_left _)) (Bits.len _)) (wd (does_mv_i rfl) ?_)))))
 obtain ⟨r18, er18, H⟩ := bind_ex H
 obtain ⟨B20, MB20, SB20, back⟩ := S.calln 0 ((.nil))
 refine wl_call (does_call ca_bits_Drop) (by decide) (bits_Drop_st SB20 er18) ?_
 rintro _ w19 ⟨rfl, S2⟩
 replace S := back _ _ _ _ S2 rfl
 clear back S2 SB20
 refine wd (does_fieldAddr fl_Sq_left rfl (o' := 0) rfl) ?_
 refine wl_store_agg ag_Bits rfl rfl (S.blk 0) (Bits.len _) (by rw [Sq.len]; decide) (Bits.one _) (Sq.put_left _ _) fun w21 B hw21 zw21 => ?_
 replace S := S.store 0 B hw21
 clear B
 refine wl_nil (wc_seq (wc_seq (wc_region (wd (does_mv_i rfl) (wl_nil ?_)))))
 refine wc_block (wc_seq (wc_region (wd (does_eq rfl rfl) (wd (does_as_b rfl) (wl_nil ?_)))))
 refine wc_if rfl (fun hc22 => ?_) (fun hc22 => ?_)
 ·replace H := if_t hc22 H
  refine wc_seq (wc_region (wd (does_load_agg ag_Sq rfl ((S.blk 0).all _ (Sq.len _)) (Sq.len _)) (wd (does_fieldAddr fl_Nd_l rfl (o' := 2) rfl) (wd (does_load on_int rfl ((S.blk 2).cell (Nd.get_l _))) (wd (does_fieldAddr fl_Nd_r rfl (o' := 3) rfl) (wd (does_load on_int rfl ((S.blk 2).cell (Nd.get_r _))) ?_))))))
  refine wl_lits (C := IC) (l := [r3.l, r3.r]) (vs := [.int .i64 r3.l, .int .i64 r3.r]) sl_L_int el_int.zero rfl rfl (fun _ _ => rfl) (by decide) rfl (by decide) fun b24 w23 s25 hBw23 hw23 => ?_
  replace S := S.lit hBw23 hw23 (by simp)
  obtain ⟨r26, er26, H⟩ := bind_ex H
  obtain ⟨B28, MB28, SB28, back⟩ := S.calln 0 ((.s 0 rfl .nil))
  refine wl_call (does_call ca_rule_with) (by decide) (rule_with_st SB28 er26) ?_
  rintro _ w27 ⟨rfl, S2⟩
  replace S := back _ _ _ _ S2 rfl
  clear back S2 SB28
  refine wl_lits (C := Sq.C) (l := [r26]) (vs := [.agg (Sq.C r26).toArray]) sl_L_api_Seq el_Sq.zero rfl rfl (fun a _ => Sq.len a) (by decide) rfl (by decide) fun b30 w29 s31 hBw29 hw29 => ?_
  replace S := S.lit hBw29 hw29 (by simp)
  refine wd (does_as_l rfl) (wd (does_as_i rfl) (wl_nil (wc_ret ?_)))
  refine ⟨_, (rets2 (retOne_tmp rfl) (retOne_tmp rfl)), ?_⟩
  replace S := S.arr [6, 0] []
  obtain rfl := Option.some.inj H
  exact ⟨s31, rfl, S⟩
 replace H := if_f hc22 H
 refine wc_seq (wc_region (wd (does_eq rfl rfl) (wd (does_as_b rfl) (wl_nil ?_))))
 refine wc_if rfl (fun hc32 => ?_) (fun hc32 => ?_)
 ·replace H := if_t hc32 H
  refine wc_seq (wc_region (wd (does_load_agg ag_Sq rfl ((S.blk 0).all _ (Sq.len _)) (Sq.len _)) (wd (does_fieldAddr fl_Nd_r rfl (o' := 3) rfl) (wd (does_load on_int rfl ((S.blk 2).cell (Nd.get_r _))) ?_))))
  refine wl_lits (C := IC) (l := [r3.r]) (vs := [.int .i64 r3.r]) sl_L_int el_int.zero rfl rfl (fun _ _ => rfl) (by decide) rfl (by decide) fun b34 w33 s35 hBw33 hw33 => ?_
  replace S := S.lit hBw33 hw33 (by simp)
  obtain ⟨r36, er36, H⟩ := bind_ex H
  obtain ⟨B38, MB38, SB38, back⟩ := S.calln 0 ((.s 0 rfl .nil))
  refine wl_call (does_call ca_rule_with) (by decide) (rule_with_st SB38 er36) ?_
  rintro _ w37 ⟨rfl, S2⟩
  replace S := back _ _ _ _ S2 rfl
  clear back S2 SB38
  refine wl_lits (C := Sq.C) (l := [r36]) (vs := [.agg (Sq.C r36).toArray]) sl_L_api_Seq el_Sq.zero rfl rfl (fun a _ => Sq.len a) (by decide) rfl (by decide) fun b40 w39 s41 hBw39 hw39 => ?_
  replace S := S.lit hBw39 hw39 (by simp)
  refine wd (does_as_l rfl) (wd (does_as_i rfl) (wl_nil (wc_ret ?_)))
  refine ⟨_, (rets2 (retOne_tmp rfl) (retOne_tmp rfl)), ?_⟩
  replace S := S.arr [6, 0] []
  obtain rfl := Option.some.inj H
  exact ⟨s41, rfl, S⟩
 replace H := if_f hc32 H
 refine wc_seq (wc_region (wd (does_eq rfl rfl) (wd (does_as_b rfl) (wl_nil ?_))))
 refine wc_if rfl (fun hc42 => ?_) (fun hc42 => ?_)
 ·replace H := if_t hc42 H
  refine wc_seq (wc_region (wd (does_load_agg ag_Sq rfl ((S.blk 0).all _ (Sq.len _)) (Sq.len _)) ?_))
  refine wl_lits (C := Sq.C) (l := [{ a1 with left := r18 }]) (vs := [.agg (Sq.C ({ a1 with left := r18 })).toArray]) sl_L_api_Seq el_Sq.zero rfl rfl (fun a _ => Sq.len a) (by decide) rfl (by decide) fun b44 w43 s45 hBw43 hw43 => ?_
  replace S := S.lit hBw43 hw43 (by simp)
  refine wd (does_as_l rfl) (wd (does_as_i rfl) (wl_nil (wc_ret ?_)))
  refine ⟨_, (rets2 (retOne_tmp rfl) (retOne_tmp rfl)), ?_⟩
  replace S := S.arr [5, 0] []
  obtain rfl := Option.some.inj H
  exact ⟨s45, rfl, S⟩
 replace H := if_f hc42 H
 refine wc_seq (wc_region (wd (does_eq rfl rfl) (wd (does_as_b rfl) (wl_nil ?_))))
 refine wc_if rfl (fun hc46 => ?_) (fun hc46 => ?_)
 ·replace H := if_t hc46 H
  refine wc_seq (wc_region (wd (does_mv_p rfl) (wd (does_fieldAddr fl_Nd_r rfl (o' := 3) rfl) (wd (does_load on_int rfl ((S.blk 1).cell (Nd.get_r _))) (wd (does_fieldAddr fl_Nd_r rfl (o' := 3) rfl) (wd (does_load on_int rfl ((S.blk 2).cell (Nd.get_r _))) ?_))))))
  obtain ⟨r47, er47, H⟩ := bind_ex H
  obtain ⟨B49, MB49, SB49, back⟩ := S.sub [] [] [oB b16 T_Sq (Sq.C ({ a1 with left := r18 })), oB b13 T_Nd (Nd.C r9), oB b7 T_Nd (Nd.C r3), oB b2 T_Sq (Sq.C a1), oT a_0 a0]
  refine wl_call (does_call ca_rule_pair) (by decide) (rule_pair_st SB49 er47) ?_
  rintro _ w48 ⟨b50, b51, rfl, hnww48, S2⟩
  replace S := back _ _ _ _ _ S2 rfl rfl
  clear back S2 SB49
  refine wd (does_funcl) ?_
  refine wl_lits (C := FC) (l := [FnV.mk (.func F_rule_pair_1) #[] #[.pointer (some ⟨b50, 0, none⟩), .pointer (some ⟨b51, 0, none⟩)], FnV.mk (.func F_rule_premises_1) #[] #[.pointer (some ⟨b13, 0, none⟩)]]) (vs := [.func (.func F_rule_pair_1) #[] #[.pointer (some ⟨b50, 0, none⟩), .pointer (some ⟨b51, 0, none⟩)], .func (.func F_rule_premises_1) #[] #[.pointer (some ⟨b13, 0, none⟩)]]) sl_L_func_L_int_int_int el_func_L_int_int_int.zero rfl rfl (fun _ _ => rfl) (by decide) rfl (by decide) fun b53 w52 s54 hBw52 hw52 => ?_
  replace S := S.lit hBw52 hw52 (by simp)
  obtain ⟨r55, er55, H⟩ := bind_ex H
  replace S := S.front 5
  obtain ⟨B57, MB57, SB57, back⟩ := S.calln 1 ((.s 0 rfl (.z 0 rfl (.z 1 rfl (.o 2 rfl .nil)))))
  refine wl_call (does_call ca_rule_imps) (by decide) (rule_imps__rule_pair_1__rule_premises_1_st SB57 er55) ?_
  rintro _ w56 ⟨s58, rfl, S2⟩
  replace S := back _ _ _ _ S2 rfl
  clear back S2 SB57
  refine wd (does_mv_t rfl) (wd (does_extract rfl rfl) (wd (does_extract rfl rfl) (wd (does_as_l rfl) (wd (does_as_i rfl) (wl_nil (wc_seq (wc_seq (wc_region (wd (does_mv_i rfl) (wd (does_ne rfl rfl) (wl_nil ?_)))))))))))
  refine wc_if rfl (fun hc59 => ?_) (fun hc59 => ?_)
  ·replace H := if_t hc59 H
   refine wc_seq (wc_region (wd (does_mv_i rfl) (wd (does_as_nil) (wd (does_as_i rfl) (wl_nil (wc_ret ?_))))))
   replace S := S.nil T_Sq 17 Sq.C
   refine ⟨_, (rets2 (retOne_tmp rfl) (retOne_tmp rfl)), ?_⟩
   replace S := S.arr [1, 0] []
   obtain rfl := Option.some.inj H
   exact ⟨SlV.nil, rfl, S⟩
  replace H := if_f hc59 H
  refine wc_skip (wc_seq ?_)
  obtain ⟨hi60, H⟩ := chk_ex H
  refine wc_semi 5 [4]
   (fun i v u => match i with
   | 4 => ∃ sl, v = SlV.v sl ∧ Rd u 1 sl ([at_ (0 : Int) r55.2.1 1].map IC) ∧ (∀ j, sl.fp j → w56.heap.size ≤ j)
   | _ => True) hmix (by kernel_rfl) (by kernel_rfl) ?_ ?_
  ·intro i v u u' hi hx hv
   match i, hv with
   | 4, ⟨b, e1, hr, hl⟩ => exact ⟨b, e1, hr.ext hx, hl⟩
   | 0, _ => exact trivial
   | 1, _ => exact trivial
   | 2, _ => exact trivial
   | 3, _ => exact trivial
   | _ + 5, _ => exact trivial
  refine wm_does (fun v K => does_load_agg ag_Sq rfl (((S.ext K).blk 3).all _ (Sq.len _)) (Sq.len _)) rfl (wm_does (fun v K => does_mv_l rfl) rfl (wm_does (fun v K => does_indexR sl_L_int rfl rfl ((S.ext K).rdO 1) (inb_ex hi60).1 (inb_ex hi60).2) rfl (wm_does (fun v K => does_load on_int rfl (((S.ext K).rdO 1).one (at_some (0 : Int) (inb_ex hi60)) rfl)) rfl ?_)))
  refine wm_new (fun g v K G => (have ⟨sl, v', hd, hx, ho, hf⟩ := does_lits (C := IC) (l := [at_ (0 : Int) r55.2.1 1]) (vs := [.int .i64 (at_ (0 : Int) r55.2.1 1)]) sl_L_int el_int.zero rfl rfl (fun _ _ => rfl) (by first | decide | simp) rfl; ⟨_, v', hd, hx, sl, rfl, ho.toRd, (fun j hj => by have := hf j hj; have := K.size; omega)⟩)) rfl ?_
  refine wm_nil fun g w62 K hV => ?_
  obtain ⟨s61, hv634, hr4, hf4⟩ := hV 4 rfl (by decide)
  replace S := S.addZs K (.s hr4 (by simp) hf4 .nil)
  clear K hV
  obtain ⟨r64, er64, H⟩ := bind_ex H
  obtain ⟨B66, MB66, SB66, back⟩ := S.calln 0 ((.z 0 rfl .nil))
  refine wl_call (does_callg ca_rule_with (cons2 rfl (cons2 hv634 rfl))) (by decide) (rule_with_st SB66 er64) ?_
  rintro _ w65 ⟨rfl, S2⟩
  replace S := back _ _ _ _ S2 rfl
  clear back S2 SB66
  refine wl_lits (C := Sq.C) (l := [r64]) (vs := [.agg (Sq.C r64).toArray]) sl_L_api_Seq el_Sq.zero rfl rfl (fun a _ => Sq.len a) (by decide) rfl (by decide) fun b68 w67 s69 hBw67 hw67 => ?_
  replace S := S.lit hBw67 hw67 (by simp)
  refine wd (does_as_l rfl) (wd (does_as_i rfl) (wl_nil (wc_ret ?_)))
  refine ⟨_, (rets2 (retOne_tmp rfl) (retOne_tmp rfl)), ?_⟩
  replace S := S.arr [1, 0] []
  obtain rfl := Option.some.inj H
  exact ⟨s69, rfl, S⟩
 replace H := if_f hc46 H
 refine wc_seq (wc_region (wd (does_eq rfl rfl) (wd (does_as_b rfl) (wl_nil ?_))))
 refine wc_if rfl (fun hc70 => ?_) (fun hc70 => ?_)
 ·replace H := if_t hc70 H
  refine wc_seq ?_
  refine wc_ws hmix fun w78 K => ?_
  replace S := S.ext K
  clear K
  obtain ⟨r79, er79, H⟩ := bind_ex H
  obtain ⟨r82, er82, H⟩ := bind_ex H
  refine ws_semi 0 12 [5, 10, 11] (by kernel_rfl) (by decide) (by kernel_rfl)
   (V := fun i v u => match i with
   | 5 => ∃ b80 : Nat, ∃ b81 : Nat, v = Value.func (.func F_rule_pair_1) #[] #[.pointer (some ⟨b80, 0, none⟩), .pointer (some ⟨b81, 0, none⟩)] ∧ Blk u b80 T_int [.int .i64 r79.1] ∧ w78.heap.size ≤ b80 ∧ Blk u b81 T_int [.int .i64 r79.2] ∧ w78.heap.size ≤ b81
   | 10 => ∃ b83 : Nat, ∃ b84 : Nat, v = Value.func (.func F_rule_pair_1) #[] #[.pointer (some ⟨b83, 0, none⟩), .pointer (some ⟨b84, 0, none⟩)] ∧ Blk u b83 T_int [.int .i64 r82.1] ∧ w78.heap.size ≤ b83 ∧ Blk u b84 T_int [.int .i64 r82.2] ∧ w78.heap.size ≤ b84
   | 11 => ∃ sl, ∃ b80 : Nat, ∃ b81 : Nat, ∃ b83 : Nat, ∃ b84 : Nat, v = SlV.v sl ∧ Rd u 1 sl ([FnV.mk (.func F_rule_pair_1) #[] #[.pointer (some ⟨b80, 0, none⟩), .pointer (some ⟨b81, 0, none⟩)], FnV.mk (.func F_rule_pair_1) #[] #[.pointer (some ⟨b83, 0, none⟩), .pointer (some ⟨b84, 0, none⟩)]].map FC) ∧ (∀ j, sl.fp j → w78.heap.size ≤ j) ∧ Blk u b80 T_int [.int .i64 r79.1] ∧ w78.heap.size ≤ b80 ∧ Blk u b81 T_int [.int .i64 r79.2] ∧ w78.heap.size ≤ b81 ∧ Blk u b83 T_int [.int .i64 r82.1] ∧ w78.heap.size ≤ b83 ∧ Blk u b84 T_int [.int .i64 r82.2] ∧ w78.heap.size ≤ b84
   | _ => True) ?_ ?_
  ·intro i v u u' hi hx hv
   match i, hv with
   | 5, ⟨b80, b81, e1, hbb80, hlb80, hbb81, hlb81⟩ => exact ⟨b80, b81, e1, hbb80.ext hx, hlb80, hbb81.ext hx, hlb81⟩
   | 10, ⟨b83, b84, e1, hbb83, hlb83, hbb84, hlb84⟩ => exact ⟨b83, b84, e1, hbb83.ext hx, hlb83, hbb84.ext hx, hlb84⟩
   | 11, ⟨b, b80, b81, b83, b84, e1, hr, hl, hbb80, hlb80, hbb81, hlb81, hbb83, hlb83, hbb84, hlb84⟩ => exact ⟨b, b80, b81, b83, b84, e1, hr.ext hx, hl, hbb80.ext hx, hlb80, hbb81.ext hx, hlb81, hbb83.ext hx, hlb83, hbb84.ext hx, hlb84⟩
   | 0, _ => exact trivial
   | 1, _ => exact trivial
   | 2, _ => exact trivial
   | 3, _ => exact trivial
   | 4, _ => exact trivial
   | 6, _ => exact trivial
   | 7, _ => exact trivial
   | 8, _ => exact trivial
   | 9, _ => exact trivial
   | _ + 12, _ => exact trivial
  refine wm_does (fun v K => does_mv_p rfl) rfl (wm_does (fun v K => does_fieldAddr fl_Nd_l rfl (o' := 2) rfl) rfl (wm_does (fun v K => does_load on_int rfl (((S.ext K).blk 1).cell (Nd.get_l _))) rfl (wm_does (fun v K => does_fieldAddr fl_Nd_r rfl (o' := 3) rfl) rfl (wm_does (fun v K => does_load on_int rfl (((S.ext K).blk 2).cell (Nd.get_r _))) rfl ?_))))
  refine wm_newcall (fun g v K G => (have ⟨M, SS⟩ := (S.ext K).lend ((.nil)); ⟨_, _, does_callg ca_rule_pair (cons2 rfl (cons2 rfl rfl)), newc (rule_pair_st SS er79) fun _ _ ⟨b80, b81, hv, h⟩ => ⟨h.2.frame, b80, b81, hv, (h.2.blkZ 0), (by have := h.1.1; have := K.size; omega), (h.2.blkZ 1), (by have := h.1.2; have := K.size; omega)⟩⟩)) rfl (wm_does (fun v K => does_fieldAddr fl_Nd_r rfl (o' := 3) rfl) rfl (wm_does (fun v K => does_load on_int rfl (((S.ext K).blk 1).cell (Nd.get_r _))) rfl (wm_does (fun v K => does_fieldAddr fl_Nd_r rfl (o' := 3) rfl) rfl (wm_does (fun v K => does_load on_int rfl (((S.ext K).blk 2).cell (Nd.get_r _))) rfl ?_))))
  refine wm_newcall (fun g v K G => (have ⟨M, SS⟩ := (S.ext K).lend ((.nil)); ⟨_, _, does_callg ca_rule_pair (cons2 rfl (cons2 rfl rfl)), newc (rule_pair_st SS er82) fun _ _ ⟨b83, b84, hv, h⟩ => ⟨h.2.frame, b83, b84, hv, (h.2.blkZ 0), (by have := h.1.1; have := K.size; omega), (h.2.blkZ 1), (by have := h.1.2; have := K.size; omega)⟩⟩)) rfl ?_
  refine wm_new (fun g v K G => (have ⟨b80, b81, hv5, hbb80, hlb80, hbb81, hlb81⟩ := G 5 (by decide) rfl; have ⟨b83, b84, hv10, hbb83, hlb83, hbb84, hlb84⟩ := G 10 (by decide) rfl; have ⟨sl, v', hd, hx, ho, hf⟩ := does_lits (C := FC) (l := [FnV.mk (.func F_rule_pair_1) #[] #[.pointer (some ⟨b80, 0, none⟩), .pointer (some ⟨b81, 0, none⟩)], FnV.mk (.func F_rule_pair_1) #[] #[.pointer (some ⟨b83, 0, none⟩), .pointer (some ⟨b84, 0, none⟩)]]) (vs := [.func (.func F_rule_pair_1) #[] #[.pointer (some ⟨b80, 0, none⟩), .pointer (some ⟨b81, 0, none⟩)], .func (.func F_rule_pair_1) #[] #[.pointer (some ⟨b83, 0, none⟩), .pointer (some ⟨b84, 0, none⟩)]]) sl_L_func_L_int_int_int el_func_L_int_int_int.zero (by exact (consP hv5 (consP hv10 rfl))) rfl (fun _ _ => rfl) (by first | decide | simp) rfl; ⟨_, v', hd, hx, sl, b80, b81, b83, b84, rfl, ho.toRd, (fun j hj => by have := hf j hj; have := K.size; omega), (hbb80.ext hx), hlb80, (hbb81.ext hx), hlb81, (hbb83.ext hx), hlb83, (hbb84.ext hx), hlb84⟩)) rfl ?_
  refine wm_nil fun g w86 K hV => ?_
  obtain ⟨s85, b80, b81, b83, b84, hv8711, hr11, hf11, hbb80, hlb80, hbb81, hlb81, hbb83, hlb83, hbb84, hlb84⟩ := hV 11 rfl (by decide)
  replace S := S.addZs K (.s hr11 (by simp) hf11 (.b hbb80 hlb80 (.b hbb81 hlb81 (.b hbb83 hlb83 (.b hbb84 hlb84 .nil)))))
  clear K hV
  refine ws_chain 12 14 (by kernel_rfl) (by decide) ?_
  obtain ⟨r88, er88, H⟩ := bind_ex H
  replace S := S.front 4
  obtain ⟨B90, MB90, SB90, back⟩ := S.calln 1 ((.z 0 rfl (.z 1 rfl (.z 2 rfl (.z 3 rfl (.z 4 rfl .nil))))))
  refine wl_call (does_callg ca_rule_imps (cons2 rfl (cons2 hv8711 rfl))) (by decide) (rule_imps__rule_pair_1__rule_pair_1_st SB90 er88) ?_
  rintro _ w89 ⟨s91, rfl, S2⟩
  replace S := back _ _ _ _ S2 rfl
  clear back S2 SB90
  refine wd (does_mv_t rfl) (wl_nil ⟨rfl, ?_⟩)
  refine ws_semi 14 17 [] (by kernel_rfl) (by decide) (by kernel_rfl)
   (V := fun i v u => match i with
   | _ => True) ?_ ?_
  ·intro i v u u' hi hx hv
   match i, hv with
   | _, _ => exact trivial
  refine wm_does (fun v K => does_extract rfl rfl) rfl (wm_does (fun v K => does_extract rfl rfl) rfl (wm_does (fun v K => does_as_l rfl) rfl ?_))
  refine wm_nil fun g w92 K hV => ?_
  replace S := S.ext K
  clear K hV
  refine ws_tail 17 (by kernel_rfl) (by decide) (wd (does_as_i rfl) (wl_nil (wc_seq (wc_seq (wc_region (wd (does_mv_i rfl) (wd (does_ne rfl rfl) (wl_nil ?_))))))))
  refine wc_if rfl (fun hc94 => ?_) (fun hc94 => ?_)
  ·replace H := if_t hc94 H
   refine wc_seq (wc_region (wd (does_mv_i rfl) (wd (does_as_nil) (wd (does_as_i rfl) (wl_nil (wc_ret ?_))))))
   replace S := S.nil T_Sq 17 Sq.C
   refine ⟨_, (rets2 (retOne_tmp rfl) (retOne_tmp rfl)), ?_⟩
   replace S := S.arr [1, 0] []
   obtain rfl := Option.some.inj H
   exact ⟨SlV.nil, rfl, S⟩
  replace H := if_f hc94 H
  refine wc_skip (wc_seq (wc_region (wd (does_load_agg ag_Sq rfl ((S.blk 2).all _ (Sq.len _)) (Sq.len _)) (wd (does_mv_l rfl) ?_))))
  obtain ⟨r95, er95, H⟩ := bind_ex H
  obtain ⟨B97, MB97, SB97, back⟩ := S.calln 0 ((.s 1 rfl .nil))
  refine wl_call (does_call ca_rule_with) (by decide) (rule_with_st SB97 er95) ?_
  rintro _ w96 ⟨rfl, S2⟩
  replace S := back _ _ _ _ S2 rfl
  clear back S2 SB97
  refine wl_lits (C := Sq.C) (l := [r95]) (vs := [.agg (Sq.C r95).toArray]) sl_L_api_Seq el_Sq.zero rfl rfl (fun a _ => Sq.len a) (by decide) rfl (by decide) fun b99 w98 s100 hBw98 hw98 => ?_
  replace S := S.lit hBw98 hw98 (by simp)
  refine wd (does_as_l rfl) (wd (does_as_i rfl) (wl_nil (wc_ret ?_)))
  refine ⟨_, (rets2 (retOne_tmp rfl) (retOne_tmp rfl)), ?_⟩
  replace S := S.arr [1, 0] []
  obtain rfl := Option.some.inj H
  exact ⟨s100, rfl, S⟩
 replace H := if_f hc70 H
 refine wc_seq (wc_region (wd (does_eq rfl rfl) (wd (does_as_b rfl) (wl_nil ?_))))
 refine wc_if rfl (fun hc101 => ?_) (fun hc101 => ?_)
 ·replace H := if_t hc101 H
  refine wc_seq ?_
  obtain ⟨r103, er103, H⟩ := bind_ex H
  refine wc_semi 7 [3, 4]
   (fun i v u => match i with
   | 3 => ∃ sl, v = SlV.v sl ∧ Rd u 1 sl ([r3.l].map IC) ∧ (∀ j, sl.fp j → w21.heap.size ≤ j)
   | 4 => v = Value.agg (Sq.C r103).toArray
   | _ => True) hmix (by kernel_rfl) (by kernel_rfl) ?_ ?_
  ·intro i v u u' hi hx hv
   match i, hv with
   | 3, ⟨b, e1, hr, hl⟩ => exact ⟨b, e1, hr.ext hx, hl⟩
   | 4, hv => exact hv
   | 0, _ => exact trivial
   | 1, _ => exact trivial
   | 2, _ => exact trivial
   | _ + 5, _ => exact trivial
  refine wm_does (fun v K => does_load_agg ag_Sq rfl (((S.ext K).blk 3).all _ (Sq.len _)) (Sq.len _)) rfl (wm_does (fun v K => does_fieldAddr fl_Nd_l rfl (o' := 2) rfl) rfl (wm_does (fun v K => does_load on_int rfl (((S.ext K).blk 2).cell (Nd.get_l _))) rfl ?_))
  refine wm_new (fun g v K G => (have ⟨sl, v', hd, hx, ho, hf⟩ := does_lits (C := IC) (l := [r3.l]) (vs := [.int .i64 r3.l]) sl_L_int el_int.zero rfl rfl (fun _ _ => rfl) (by first | decide | simp) rfl; ⟨_, v', hd, hx, sl, rfl, ho.toRd, (fun j hj => by have := hf j hj; have := K.size; omega)⟩)) rfl ?_
  refine wm_newcall (fun g v K G => (have ⟨s102, hv3, hr3, hf3⟩ := G 3 (by decide) rfl; have ⟨M, SS⟩ := (S.addS K hr3 (by simp) hf3).lend ((.z 0 rfl .nil)); ⟨_, _, does_callg ca_rule_with (cons2 rfl (cons2 hv3 rfl)), newc (rule_with_st SS er103) fun _ _ h => ⟨h.2.frame, h.1⟩⟩)) rfl (wm_does (fun v K => does_fieldAddr fl_Nd_r rfl (o' := 3) rfl) rfl (wm_does (fun v K => does_load on_int rfl (((S.ext K).blk 2).cell (Nd.get_r _))) rfl ?_))
  refine wm_nil fun g w104 K hV => ?_
  obtain ⟨s102, hv1053, hr3, hf3⟩ := hV 3 rfl (by decide)
  have hv1054 := hV 4 rfl (by decide)
  replace S := S.addZs K (.s hr3 (by simp) hf3 .nil)
  clear K hV
  obtain ⟨r106, er106, H⟩ := bind_ex H
  obtain ⟨B108, MB108, SB108, back⟩ := S.calln 0 ((.nil))
  refine wl_call (does_callg ca_rule_to (cons2 hv1054 (cons2 rfl rfl))) (by decide) (rule_to_st SB108 er106) ?_
  rintro _ w107 ⟨rfl, S2⟩
  replace S := back _ _ _ _ S2 rfl
  clear back S2 SB108
  refine wl_lits (C := Sq.C) (l := [r106]) (vs := [.agg (Sq.C r106).toArray]) sl_L_api_Seq el_Sq.zero rfl rfl (fun a _ => Sq.len a) (by decide) rfl (by decide) fun b110 w109 s111 hBw109 hw109 => ?_
  replace S := S.lit hBw109 hw109 (by simp)
  refine wd (does_as_l rfl) (wd (does_as_i rfl) (wl_nil (wc_ret ?_)))
  refine ⟨_, (rets2 (retOne_tmp rfl) (retOne_tmp rfl)), ?_⟩
  replace S := S.arr [5, 0] []
  obtain rfl := Option.some.inj H
  exact ⟨s111, rfl, S⟩
 replace H := if_f hc101 H
 refine wc_seq (wc_region (wd (does_eq rfl rfl) (wd (does_as_b rfl) (wl_nil ?_))))
 refine wc_if rfl (fun hc112 => ?_) (fun hc112 => ?_)
 ·replace H := if_t hc112 H
  refine wc_seq ?_
  refine wc_quiet 7 (Ext w21) hmix (by kernel_rfl) (by kernel_rfl) (Ext.drawn _) (wq_does (fun v K => does_load_agg ag_Sq rfl (((S.ext K).blk 3).all _ (Sq.len _)) (Sq.len _)) (wq_does (fun v K => does_fieldAddr fl_Nd_l rfl (o' := 2) rfl) (wq_does (fun v K => does_load on_int rfl (((S.ext K).blk 2).cell (Nd.get_l _))) ?_)))
  obtain ⟨r113, er113, H⟩ := bind_ex H
  refine wq_call (fun v => does_call ca_rule_to) (fun v K => (have ⟨M, SS⟩ := (S.ext K).lend ((.nil)); quiet (rule_to_st SS er113) (fun v w' h => ⟨h.1, _, _, h.2⟩))) (fun v v' K h => K.thenExt h) (wq_does (fun v K => does_load_agg ag_Sq rfl (((S.ext K).blk 3).all _ (Sq.len _)) (Sq.len _)) (wq_does (fun v K => does_fieldAddr fl_Nd_r rfl (o' := 3) rfl) (wq_does (fun v K => does_load on_int rfl (((S.ext K).blk 2).cell (Nd.get_r _))) ?_)))
  refine wq_nil fun w114 K => ?_
  replace S := S.ext K
  clear K
  obtain ⟨r115, er115, H⟩ := bind_ex H
  obtain ⟨B117, MB117, SB117, back⟩ := S.calln 0 ((.nil))
  refine wl_call (does_call ca_rule_to) (by decide) (rule_to_st SB117 er115) ?_
  rintro _ w116 ⟨rfl, S2⟩
  replace S := back _ _ _ _ S2 rfl
  clear back S2 SB117
  refine wl_lits (C := Sq.C) (l := [r113, r115]) (vs := [.agg (Sq.C r113).toArray, .agg (Sq.C r115).toArray]) sl_L_api_Seq el_Sq.zero rfl rfl (fun a _ => Sq.len a) (by decide) rfl (by decide) fun b119 w118 s120 hBw118 hw118 => ?_
  replace S := S.lit hBw118 hw118 (by simp)
  refine wd (does_as_l rfl) (wd (does_as_i rfl) (wl_nil (wc_ret ?_)))
  refine ⟨_, (rets2 (retOne_tmp rfl) (retOne_tmp rfl)), ?_⟩
  replace S := S.arr [5, 0] []
  obtain rfl := Option.some.inj H
  exact ⟨s120, rfl, S⟩
 replace H := if_f hc112 H
 refine wc_seq (wc_region (wd (does_eq rfl rfl) (wd (does_as_b rfl) (wl_nil ?_))))
 refine wc_if rfl (fun hc121 => ?_) (fun hc121 => ?_)
 ·replace H := if_t hc121 H
  refine wc_seq ?_
  obtain ⟨r123, er123, H⟩ := bind_ex H
  refine wc_semi 9 [3, 4, 8]
   (fun i v u => match i with
   | 3 => ∃ sl, v = SlV.v sl ∧ Rd u 1 sl ([r3.l].map IC) ∧ (∀ j, sl.fp j → w21.heap.size ≤ j)
   | 4 => v = Value.agg (Sq.C r123).toArray
   | 8 => ∃ sl, v = SlV.v sl ∧ Rd u 1 sl ([r3.r].map IC) ∧ (∀ j, sl.fp j → w21.heap.size ≤ j)
   | _ => True) hmix (by kernel_rfl) (by kernel_rfl) ?_ ?_
  ·intro i v u u' hi hx hv
   match i, hv with
   | 3, ⟨b, e1, hr, hl⟩ => exact ⟨b, e1, hr.ext hx, hl⟩
   | 4, hv => exact hv
   | 8, ⟨b, e1, hr, hl⟩ => exact ⟨b, e1, hr.ext hx, hl⟩
   | 0, _ => exact trivial
   | 1, _ => exact trivial
   | 2, _ => exact trivial
   | 5, _ => exact trivial
   | 6, _ => exact trivial
   | 7, _ => exact trivial
   | _ + 9, _ => exact trivial
  refine wm_does (fun v K => does_load_agg ag_Sq rfl (((S.ext K).blk 0).all _ (Sq.len _)) (Sq.len _)) rfl (wm_does (fun v K => does_fieldAddr fl_Nd_l rfl (o' := 2) rfl) rfl (wm_does (fun v K => does_load on_int rfl (((S.ext K).blk 2).cell (Nd.get_l _))) rfl ?_))
  refine wm_new (fun g v K G => (have ⟨sl, v', hd, hx, ho, hf⟩ := does_lits (C := IC) (l := [r3.l]) (vs := [.int .i64 r3.l]) sl_L_int el_int.zero rfl rfl (fun _ _ => rfl) (by first | decide | simp) rfl; ⟨_, v', hd, hx, sl, rfl, ho.toRd, (fun j hj => by have := hf j hj; have := K.size; omega)⟩)) rfl ?_
  refine wm_newcall (fun g v K G => (have ⟨s122, hv3, hr3, hf3⟩ := G 3 (by decide) rfl; have ⟨M, SS⟩ := (S.addS K hr3 (by simp) hf3).lend ((.z 0 rfl .nil)); ⟨_, _, does_callg ca_rule_with (cons2 rfl (cons2 hv3 rfl)), newc (rule_with_st SS er123) fun _ _ h => ⟨h.2.frame, h.1⟩⟩)) rfl (wm_does (fun v K => does_load_agg ag_Sq rfl (((S.ext K).blk 0).all _ (Sq.len _)) (Sq.len _)) rfl (wm_does (fun v K => does_fieldAddr fl_Nd_r rfl (o' := 3) rfl) rfl (wm_does (fun v K => does_load on_int rfl (((S.ext K).blk 2).cell (Nd.get_r _))) rfl ?_)))
  refine wm_new (fun g v K G => (have ⟨sl, v', hd, hx, ho, hf⟩ := does_lits (C := IC) (l := [r3.r]) (vs := [.int .i64 r3.r]) sl_L_int el_int.zero rfl rfl (fun _ _ => rfl) (by first | decide | simp) rfl; ⟨_, v', hd, hx, sl, rfl, ho.toRd, (fun j hj => by have := hf j hj; have := K.size; omega)⟩)) rfl ?_
  refine wm_nil fun g w125 K hV => ?_
  obtain ⟨s122, hv1263, hr3, hf3⟩ := hV 3 rfl (by decide)
  have hv1264 := hV 4 rfl (by decide)
  obtain ⟨s124, hv1268, hr8, hf8⟩ := hV 8 rfl (by decide)
  replace S := S.addZs K (.s hr3 (by simp) hf3 (.s hr8 (by simp) hf8 .nil))
  clear K hV
  obtain ⟨r127, er127, H⟩ := bind_ex H
  obtain ⟨B129, MB129, SB129, back⟩ := S.calln 0 ((.z 1 rfl .nil))
  refine wl_call (does_callg ca_rule_with (cons2 rfl (cons2 hv1268 rfl))) (by decide) (rule_with_st SB129 er127) ?_
  rintro _ w128 ⟨rfl, S2⟩
  replace S := back _ _ _ _ S2 rfl
  clear back S2 SB129
  refine wl_lits (C := Sq.C) (l := [r123, r127]) (vs := [.agg (Sq.C r123).toArray, .agg (Sq.C r127).toArray]) sl_L_api_Seq el_Sq.zero (consP hv1264 (consP rfl rfl)) rfl (fun a _ => Sq.len a) (by decide) rfl (by decide) fun b131 w130 s132 hBw130 hw130 => ?_
  replace S := S.lit hBw130 hw130 (by simp)
  refine wd (does_as_l rfl) (wd (does_as_i rfl) (wl_nil (wc_ret ?_)))
  refine ⟨_, (rets2 (retOne_tmp rfl) (retOne_tmp rfl)), ?_⟩
  replace S := S.arr [5, 0] []
  obtain rfl := Option.some.inj H
  exact ⟨s132, rfl, S⟩
 replace H := if_f hc121 H
 refine wc_seq (wc_region (wd (does_eq rfl rfl) (wd (does_as_b rfl) (wl_nil ?_))))
 refine wc_if rfl (fun hc133 => ?_) (fun hc133 => ?_)
 ·replace H := if_t hc133 H
  refine wc_seq (wc_region (wd (does_load_agg ag_Sq rfl ((S.blk 3).all _ (Sq.len _)) (Sq.len _)) (wd (does_fieldAddr fl_Nd_l rfl (o' := 2) rfl) (wd (does_load on_int rfl ((S.blk 2).cell (Nd.get_l _))) ?_))))
  obtain ⟨r134, er134, H⟩ := bind_ex H
  obtain ⟨B136, MB136, SB136, back⟩ := S.calln 0 ((.nil))
  refine wl_call (does_call ca_rule_to) (by decide) (rule_to_st SB136 er134) ?_
  rintro _ w135 ⟨rfl, S2⟩
  replace S := back _ _ _ _ S2 rfl
  clear back S2 SB136
  refine wl_lits (C := Sq.C) (l := [r134]) (vs := [.agg (Sq.C r134).toArray]) sl_L_api_Seq el_Sq.zero rfl rfl (fun a _ => Sq.len a) (by decide) rfl (by decide) fun b138 w137 s139 hBw137 hw137 => ?_
  replace S := S.lit hBw137 hw137 (by simp)
  refine wd (does_as_l rfl) (wd (does_as_i rfl) (wl_nil (wc_ret ?_)))
  refine ⟨_, (rets2 (retOne_tmp rfl) (retOne_tmp rfl)), ?_⟩
  replace S := S.arr [5, 0] []
  obtain rfl := Option.some.inj H
  exact ⟨s139, rfl, S⟩
 replace H := if_f hc133 H
 refine wc_seq (wc_region (wd (does_eq rfl rfl) (wd (does_as_b rfl) (wl_nil ?_))))
 refine wc_if rfl (fun hc140 => ?_) (fun hc140 => ?_)
 ·replace H := if_t hc140 H
  refine wc_seq (wc_region (wd (does_load_agg ag_Sq rfl ((S.blk 3).all _ (Sq.len _)) (Sq.len _)) (wd (does_fieldAddr fl_Nd_r rfl (o' := 3) rfl) (wd (does_load on_int rfl ((S.blk 2).cell (Nd.get_r _))) ?_))))
  obtain ⟨r141, er141, H⟩ := bind_ex H
  obtain ⟨B143, MB143, SB143, back⟩ := S.calln 0 ((.nil))
  refine wl_call (does_call ca_rule_to) (by decide) (rule_to_st SB143 er141) ?_
  rintro _ w142 ⟨rfl, S2⟩
  replace S := back _ _ _ _ S2 rfl
  clear back S2 SB143
  refine wl_lits (C := Sq.C) (l := [r141]) (vs := [.agg (Sq.C r141).toArray]) sl_L_api_Seq el_Sq.zero rfl rfl (fun a _ => Sq.len a) (by decide) rfl (by decide) fun b145 w144 s146 hBw144 hw144 => ?_
  replace S := S.lit hBw144 hw144 (by simp)
  refine wd (does_as_l rfl) (wd (does_as_i rfl) (wl_nil (wc_ret ?_)))
  refine ⟨_, (rets2 (retOne_tmp rfl) (retOne_tmp rfl)), ?_⟩
  replace S := S.arr [5, 0] []
  obtain rfl := Option.some.inj H
  exact ⟨s146, rfl, S⟩
 replace H := if_f hc140 H
 refine wc_seq (wc_region (wd (does_eq rfl rfl) (wd (does_as_b rfl) (wl_nil ?_))))
 refine wc_if rfl (fun hc147 => ?_) (fun hc147 => ?_)
 ·replace H := if_t hc147 H
  refine wc_seq (wc_region (wd (does_mv_p rfl) (wd (does_fieldAddr fl_Nd_r rfl (o' := 3) rfl) (wd (does_load on_int rfl ((S.blk 1).cell (Nd.get_r _))) (wd (does_fieldAddr fl_Nd_r rfl (o' := 3) rfl) (wd (does_load on_int rfl ((S.blk 2).cell (Nd.get_r _))) ?_))))))
  obtain ⟨r148, er148, H⟩ := bind_ex H
  obtain ⟨B150, MB150, SB150, back⟩ := S.sub [] [] [oB b16 T_Sq (Sq.C ({ a1 with left := r18 })), oB b13 T_Nd (Nd.C r9), oB b7 T_Nd (Nd.C r3), oB b2 T_Sq (Sq.C a1), oT a_0 a0]
  refine wl_call (does_call ca_rule_pair) (by decide) (rule_pair_st SB150 er148) ?_
  rintro _ w149 ⟨b151, b152, rfl, hnww149, S2⟩
  replace S := back _ _ _ _ _ S2 rfl rfl
  clear back S2 SB150
  refine wl_lits (C := FC) (l := [FnV.mk (.func F_rule_pair_1) #[] #[.pointer (some ⟨b151, 0, none⟩), .pointer (some ⟨b152, 0, none⟩)]]) (vs := [.func (.func F_rule_pair_1) #[] #[.pointer (some ⟨b151, 0, none⟩), .pointer (some ⟨b152, 0, none⟩)]]) sl_L_func_L_int_int_int el_func_L_int_int_int.zero rfl rfl (fun _ _ => rfl) (by decide) rfl (by decide) fun b154 w153 s155 hBw153 hw153 => ?_
  replace S := S.lit hBw153 hw153 (by simp)
  obtain ⟨r156, er156, H⟩ := bind_ex H
  replace S := S.front 5
  obtain ⟨B158, MB158, SB158, back⟩ := S.calln 1 ((.s 0 rfl (.z 0 rfl (.z 1 rfl .nil))))
  refine wl_call (does_call ca_rule_imps) (by decide) (rule_imps__rule_pair_1_st SB158 er156) ?_
  rintro _ w157 ⟨s159, rfl, S2⟩
  replace S := back _ _ _ _ S2 rfl
  clear back S2 SB158
  refine wd (does_mv_t rfl) (wd (does_extract rfl rfl) (wd (does_extract rfl rfl) (wd (does_as_l rfl) (wd (does_as_i rfl) (wl_nil (wc_seq (wc_seq (wc_region (wd (does_mv_i rfl) (wd (does_ne rfl rfl) (wl_nil ?_)))))))))))
  refine wc_if rfl (fun hc160 => ?_) (fun hc160 => ?_)
  ·replace H := if_t hc160 H
   refine wc_seq (wc_region (wd (does_mv_i rfl) (wd (does_as_nil) (wd (does_as_i rfl) (wl_nil (wc_ret ?_))))))
   replace S := S.nil T_Sq 17 Sq.C
   refine ⟨_, (rets2 (retOne_tmp rfl) (retOne_tmp rfl)), ?_⟩
   replace S := S.arr [1, 0] []
   obtain rfl := Option.some.inj H
   exact ⟨SlV.nil, rfl, S⟩
  replace H := if_f hc160 H
  refine wc_skip (wc_seq ?_)
  obtain ⟨r161, er161, H⟩ := bind_ex H
  obtain ⟨r162, er162, H⟩ := bind_ex H
  refine wc_semi 10 [9]
   (fun i v u => match i with
   | 9 => ∃ sl, v = SlV.v sl ∧ Rd u 1 sl ([r3.r].map IC) ∧ (∀ j, sl.fp j → w157.heap.size ≤ j)
   | _ => True) hmix (by kernel_rfl) (by kernel_rfl) ?_ ?_
  ·intro i v u u' hi hx hv
   match i, hv with
   | 9, ⟨b, e1, hr, hl⟩ => exact ⟨b, e1, hr.ext hx, hl⟩
   | 0, _ => exact trivial
   | 1, _ => exact trivial
   | 2, _ => exact trivial
   | 3, _ => exact trivial
   | 4, _ => exact trivial
   | 5, _ => exact trivial
   | 6, _ => exact trivial
   | 7, _ => exact trivial
   | 8, _ => exact trivial
   | _ + 10, _ => exact trivial
  refine wm_does (fun v K => does_load_agg ag_Sq rfl (((S.ext K).blk 3).all _ (Sq.len _)) (Sq.len _)) rfl (wm_does (fun v K => does_mv_l rfl) rfl ?_)
  refine wm_call (fun v => does_call ca_rule_with) (fun v K => (have ⟨M, SS⟩ := (S.ext K).lend ((.s 1 rfl .nil)); quiet (rule_with_st SS er161) (fun v w' h => ⟨h.1, _, _, h.2⟩))) rfl (wm_does (fun v K => does_fieldAddr fl_Nd_l rfl (o' := 2) rfl) rfl (wm_does (fun v K => does_load on_int rfl (((S.ext K).blk 5).cell (Nd.get_l _))) rfl ?_))
  refine wm_call (fun v => does_call ca_rule_to) (fun v K => (have ⟨M, SS⟩ := (S.ext K).lend ((.nil)); quiet (rule_to_st SS er162) (fun v w' h => ⟨h.1, _, _, h.2⟩))) rfl (wm_does (fun v K => does_load_agg ag_Sq rfl (((S.ext K).blk 3).all _ (Sq.len _)) (Sq.len _)) rfl (wm_does (fun v K => does_fieldAddr fl_Nd_r rfl (o' := 3) rfl) rfl (wm_does (fun v K => does_load on_int rfl (((S.ext K).blk 5).cell (Nd.get_r _))) rfl ?_)))
  refine wm_new (fun g v K G => (have ⟨sl, v', hd, hx, ho, hf⟩ := does_lits (C := IC) (l := [r3.r]) (vs := [.int .i64 r3.r]) sl_L_int el_int.zero rfl rfl (fun _ _ => rfl) (by first | decide | simp) rfl; ⟨_, v', hd, hx, sl, rfl, ho.toRd, (fun j hj => by have := hf j hj; have := K.size; omega)⟩)) rfl ?_
  refine wm_nil fun g w164 K hV => ?_
  obtain ⟨s163, hv1659, hr9, hf9⟩ := hV 9 rfl (by decide)
  replace S := S.addZs K (.s hr9 (by simp) hf9 .nil)
  clear K hV
  obtain ⟨r166, er166, H⟩ := bind_ex H
  obtain ⟨B168, MB168, SB168, back⟩ := S.calln 0 ((.z 0 rfl .nil))
  refine wl_call (does_callg ca_rule_with (cons2 rfl (cons2 hv1659 rfl))) (by decide) (rule_with_st SB168 er166) ?_
  rintro _ w167 ⟨rfl, S2⟩
  replace S := back _ _ _ _ S2 rfl
  clear back S2 SB168
  refine wl_lits (C := Sq.C) (l := [r162, r166]) (vs := [.agg (Sq.C r162).toArray, .agg (Sq.C r166).toArray]) sl_L_api_Seq el_Sq.zero rfl rfl (fun a _ => Sq.len a) (by decide) rfl (by decide) fun b170 w169 s171 hBw169 hw169 => ?_
  replace S := S.lit hBw169 hw169 (by simp)
  refine wd (does_as_l rfl) (wd (does_as_i rfl) (wl_nil (wc_ret ?_)))
  refine ⟨_, (rets2 (retOne_tmp rfl) (retOne_tmp rfl)), ?_⟩
  replace S := S.arr [1, 0] []
  obtain rfl := Option.some.inj H
  exact ⟨s171, rfl, S⟩
 replace H := if_f hc147 H
 refine wc_skip (wc_seq (wc_region (wd (does_as_nil) (wd (does_as_i rfl) (wl_nil (wc_ret ?_))))))
 replace S := S.nil T_Sq 17 Sq.C
 refine ⟨_, (rets2 (retOne_tmp rfl) (retOne_tmp rfl)), ?_⟩
 replace S := S.arr [5, 0] []
 obtain rfl := Option.some.inj H
 exact ⟨SlV.nil, rfl, S⟩
theorem rule_Premises_st {A : Nat → Prop} {N : Oth} {w : World} {a0 : Tb} {a_0 : Option Addr} {a1 : Sq} {a2 : Int} {a3 : Int} (S : St A N w w [oT a_0 a0] [oTz]) {r : Tb × List Sq × Int} (H : rule_Premises.f a0 a1 a2 a3 = some r) :
  Calls PP F_rule_Premises #[.pointer a_0, .agg (Sq.C a1).toArray, .int .i64 a2, .int .i64 a3] w fun e w' => ∃ v, e = .returned v ∧ (∃ so0 : SlV, v = .tuple #[so0.v, .int .i64 r.2.2] ∧ St A N w w' [oT a_0 r.1, oS T_Sq 17 Sq.C so0 r.2.1] []) := by
 unfold rule_Premises.f at H
 refine calls_of_wc (n := 43) fn_rule_Premises rfl rfl (by simp) (wc_seq (wc_region ?_))
 refine wl_box_agg rfl (by decide) fun b2 w1 hw1 => ?_
 replace S := S.new hw1
 refine wd (does_as_nil) (wd (does_as_i rfl) (wl_nil (wc_seq (wc_seq (wc_region (wd (does_mv_p rfl) (wd (does_load_agg ag_Sq rfl ((S.blk 0).all _ (Sq.len _)) (Sq.len _)) ?_)))))))
 obtain ⟨r3, er3, H⟩ := bind_ex H
 obtain ⟨B5, MB5, SB5, back⟩ := S.calln 0 ((.o 1 rfl (.z 0 rfl .nil)))
 refine wl_call (does_call ca_rule_look) (by decide) (rule_look_st SB5 er3) ?_
 rintro _ w4 ⟨rfl, S2⟩
 replace S := back _ _ _ _ S2 rfl
 clear back S2 SB5
 refine wd (does_as_i rfl) (wl_nil (wc_seq (wc_region (wd (does_mv_i rfl) (wd (does_ne rfl rfl) (wl_nil ?_))))))
 refine wc_if rfl (fun hc6 => ?_) (fun hc6 => ?_)
 ·replace H := if_t hc6 H
  refine wc_seq (wc_region (wd (does_mv_i rfl) (wd (does_as_nil) (wd (does_as_i rfl) (wl_nil (wc_ret ?_))))))
  replace S := S.nil T_Sq 17 Sq.C
  refine ⟨_, (rets2 (retOne_tmp rfl) (retOne_tmp rfl)), ?_⟩
  replace S := S.arr [2, 0] []
  obtain rfl := Option.some.inj H
  exact ⟨SlV.nil, rfl, S⟩
 replace H := if_f hc6 H
 refine wc_skip (wc_seq (wc_seq (wc_region (wd (does_mv_p rfl) (wd (does_load_agg ag_Sq rfl ((S.blk 0).all _ (Sq.len _)) (Sq.len _)) (wd (does_mv_i rfl) (wd (does_mv_i rfl) ?_)))))))
 obtain ⟨r7, er7, H⟩ := bind_ex H
 obtain ⟨B9, MB9, SB9, back⟩ := S.calln 0 ((.o 1 rfl .nil))
 refine wl_call (does_call ca_rule_fits) (by decide) (rule_fits_st SB9 er7) ?_
 rintro _ w8 ⟨rfl, S2⟩
 replace S := back _ _ _ _ S2 rfl
 clear back S2 SB9
 refine wd (does_not rfl) (wl_nil ?_)
 refine wc_if rfl (fun hc10 => ?_) (fun hc10 => ?_)
 ·replace H := if_t hc10 H
  refine wc_seq (wc_region (wd (does_as_nil) (wd (does_as_i rfl) (wl_nil (wc_ret ?_)))))
  replace S := S.nil T_Sq 17 Sq.C
  refine ⟨_, (rets2 (retOne_tmp rfl) (retOne_tmp rfl)), ?_⟩
  replace S := S.arr [2, 0] []
  obtain rfl := Option.some.inj H
  exact ⟨SlV.nil, rfl, S⟩
 replace H := if_f hc10 H
 refine wc_skip (wc_seq (wc_region (wd (does_mv_p rfl) ?_)))
 obtain ⟨r11, er11, H⟩ := bind_ex H
 obtain ⟨B13, MB13, SB13, back⟩ := S.calln 0 ((.o 1 rfl .nil))
 refine wl_call (does_call ca_formula_Table_Len) (by decide) (formula_Table_Len_st SB13 er11) ?_
 rintro _ w12 ⟨rfl, S2⟩
 replace S := back _ _ _ _ S2 rfl
 clear back S2 SB13
 refine wd (does_as_i rfl) (wl_nil (wc_seq (wc_region (wd (does_mv_p rfl) (wd (does_load_agg ag_Sq rfl ((S.blk 0).all _ (Sq.len _)) (Sq.len _)) (wd (does_mv_i rfl) (wd (does_mv_i rfl) ?_)))))))
 obtain ⟨r14, er14, H⟩ := bind_ex H
 replace S := S.front 1
 obtain ⟨B16, MB16, SB16, back⟩ := S.calln 1 ((.nil))
 refine wl_call (does_call ca_rule_premises) (by decide) (rule_premises_st SB16 er14) ?_
 rintro _ w15 ⟨s17, rfl, S2⟩
 replace S := back _ _ _ _ S2 rfl
 clear back S2 SB16
 refine wd (does_mv_t rfl) (wd (does_extract rfl rfl) (wd (does_extract rfl rfl) (wd (does_as_l rfl) (wd (does_as_i rfl) (wl_nil (wc_seq (wc_seq (wc_region (wd (does_mv_i rfl) (wd (does_ne rfl rfl) (wl_nil ?_)))))))))))
 refine wc_if rfl (fun hc18 => ?_) (fun hc18 => ?_)
 ·replace H := if_t hc18 H
  refine wc_seq (wc_region (wd (does_mv_p rfl) (wd (does_mv_i rfl) ?_)))
  obtain ⟨r19, er19, H⟩ := bind_ex H
  obtain ⟨B21, MB21, SB21, back⟩ := S.calln 1 ((.nil))
  refine wl_call (does_call ca_formula_Table_Cut) (by decide) (formula_Table_Cut_st SB21 er19) ?_
  rintro _ w20 ⟨rfl, S2⟩
  replace S := back _ _ _ _ S2 rfl
  clear back S2 SB21
  refine wl_nil (wc_seq (wc_region (wd (does_mv_i rfl) (wd (does_as_nil) (wd (does_as_i rfl) (wl_nil (wc_ret ?_)))))))
  replace S := S.nil T_Sq 17 Sq.C
  refine ⟨_, (rets2 (retOne_tmp rfl) (retOne_tmp rfl)), ?_⟩
  replace S := S.arr [1, 0] []
  obtain rfl := Option.some.inj H
  exact ⟨SlV.nil, rfl, S⟩
 replace H := if_f hc18 H
 refine wc_skip (wc_seq (wc_region (wd (does_mv_l rfl) (wd (does_as_l rfl) (wd (does_as_i rfl) (wl_nil (wc_ret ?_)))))))
 refine ⟨_, (rets2 (retOne_tmp rfl) (retOne_tmp rfl)), ?_⟩
 replace S := S.arr [0, 1] []
 obtain rfl := Option.some.inj H
 exact ⟨s17, rfl, S⟩
end Go.Proofs.YtjjkhjieegmphaaDoor
end
