/- Tables of formulas (program): a new one; one cut short; its rows. -/
import Derived.Test.YtjjkhjieegmphaaDoorStForm
namespace Go.Proofs.YtjjkhjieegmphaaDoor
open Gw Go.RowKit
set_option linter.unusedVariables false
set_option linter.unusedSimpArgs false
section
variable {A : Nat → Prop} {N : Oth} {w0 w w' : World} {L Z : List OA}
theorem Gw.Sep.fam {w : World} : ∀ {L : List OA} {U : Nat → Prop}, Sep w U L → ∃ F : Nat → Nat → Prop, (∀ k a, L[k]? = some a → a.holds w (F k) ∧ ∀ i, F k i → U i) ∧ ∀ j k i, j ≠ k → j < L.length → k < L.length → F j i → ¬ F k i
  | [], _, _ => ⟨fun _ _ => False, by simp, by simp⟩
  | a :: L, U, ⟨G, h, hG, hL⟩ => by
    obtain ⟨F, h1, h2⟩ := Sep.fam hL
    refine ⟨fun k => match k with | 0 => G | k + 1 => F k, fun k b hb => ?_, fun j k i hjk hj hk => ?_⟩
    · cases k with
      | zero => simp at hb; subst hb; exact ⟨h, hG⟩
      | succ k => have := h1 k b (by simpa using hb); exact ⟨this.1, fun i hi => (this.2 i hi).1⟩
    · have hin : ∀ k, k < L.length → ∀ i, F k i → ¬ G i := fun k hk i hi => ((h1 k _ (List.getElem?_eq_getElem hk)).2 i hi).2
      cases j with
      | zero =>
        cases k with
        | zero => exact absurd rfl hjk
        | succ k => exact fun hi q => hin k (by simpa using hk) i q hi
      | succ j =>
        cases k with
        | zero => exact fun hi q => hin j (by simpa using hj) i hi q
        | succ k => exact h2 j k i (by omega) (by simpa using hj) (by simpa using hk)
theorem Gw.Sep.of_fam {w : World} {L : List OA} {U : Nat → Prop} {F : Nat → Nat → Prop} (h1 : ∀ k a, L[k]? = some a → a.holds w (F k) ∧ ∀ i, F k i → U i) (h2 : ∀ j k i, j ≠ k → j < L.length → k < L.length → F j i → ¬ F k i) :
    ∀ (ks : List Nat) (V : Nat → Prop), ks.Nodup → (∀ k ∈ ks, k < L.length → ∀ i, F k i → V i) → Sep w V (sel L ks)
  | [], _, _, _ => trivial
  | k :: ks, V, hn, hV => by
    have hn' := List.nodup_cons.1 hn
    cases hk : L[k]? with
    | none =>
      rw [show sel L (k :: ks) = sel L ks by simp [sel, hk]]
      exact Sep.of_fam h1 h2 ks V hn'.2 fun k' hk' => hV k' (by simp [hk'])
    | some a =>
      have hkl := (List.getElem?_eq_some_iff.1 hk).1
      rw [show sel L (k :: ks) = a :: sel L ks by simp [sel, hk]]
      refine ⟨F k, (h1 k a hk).1, hV k (by simp) hkl, Sep.of_fam h1 h2 ks _ hn'.2 fun k' hk' hl i hi => ⟨hV k' (by simp [hk']) hl i hi, ?_⟩⟩
      exact h2 k' k i (fun e => hn'.1 (e ▸ hk')) hl hkl hi
/-- own pieces in another order, some dropped; frozen ones likewise -/
theorem Gw.St.arr (h : St A N w0 w L Z) (ks zs : List Nat) {L' Z' : List OA} (hk : ks.Nodup := by decide) (e : sel L ks = L' := by rfl) (ez : sel Z zs = Z' := by rfl) : St A N w0 w L' Z' := by
  subst e
  refine St.zs ?_ zs ez
  obtain ⟨U, hU, hN, hA, hL, hZ, hW⟩ := h
  obtain ⟨F, h1, h2⟩ := hL.fam
  exact ⟨U, hU, hN, hA, Sep.of_fam h1 h2 ks U hk fun k _ hl i hi => (h1 k _ (List.getElem?_eq_getElem hl)).2 i hi, hZ, hW⟩
theorem Gw.St.calln (h : St A N w0 w L Z) (n : Nat) {Zc : List OA} (hl : Lend (L.drop n) Z Zc) : ∃ B M, St B M w w (L.take n) Zc ∧ ∀ w' P' Z' L', St B M w w' P' Z' → P' ++ L.drop n = L' → St A N w0 w' L' Z :=
  h.call (L.take n) (L.drop n) hl (List.take_append_drop n L).symm
/-- what the map of a table holds -/
abbrev zipT (M : List Nd) : List (Nd × Int) := M.zipIdx.map fun q => (q.1, (q.2 : Int))
/-- the program's table, laid open -/
theorem Gw.St.openT {a : Option Addr} {M : List Nd} (h : St A N w0 w (oT a (some M) :: L) Z) : ∃ p s m, a = some ⟨p, 0, none⟩ ∧ M.length ≤ 1024 ∧ St A N w0 w (oB p T_Tab (Tab.C ⟨s, some m⟩) :: oM m ndV (Value.int .i64) (zipT M) :: oS T_Nd 4 Nd.C s M :: L) Z := by
  obtain ⟨U, hU, hN, hA, ⟨F, ⟨p, h1, ⟨s, m, b, o, mm, h2, h3, h4, hF⟩, hl⟩, hFU, hR⟩, hZ, hW⟩ := h
  refine ⟨p, s, m, h1, hl, U, hU, hN, hA, ⟨fun i => i = p, ⟨b, fun _ => Iff.rfl⟩, fun i hi => hFU i ((hF i).2 (.inl hi)), fun i => i = m, ⟨mm, fun _ => Iff.rfl⟩, fun i hi => ⟨hFU i ((hF i).2 (.inr (.inl hi))), fun q => h2 (q.symm.trans hi)⟩, s.fp, ⟨⟨o, by omega⟩, fun _ => Iff.rfl⟩, fun i hi => ⟨⟨hFU i ((hF i).2 (.inr (.inr hi))), fun q => h3 (q ▸ hi)⟩, fun q => h4 (q ▸ hi)⟩, ?_⟩, hZ, hW⟩
  exact hR.mono fun i hi => ⟨⟨⟨hi.1, fun q => hi.2 ((hF i).2 (.inl q))⟩, fun q => hi.2 ((hF i).2 (.inr (.inl q)))⟩, fun q => hi.2 ((hF i).2 (.inr (.inr q)))⟩
/-- and shut -/
theorem Gw.St.shutT {p m : Nat} {s : SlV} {M : List Nd} (h : St A N w0 w (oB p T_Tab (Tab.C ⟨s, some m⟩) :: oM m ndV (Value.int .i64) (zipT M) :: oS T_Nd 4 Nd.C s M :: L) Z) (hl : M.length ≤ 1024) {a : Option Addr} (ha : a = some ⟨p, 0, none⟩) : St A N w0 w (oT a (some M) :: L) Z := by
  obtain ⟨U, hU, hN, hA, ⟨F, h1, hF, G, h2, hG, K, h3, hK, hR⟩, hZ, hW⟩ := h
  have p1 : F p := (h1.2 p).2 rfl
  have p2 : G m := (h2.2 m).2 rfl
  refine ⟨U, hU, hN, hA, ⟨fun i => i = p ∨ i = m ∨ s.fp i, ⟨p, ha, ⟨s, m, h1.1, h3.1.1, h2.1, fun q => (hG m p2).2 (q ▸ p1), fun q => (hK p ((h3.2 p).2 q)).1.2 p1, fun q => (hK m ((h3.2 m).2 q)).2 p2, fun i => Iff.rfl⟩, hl⟩, ?_, ?_⟩, hZ, hW⟩
  · rintro i (rfl | rfl | hi)
    · exact hF _ p1
    · exact (hG _ p2).1
    · exact (hK _ ((h3.2 i).2 hi)).1.1
  · refine hR.mono fun i hi => ⟨hi.1.1.1, ?_⟩
    rintro (rfl | rfl | q)
    · exact hi.1.1.2 p1
    · exact hi.1.2 p2
    · exact hi.2 ((h3.2 i).2 q)
end
section
variable {P : Program} {rd : Option Nat} {n : Nat} {dm : List Nat} {ops : Array Oper} {Q : Post} {f : Fr} {w w' : World} {rest : List Oper} {ty : TypeId} {pos : String} {af : Array Edge} {d : Option Tmp} {gd : Option (Nat × Bool)}
theorem Gw.wd {d : Tmp} {op : Op} {v : Value} (hr : Does P ⟨some d, op, ty, pos, af, none⟩ f w v w') (h : wl P rd n dm ops rest Q (upd f d v) w') (hd : d < n := by decide) : wl P rd n dm ops (⟨some d, op, ty, pos, af, none⟩ :: rest) Q f w := wl_does hr hd h
theorem wl_val0 {op : Op} {v : Value} (hr : Does P ⟨none, op, ty, pos, af, none⟩ f w v w') (h : wl P rd n dm ops rest Q f w') : wl P rd n dm ops (⟨none, op, ty, pos, af, none⟩ :: rest) Q f w := fun a ha => by
  refine wpListIn_plain rfl fun K hK => ?_
  exact op_wp ha hr (by simp) (hK _ _ (h _ ha))
theorem wl_gon2 {op : Op} {j : Nat} {pol c t : Bool} {oj : Oper} {dj : Tmp} (hj : ops[j]? = some oj) (hdj : oj.dst = some dj) (ht : f dj = gv c (.bool t)) (hdn : dj < n) (hg : (c && (t == pol)) = true)
    (h : wl P rd n dm ops (⟨d, op, ty, pos, af, none⟩ :: rest) Q f w) : wl P rd n dm ops (⟨d, op, ty, pos, af, some (j, pol)⟩ :: rest) Q f w := fun a ha => by
  have h1 := h a ha
  simp only [wpListIn] at h1 ⊢
  rw [wanted_gv ha rfl hj hdj ht hdn, hg]
  exact h1
theorem wl_gon {op : Op} {j : Nat} {pol t : Bool} {oj : Oper} {dj : Tmp} (hj : ops[j]? = some oj) (hdj : oj.dst = some dj) (ht : f dj = .bool t) (hdn : dj < n) (hg : (t == pol) = true)
    (h : wl P rd n dm ops (⟨d, op, ty, pos, af, none⟩ :: rest) Q f w) : wl P rd n dm ops (⟨d, op, ty, pos, af, some (j, pol)⟩ :: rest) Q f w :=
  wl_gon2 (c := true) hj hdj (by rw [ht]; exact gv_t _) hdn hg h
theorem map_er {α β : Type} (g : α → β) : ∀ (l : List α) (i : Nat), (l.eraseIdx i).map g = (l.map g).eraseIdx i
  | [], _ => rfl
  | _ :: _, 0 => rfl
  | a :: l, i + 1 => by simp [map_er g l i]
theorem wl_delete0 {α β : Type} {C : α → Value} {D : β → Value} {l : List (α × β)} {m : Nat} [DecidableEq α] {t kt et at_ : Nat} {x y : Operand} {key : α} (ht : P.underlying t = some (.map kt et)) (K : KeyT P kt C) (hx : evF f x = .map (some m)) (hy : evF f y = C key) (hm : MapB w m C D l)
    (h : ∀ w', MapB w' m C D (del key l) → Chg (· = m) w w' → w'.heap.size = w.heap.size → wl P rd n dm ops rest Q f w') : wl P rd n dm ops (⟨none, .call ⟨.builtin .delete, #[x, y], #[t, at_]⟩, ty, pos, af, none⟩ :: rest) Q f w := by
  obtain ⟨es, c, hb, he⟩ := hm
  have hf := run_findKey K key es.toList l he w
  rw [del_spot] at h
  cases hs : spot key l with
  | none =>
    rw [hs] at h hf
    obtain ⟨s1, s2, s3⟩ := map_step (w := w) (m := m) (C := C) (D := D) (es := es) (c := c) (l := l) hb he
    refine wl_val0 (v := .tuple #[]) ?_ (h _ s1 s2 s3)
    simp [Does, execOp, resolve, invoke, builtin, hx, hy, Builtin.delete_, run_underlying ht, MapKept.run_getObj_map hb, K.check, hf, run_setObj_map' _ hb]
  | some i =>
    obtain ⟨v0, hv⟩ := spot_key key l i hs
    rw [hs] at h hf
    have hmod : (es.eraseIdxIfInBounds i).toList.map (fun e => (e.key, e.val)) = (l.eraseIdx i).map fun q => (C q.1, D q.2) := by
      rw [Array.toList_eraseIdxIfInBounds, map_er, he, ← map_er]
    obtain ⟨s1, s2, s3⟩ := map_step (w := w) (m := m) (C := C) (D := D) (c := c) hb hmod
    refine wl_val0 (v := .tuple #[]) ?_ (h _ s1 s2 s3)
    simp [Does, execOp, resolve, invoke, builtin, hx, hy, Builtin.delete_, run_underlying ht, MapKept.run_getObj_map hb, K.check, hf, hv, run_setObj_map' _ hb]
theorem run_eqGuard_sl (op : BinOp) (t : TypeId) (x y : Operand) (a b : Option Addr) (i j k l : Nat) : (eqGuard op t x y (.slice a i j) (.slice b k l)).run P w = .ok () w := by
  unfold eqGuard
  split <;> rfl
theorem does_isnil {t u e k : TypeId} {x y : Operand} {s : SlV} (ht : SliceT P t e k) (hx : evF f x = s.v) (hy : evF f y = .slice none 0 0) : Does P ⟨d, .binOp .eql t x y u, ty, pos, af, gd⟩ f w (.bool s.p.isNone) w := by
  rw [SlV.eq] at hx
  simp only [Does, execOp, hx, hy, Sem.run_bind, run_eqGuard_sl, Result.andThen_ok, Lib.run_eql_slice_nil w t e s.p s.n s.c 0 0 ht.1, Sem.run_pure]
theorem does_makeMap {t : TypeId} : Does P ⟨d, .makeMap t none, ty, pos, af, gd⟩ f w (.map (some w.heap.size)) (w.alloc (.map #[] 0)) := by
  simp [Does, execOp, run_makeMap]
end
section
variable {A : Nat → Prop} {N : Oth} {w : World}
def slices_Clone_api_Node_api_Node.f (l : List Nd) : Option (List Nd) := chk (decide (l.length ≤ 1000000000)) (some l)
theorem slices_Clone_api_Node_api_Node_st {l : List Nd} {s : SlV} (S : St A N w w [] [fS 4 Nd.C s l]) {r : List Nd} (H : slices_Clone_api_Node_api_Node.f l = some r) : Calls PP F_slices_Clone_api_Node_api_Node #[s.v] w fun e w' => ∃ v, e = .returned v ∧ ∃ s' : SlV, (v = s'.v ∧ St A N w w' [oS T_Nd 4 Nd.C s' r] []) := by
  obtain ⟨hl, H⟩ := chk_ex H
  obtain rfl := Option.some.inj H
  replace hl := of_decide_eq_true hl
  refine calls_of_wc (n := 8) fn_slices_Clone_api_Node_api_Node rfl rfl (by simp) ?_
  repeat (first | refine wc_seq ?_ | refine wc_region ?_ | refine wc_block ?_)
  repeat (first | refine wl_does (does_as_i rfl) (by decide) ?_ | refine wl_does (does_mv_i rfl) (by decide) ?_ | refine wl_does (does_mv_p rfl) (by decide) ?_ | refine wl_does (does_mv_l rfl) (by decide) ?_ | refine wl_does (does_as_b rfl) (by decide) ?_ | refine wl_does (does_as_nil) (by decide) ?_)
  refine wl_nil ?_
  repeat (first | refine wc_seq ?_ | refine wc_region ?_ | refine wc_block ?_)
  repeat (first | refine wl_does (does_as_i rfl) (by decide) ?_ | refine wl_does (does_mv_i rfl) (by decide) ?_ | refine wl_does (does_mv_p rfl) (by decide) ?_ | refine wl_does (does_mv_l rfl) (by decide) ?_ | refine wl_does (does_as_b rfl) (by decide) ?_ | refine wl_does (does_as_nil) (by decide) ?_)
  refine wl_does (does_isnil sl_L_api_Node rfl rfl) (by decide) ?_
  refine wl_nil ?_
  refine wc_if rfl (fun hc => ?_) (fun hc => ?_)
  · repeat (first | refine wc_seq ?_ | refine wc_region ?_ | refine wc_block ?_)
    repeat (first | refine wl_does (does_as_i rfl) (by decide) ?_ | refine wl_does (does_mv_i rfl) (by decide) ?_ | refine wl_does (does_mv_p rfl) (by decide) ?_ | refine wl_does (does_mv_l rfl) (by decide) ?_ | refine wl_does (does_as_b rfl) (by decide) ?_ | refine wl_does (does_as_nil) (by decide) ?_)
    refine wl_nil ?_
    refine wc_ret ?_
    refine ⟨_, (rets1 (retOne_tmp rfl)), SlV.nil, rfl, ?_⟩
    have hr := (S.rd 0).sl
    obtain rfl : l = [] := by
      cases l with
      | nil => rfl
      | cons a l =>
        have := (hr.cells 0 (Nd.C a) rfl).1
        rw [this] at hc; cases hc
    exact (S.zs (Z' := []) []).nil T_Nd 4 Nd.C
  · refine wc_skip ?_
    repeat (first | refine wc_seq ?_ | refine wc_region ?_ | refine wc_block ?_)
    refine wl_lits (C := Nd.C) (l := []) (vs := []) sl_L_api_Node el_Nd.zero rfl rfl (by simp) (by decide) rfl (by decide) fun b w1 s1 hB h1 => ?_
    replace S : St A N w w1 [oS T_Nd 4 Nd.C s1 []] [fS 4 Nd.C s l] := S.lit hB h1 (by simp)
    repeat (first | refine wl_does (does_as_i rfl) (by decide) ?_ | refine wl_does (does_mv_i rfl) (by decide) ?_ | refine wl_does (does_mv_p rfl) (by decide) ?_ | refine wl_does (does_mv_l rfl) (by decide) ?_ | refine wl_does (does_as_b rfl) (by decide) ?_ | refine wl_does (does_as_nil) (by decide) ?_)
    refine wl_appendm (C := Nd.C) sl_L_api_Node el_Nd rfl rfl (S.sl 0) (S.rd 0) Nd.one (by simp; omega) (by simp; omega) (by decide) fun s2 w2 O h2 g2 => ?_
    replace S : St A N w w2 [oS T_Nd 4 Nd.C s2 l] [fS 4 Nd.C s l] := S.push 0 (l' := [] ++ l) O (by simp; omega) h2 g2
    refine wl_does (does_as_l rfl) (by decide) ?_
    refine wl_nil ?_
    refine wc_ret ?_
    exact ⟨_, (rets1 (retOne_tmp rfl)), s2, rfl, S.zs (Z' := []) []⟩
def formula_New.f : Option Tb := some (some [])
theorem formula_New_st (S : St A N w w [] []) {r : Tb} (H : formula_New.f = some r) : Calls PP F_formula_New #[] w fun e w' => ∃ v, e = .returned v ∧ ∃ a : Option Addr, (v = .pointer a ∧ St A N w w' [oT a r] []) := by
  obtain rfl := Option.some.inj H
  refine calls_of_wc (n := 4) fn_formula_New rfl rfl (by simp) ?_
  repeat (first | refine wc_seq ?_ | refine wc_region ?_ | refine wc_block ?_)
  refine wl_does (does_as_p rfl) (by decide) ?_
  refine wl_nil ?_
  repeat (first | refine wc_seq ?_ | refine wc_region ?_ | refine wc_block ?_)
  refine wl_does does_makeMap (by decide) ?_
  replace S := S.nil T_Nd 4 Nd.C
  replace S : St A N w (w.alloc (.map #[] 0)) [oM w.heap.size ndV (Value.int .i64) (zipT []), oS T_Nd 4 Nd.C SlV.nil []] [] :=
    S.add (b := oM w.heap.size ndV (Value.int .i64) (zipT [])) (G := (· = w.heap.size)) (Ext.alloc _ _) ⟨⟨#[], 0, heap_alloc_new w _, rfl⟩, fun _ => Iff.rfl⟩ (fun i hi => by rw [hi]; exact Nat.le_refl _)
  refine wl_does (does_build bu_Tab (Bld.one rfl rfl (by rw [Tab.len]; decide) (Tab.set_at_ _ _) Bld.nil)) (by decide) ?_
  refine wl_box_agg rfl (by decide) fun b w2 hw2 => ?_
  replace S := S.new hw2
  refine wl_does (does_as_p rfl) (by decide) ?_
  refine wl_nil ?_
  refine wc_ret ?_
  exact ⟨_, (rets1 (retOne_tmp rfl)), _, rfl, S.shutT (by simp) rfl⟩
end
section
variable {A : Nat → Prop} {N : Oth} {w0 w w' : World} {L Z : List OA}
/-- a table that stays, seen -/
theorem Gw.St.seeT (h : St A N w0 w L Z) (k : Nat) {a : Option Addr} {M : List Nd} (e : Z[k]? = some (oT a (some M)) := by rfl) : ∃ p s m, a = some ⟨p, 0, none⟩ ∧ M.length ≤ 1024 ∧ St A N w0 w L (oB p T_Tab (Tab.C ⟨s, some m⟩) :: fS 4 Nd.C s M :: Z) := by
  have key : ∀ F, (oT a (some M)).holds w F → ∃ p s m, a = some ⟨p, 0, none⟩ ∧ Blk w p T_Tab (Tab.C ⟨s, some m⟩) ∧ Own w 0 T_Nd 4 s (M.map Nd.C) ∧ M.length ≤ 1024 ∧ F p ∧ ∀ i, s.fp i → F i := by
    rintro F ⟨p, h1, ⟨s, m, b, o, mm, h2, h3, h4, hF⟩, hl⟩
    exact ⟨p, s, m, h1, b, o, hl, (hF p).2 (.inl rfl), fun i hi => (hF i).2 (.inr (.inr hi))⟩
  obtain ⟨U, hU, hN, hA, hL, hZ, hW⟩ := h
  obtain ⟨F, hF, hFU⟩ := hZ _ (List.mem_of_getElem? e)
  obtain ⟨p, s, m, e1, e2, e3, e4, e5, e6⟩ := key F hF
  refine ⟨p, s, m, e1, e4, U, hU, hN, hA, hL, fun z hz => ?_, hW⟩
  rcases List.mem_cons.1 hz with rfl | hz
  · exact ⟨fun i => i = p, ⟨e2, fun _ => Iff.rfl⟩, fun i hi => by rw [hi]; exact hFU p e5⟩
  rcases List.mem_cons.1 hz with rfl | hz
  · exact ⟨s.fp, ⟨⟨e3.toRd, by omega⟩, fun _ => Iff.rfl⟩, fun i hi => hFU i (e6 i hi)⟩
  · exact hZ z hz
end
section
variable {A : Nat → Prop} {N : Oth} {w : World}
def formula_Table_Rows.f (t : Tb) : Option (List Nd) := some (t.getD [])
theorem formula_Table_Rows_st {a : Option Addr} {t : Tb} (S : St A N w w [] [oT a t]) {r : List Nd} (H : formula_Table_Rows.f t = some r) : Calls PP F_formula_Table_Rows #[.pointer a] w fun e w' => ∃ v, e = .returned v ∧ ∃ s' : SlV, (v = s'.v ∧ St A N w w' [oS T_Nd 4 Nd.C s' r] []) := by
  obtain rfl := Option.some.inj H
  refine calls_of_wc (n := 11) fn_formula_Table_Rows rfl rfl (by simp) ?_
  repeat (first | refine wc_seq ?_ | refine wc_region ?_ | refine wc_block ?_)
  refine wl_does (does_as_nil) (by decide) ?_
  refine wl_nil ?_
  repeat (first | refine wc_seq ?_ | refine wc_region ?_ | refine wc_block ?_)
  refine wl_does (does_mv_p rfl) (by decide) ?_
  cases t with
  | none =>
    obtain ⟨F, hF⟩ := S.frz 0 rfl
    refine wl_call (does_call ca_formula_Table_alive) (by decide) (formula_Table_alive_dead _ (oT.dead hF)) ?_
    rintro _ w1 ⟨rfl, h1⟩
    replace S := S.ext h1
    refine wl_does (does_not rfl) (by decide) ?_
    refine wl_nil ?_
    refine wc_true rfl ?_
    repeat (first | refine wc_seq ?_ | refine wc_region ?_ | refine wc_block ?_)
    repeat (first | refine wl_does (does_as_i rfl) (by decide) ?_ | refine wl_does (does_mv_i rfl) (by decide) ?_ | refine wl_does (does_mv_p rfl) (by decide) ?_ | refine wl_does (does_mv_l rfl) (by decide) ?_ | refine wl_does (does_as_b rfl) (by decide) ?_ | refine wl_does (does_as_nil) (by decide) ?_)
    refine wl_nil ?_
    refine wc_ret ?_
    exact ⟨_, (rets1 (retOne_tmp rfl)), SlV.nil, rfl, (S.zs (Z' := []) []).nil T_Nd 4 Nd.C⟩
  | some M =>
    obtain ⟨F, p, rfl, T, hN⟩ := S.frz 0 rfl
    refine wl_call (does_call ca_formula_Table_alive) (by decide) (formula_Table_alive_ok _ T) ?_
    rintro _ w1 ⟨rfl, h1⟩
    replace S := S.ext h1
    refine wl_does (does_not rfl) (by decide) ?_
    refine wl_nil ?_
    refine wc_false rfl ?_
    refine wc_skip ?_
    repeat (first | refine wc_seq ?_ | refine wc_region ?_ | refine wc_block ?_)
    obtain ⟨p', s, m, hp, _, S⟩ := S.seeT 0
    cases hp
    refine wl_does (does_mv_p rfl) (by decide) ?_
    refine wl_does (does_nilCheck rfl) (by decide) ?_
    refine wl_does (does_fieldAddr fl_Tab_rows rfl (o' := 0) rfl) (by decide) ?_
    refine wl_does (does_load on_L_api_Node rfl ((S.blkZ 0).cell (Tab.get_rows _))) (by decide) ?_
    obtain ⟨B, MB, SB, back⟩ := S.call [] [] ((.z 1 rfl .nil))
    refine wl_call (does_call ca_slices_Clone_api_Node_api_Node) (by decide) (slices_Clone_api_Node_api_Node_st (r := M) SB (by unfold slices_Clone_api_Node_api_Node.f chk; rw [if_pos (by simpa using (by omega : M.length ≤ 1000000000))])) ?_
    rintro _ w2 ⟨s2, rfl, S2⟩
    replace S := back _ _ _ _ S2 rfl
    refine wl_does (does_as_l rfl) (by decide) ?_
    refine wl_nil ?_
    refine wc_ret ?_
    exact ⟨_, (rets1 (retOne_tmp rfl)), s2, rfl, S.zs (Z' := []) []⟩

theorem del_mid {x : Nd} {v : Int} : ∀ {l r : List (Nd × Int)}, (∀ q ∈ l, q.1 ≠ x) → del x (l ++ (x, v) :: r) = l ++ r
  | [], r, _ => by unfold del; simp
  | (k, y) :: l, r, h => by
    have h1 : ¬ x = k := fun e => h (k, y) (by simp) e.symm
    rw [List.cons_append]; unfold del; rw [if_neg h1, del_mid (fun q hq => h q (by simp [hq]))]; rfl
/-- the map of a table, cut behind k rows, of which i rows are struck -/
def cutT (M : List Nd) (k i : Nat) : List (Nd × Int) := zipT (M.take k) ++ (((M.drop k).zipIdx k).map fun q => (q.1, (q.2 : Int))).drop i
theorem cutT_0 {M : List Nd} {k : Nat} (h : k ≤ M.length) : zipT M = cutT M k 0 := by
  unfold cutT zipT
  conv => lhs; rw [← List.take_append_drop k M, List.zipIdx_append]
  rw [List.map_append, List.drop_zero]; simp [Nat.min_eq_left h]
theorem cutT_end {M : List Nd} {k : Nat} : cutT M k (M.drop k).length = zipT (M.take k) := by
  unfold cutT
  rw [List.drop_eq_nil_of_le (by simp)]; simp
theorem cutT_step {M : List Nd} {k i : Nat} (nd : M.Nodup) {x : Nd} (hx : (M.drop k)[i]? = some x) : del x (cutT M k i) = cutT M k (i + 1) := by
  unfold cutT
  have hi : i < (M.drop k).length := (List.getElem?_eq_some_iff.1 hx).1
  have hx' := (List.getElem?_eq_some_iff.1 hx).2
  rw [List.drop_eq_getElem_cons (by simpa using hi)]
  simp only [List.getElem_map, List.getElem_zipIdx]
  rw [hx']
  refine del_mid fun q hq e => ?_
  obtain ⟨q', hq', rfl⟩ := List.mem_map.1 hq
  have h1 : q'.1 ∈ M.take k := by
    obtain ⟨a, b⟩ := q'
    have := List.mem_zipIdx hq'
    rw [this.2.2]; exact List.getElem_mem _
  have h2 : x ∈ M.drop k := List.mem_of_getElem? hx
  rw [← List.take_append_drop k M, List.nodup_append] at nd
  exact nd.2.2 _ h1 _ h2 e
def formula_Table_Cut.f (t : Tb) (k : Int) : Option (Tb × Int) := match t with
  | none => some (none, 1)
  | some M => if (decide (k < 0) || decide ((M.length : Int) < k)) = true then some (some M, 2) else chk (decide M.Nodup) (some (some (M.take k.toNat), 0))
theorem formula_Table_Cut_st {a : Option Addr} {t : Tb} {k : Int} (S : St A N w w [oT a t] []) {r : Tb × Int} (H : formula_Table_Cut.f t k = some r) : Calls PP F_formula_Table_Cut #[.pointer a, .int .i64 k] w fun e w' => ∃ v, e = .returned v ∧ (v = .int .i64 r.2 ∧ St A N w w' [oT a r.1] []) := by
  refine calls_of_wc (n := 49) fn_formula_Table_Cut rfl rfl (by simp) ?_
  repeat (first | refine wc_seq ?_ | refine wc_region ?_ | refine wc_block ?_)
  refine wl_does (does_as_i rfl) (by decide) ?_
  refine wl_nil ?_
  repeat (first | refine wc_seq ?_ | refine wc_region ?_ | refine wc_block ?_)
  refine wl_does (does_mv_p rfl) (by decide) ?_
  cases t with
  | none =>
    obtain ⟨F, hF⟩ := S.own 0 rfl
    refine wl_call (does_call ca_formula_Table_alive) (by decide) (formula_Table_alive_dead _ (oT.dead hF)) ?_
    rintro _ w1 ⟨rfl, h1⟩
    replace S := S.ext h1
    refine wl_does (does_not rfl) (by decide) ?_
    refine wl_does (does_as_b rfl) (by decide) ?_
    refine wl_nil ?_
    refine wc_true rfl ?_
    repeat (first | refine wc_seq ?_ | refine wc_region ?_ | refine wc_block ?_)
    refine wl_does (does_as_i rfl) (by decide) ?_
    refine wl_nil ?_
    refine wc_ret ?_
    obtain rfl := Option.some.inj H
    exact ⟨_, (rets1 (retOne_tmp rfl)), rfl, S⟩
  | some M =>
    obtain ⟨F, p, rfl, T, hN⟩ := S.own 0 rfl
    refine wl_call (does_call ca_formula_Table_alive) (by decide) (formula_Table_alive_ok _ T) ?_
    rintro _ w1 ⟨rfl, h1⟩
    replace S := S.ext h1
    refine wl_does (does_not rfl) (by decide) ?_
    refine wl_does (does_as_b rfl) (by decide) ?_
    refine wl_nil ?_
    refine wc_false rfl ?_
    obtain ⟨p', s, m, hp, _, S⟩ := S.openT
    cases hp
    repeat (first | refine wc_seq ?_ | refine wc_region ?_ | refine wc_block ?_)
    refine wl_does (does_mv_i rfl) (by decide) ?_
    refine wl_does (does_lt rfl rfl) (by decide) ?_
    refine wl_does (does_mv_b rfl) (by decide) ?_
    refine wl_guard (j := 2) (pol := false) rfl rfl rfl (by decide) (fun hg => does_mv_i rfl) (by decide) ?_
    refine wl_guard (j := 2) (pol := false) rfl rfl rfl (by decide) (fun hg => does_mv_p rfl) (by decide) ?_
    refine wl_guard (j := 2) (pol := false) rfl rfl rfl (by decide) (fun hg => does_nilCheck (gv_yes hg)) (by decide) ?_
    refine wl_guard (j := 2) (pol := false) rfl rfl rfl (by decide) (fun hg => does_fieldAddr fl_Tab_rows (gv_yes hg) (o' := 0) rfl) (by decide) ?_
    refine wl_guard (j := 2) (pol := false) rfl rfl rfl (by decide) (fun hg => does_load on_L_api_Node (gv_yes hg) ((S.blk 0).cell (Tab.get_rows _))) (by decide) ?_
    refine wl_guard (j := 2) (pol := false) rfl rfl rfl (by decide) (fun hg => does_lenR sl_L_api_Node (gv_yes hg) (S.sl 2).toRd) (by decide) ?_
    refine wl_guard (j := 2) (pol := false) rfl rfl rfl (by decide) (fun hg => does_gt (gv_yes hg) (gv_yes hg)) (by decide) ?_
    refine wl_does (does_or rfl (fun hp => (gv_yes (and_1 hp)))) (by decide) ?_
    refine wl_does (does_as_b rfl) (by decide) ?_
    refine wl_nil ?_
    dsimp only [formula_Table_Cut.f] at H
    refine wc_if rfl (fun hc => ?_) (fun hc => ?_)
    · rw [if_pos hc] at H
      repeat (first | refine wc_seq ?_ | refine wc_region ?_ | refine wc_block ?_)
      refine wl_does (does_as_i rfl) (by decide) ?_
      refine wl_nil ?_
      refine wc_ret ?_
      obtain rfl := Option.some.inj H
      exact ⟨_, (rets1 (retOne_tmp rfl)), rfl, S.shutT hN rfl⟩
    replace H : chk (decide M.Nodup) (some (some (M.take k.toNat), 0)) = some r := by simpa [hc] using H
    obtain ⟨nd, H⟩ := chk_ex H
    obtain rfl := Option.some.inj H
    clear H
    replace nd : M.Nodup := of_decide_eq_true nd
    simp only [Bool.or_eq_false_iff, decide_eq_false_iff_not] at hc
    have hk : 0 ≤ k ∧ k ≤ M.length := by omega
    refine wc_skip ?_
    repeat (first | refine wc_seq ?_ | refine wc_region ?_ | refine wc_block ?_)
    refine wl_does (does_mv_p rfl) (by decide) ?_
    refine wl_does (does_nilCheck rfl) (by decide) ?_
    refine wl_does (does_fieldAddr fl_Tab_rows rfl (o' := 0) rfl) (by decide) ?_
    refine wl_does (does_load on_L_api_Node rfl ((S.blk 0).cell (Tab.get_rows _))) (by decide) ?_
    refine wl_does (does_mv_i rfl) (by decide) ?_
    refine wl_does (does_suf sl_L_api_Node rfl rfl (S.sl 2).toRd hk) (by decide) ?_
    refine wl_does (does_lenR sl_L_api_Node rfl ((S.sl 2).toRd.suf hk).1) (by decide) ?_
    refine wl_does (does_mv_i rfl) (by decide) ?_
    refine wl_nil ?_
    rw [cutT_0 (M := M) (k := k.toNat) (by omega)] at S
    clear h1
    refine wc_cutq [6, 30, 31, 32, 33, 34, 35, 36, 37, 38, 39] (fun fr W => St A N w W [oB p T_Tab (Tab.C ⟨s, some m⟩), oM m ndV (Value.int .i64) (cutT M k.toNat (M.drop k.toNat).length), oS T_Nd 4 Nd.C s M] []) ?_ ?_
    · refine wc_block ?_
      refine wc_loopm (α := Nat) [6, 30, 31, 32, 33, 34, 35, 36, 37, 38, 39] (fun i fr W => i ≤ (M.drop k.toNat).length ∧ fr 30 = .int .i64 i ∧ St A N w W [oB p T_Tab (Tab.C ⟨s, some m⟩), oM m ndV (Value.int .i64) (cutT M k.toNat i), oS T_Nd 4 Nd.C s M] []) (fun i => (M.drop k.toNat).length - i) 0 ⟨Nat.zero_le _, rfl, S⟩ ?_
      rintro i g u ⟨hi, q, S⟩
      try dsimp only at q
      repeat (first | refine wc_seq ?_ | refine wc_region ?_ | refine wc_block ?_)
      refine wl_does (does_lt q rfl) (by decide) ?_
      refine wl_nil ?_
      repeat (first | refine wc_seq ?_ | refine wc_region ?_ | refine wc_block ?_)
      refine wc_if rfl (fun hc => ?_) (fun hc => ?_)
      rotate_left
      · refine wc_exit ?_
        have hge : ¬ ((i : Int) < ((M.drop k.toNat).length : Int)) := of_decide_eq_false hc
        obtain rfl : i = (M.drop k.toNat).length := by omega
        exact ⟨rfl, by repeat (first | exact Dif.self _ _ _ | exact Dif.refl _ _ | refine Dif.upd ?_ rfl _), S⟩
      refine wc_skip ?_
      have hlt : i < (M.drop k.toNat).length := by simpa using hc
      have hd : (M.drop k.toNat).length ≤ 1024 := by simp; omega
      have hrd := ((S.sl 2).toRd.suf hk).1
      obtain ⟨x, hx⟩ : ∃ x, (M.drop k.toNat)[i]? = some x := ⟨_, List.getElem?_eq_getElem hlt⟩
      repeat (first | refine wc_seq ?_ | refine wc_region ?_ | refine wc_block ?_)
      refine wl_does (does_indexR sl_L_api_Node rfl q hrd (by omega) (by omega)) (by decide) ?_
      refine wl_does (does_load_agg ag_Nd rfl (hrd.at (show (M.drop k.toNat)[Int.toNat (i : Int)]? = some x from hx)) (Nd.len _)) (by decide) ?_
      refine wl_alloc ze_Nd (by decide) fun b2 w2 hw2 => ?_
      replace S := S.new hw2
      refine wl_store_agg ag_Nd rfl rfl (S.blk 0) (Nd.len _) (by rw [Nd.len]; decide) (Nd.one _) (store_all (Nd.len _)) fun w3 B3 hw3 zw3 => ?_
      replace S : St A N w w3 [oB b2 T_Nd (Nd.C x), oB p T_Tab (Tab.C ⟨s, some m⟩), oM m ndV (Value.int .i64) (cutT M k.toNat i), oS T_Nd 4 Nd.C s M] [] := S.store 0 B3 hw3
      refine wl_nil ?_
      refine wc_quiet 5 (Ext w3) hmix (by kernel_rfl) (by kernel_rfl) (Ext.drawn _) ?_
      refine wq_does (fun v K => does_mv_p rfl) ?_
      refine wq_does (fun v K => does_nilCheck rfl) ?_
      refine wq_does (fun v K => does_fieldAddr fl_Tab_at_ rfl (o' := 1) rfl) ?_
      refine wq_does (fun v K => does_load on_M_api_Node_int rfl (((S.ext K).blk 1).cell (Tab.get_at_ _))) ?_
      refine wq_does (fun v K => does_load_agg ag_Nd rfl (((S.ext K).blk 0).all _ (Nd.len _)) (Nd.len _)) ?_
      refine wq_nil fun w4 K => ?_
      replace S := S.ext K
      refine wl_delete0 (C := fun x : Nd => .agg (Nd.C x).toArray) (key := x) un_M_api_Node_int key_Nd rfl rfl (S.map 2) fun w5 B5 h5 z5 => ?_
      rw [cutT_step nd hx] at B5
      replace S : St A N w w5 [oM m ndV (Value.int .i64) (cutT M k.toNat (i + 1)), oB b2 T_Nd (Nd.C x), oB p T_Tab (Tab.C ⟨s, some m⟩), oS T_Nd 4 Nd.C s M] [] := S.mapSet 2 ⟨B5, h5, z5⟩
      replace S : St A N w w5 [oM m ndV (Value.int .i64) (cutT M k.toNat (i + 1)), oB p T_Tab (Tab.C ⟨s, some m⟩), oS T_Nd 4 Nd.C s M] [] := S.drop 1
      replace S : St A N w w5 [oB p T_Tab (Tab.C ⟨s, some m⟩), oM m ndV (Value.int .i64) (cutT M k.toNat (i + 1)), oS T_Nd 4 Nd.C s M] [] := S.front 1
      refine wl_nil ?_
      repeat (first | refine wc_seq ?_ | refine wc_region ?_ | refine wc_block ?_)
      refine wl_does (does_addc q rfl (c := (i : Int) + 1) rfl (by omega) (by omega)) (by decide) ?_
      refine wl_does (does_mv_i rfl) (by decide) ?_
      refine wl_nil ?_
      exact ⟨rfl, by repeat (first | exact Dif.self _ _ _ | exact Dif.refl _ _ | refine Dif.upd ?_ rfl _), i + 1, ⟨by omega, rfl, S⟩, by omega⟩
    · rintro g u S
      rw [cutT_end] at S
      repeat (first | refine wc_seq ?_ | refine wc_region ?_ | refine wc_block ?_)
      refine wl_does (does_mv_p rfl) (by decide) ?_
      refine wl_does (does_mv_p rfl) (by decide) ?_
      refine wl_does (does_nilCheck rfl) (by decide) ?_
      refine wl_does (does_fieldAddr fl_Tab_rows rfl (o' := 0) rfl) (by decide) ?_
      refine wl_does (does_load on_L_api_Node rfl ((S.blk 0).cell (Tab.get_rows _))) (by decide) ?_
      refine wl_does (does_mv_i rfl) (by decide) ?_
      refine wl_does (does_pre sl_L_api_Node rfl rfl (S.sl 2) hk) (by decide) ?_
      refine wl_does (does_nilCheck rfl) (by decide) ?_
      refine wl_does (does_fieldAddr fl_Tab_rows rfl (o' := 0) rfl) (by decide) ?_
      refine wl_store on_L_api_Node rfl rfl (S.blk 0) (by rw [Tab.len]; decide) (SlV.one _ _ rfl) (Tab.set_rows _ _) fun w5 B h5 z5 => ?_
      replace S : St A N w w5 [oB p T_Tab (Tab.C ⟨⟨s.p, k.toNat, s.c⟩, some m⟩), oM m ndV (Value.int .i64) (zipT (M.take k.toNat)), oS T_Nd 4 Nd.C s M] [] := S.store 0 B h5
      replace S : St A N w w5 [oS T_Nd 4 Nd.C ⟨s.p, k.toNat, s.c⟩ (M.take k.toNat), oB p T_Tab (Tab.C ⟨⟨s.p, k.toNat, s.c⟩, some m⟩), oM m ndV (Value.int .i64) (zipT (M.take k.toNat))] [] := S.push 2 (s := s) (l := M) (l' := M.take k.toNat) ((S.sl 2).preL hk ((S.sl 2).clip hk) (Nat.le_refl _)) (by simp; omega) (Chg.refl _ _) (fun i hi => .inl hi)
      replace S : St A N w w5 [oM m ndV (Value.int .i64) (zipT (M.take k.toNat)), oS T_Nd 4 Nd.C ⟨s.p, k.toNat, s.c⟩ (M.take k.toNat), oB p T_Tab (Tab.C ⟨⟨s.p, k.toNat, s.c⟩, some m⟩)] [] := S.front 2
      replace S : St A N w w5 [oB p T_Tab (Tab.C ⟨⟨s.p, k.toNat, s.c⟩, some m⟩), oM m ndV (Value.int .i64) (zipT (M.take k.toNat)), oS T_Nd 4 Nd.C ⟨s.p, k.toNat, s.c⟩ (M.take k.toNat)] [] := S.front 2
      refine wl_nil ?_
      repeat (first | refine wc_seq ?_ | refine wc_region ?_ | refine wc_block ?_)
      refine wl_does (does_as_i rfl) (by decide) ?_
      refine wl_nil ?_
      refine wc_ret ?_
      exact ⟨_, (rets1 (retOne_tmp rfl)), rfl, S.shutT (by simp; omega) rfl⟩
end
section
variable {A : Nat → Prop} {N : Oth} {w0 w : World} {L Z : List OA}
/-- a struct that nobody filled is a table that no call made -/
theorem Gw.St.zeroT {p : Nat} (h : St A N w0 w (oB p T_Tab (Tab.C Tab.z) :: L) Z) : St A N w0 w (oT (some ⟨p, 0, none⟩) none :: L) Z := by
  obtain ⟨U, hU, hN, hA, ⟨F, h1, hF, hR⟩, hZ, hW⟩ := h
  exact ⟨U, hU, hN, hA, ⟨F, .inr ⟨p, rfl, h1.1, h1.2⟩, hF, hR⟩, hZ, hW⟩
theorem Gw.St.newS {M : Oth} {e k : Nat} {α : Type} {C : α → List Value} {s : SlV} {l : List α} (h : St (fun _ => False) M w0 w (oS e k C s l :: L) Z) : (Rd w k s (l.map C) ∧ l.length ≤ 140737488355328) ∧ ∀ i, s.fp i → w0.heap.size ≤ i := by
  obtain ⟨U, hU, _, _, ⟨F, h1, hF, _⟩, _⟩ := h
  exact ⟨⟨h1.1.1.toRd, h1.1.2⟩, fun i hi => (hU i (hF i ((h1.2 i).2 hi))).1.elim (fun x => x.elim) id⟩
theorem Gw.St.nil_oT (h : St A N w0 w L Z) : St A N w0 w (oT none none :: L) Z := h.add (b := oT none none) (Ext.refl w) (oT.nil w) (fun _ x => x.elim)
theorem Gw.St.nil_oR (h : St A N w0 w L Z) : St A N w0 w (oR none none :: L) Z := h.add (b := oR none none) (Ext.refl w) (oR.nil w) (fun _ x => x.elim)
theorem Gw.St.nil_oTZ (h : St A N w0 w L Z) : St A N w0 w L (oT none none :: Z) := h.say (b := oT none none) (oT.nil w)
theorem Gw.St.nil_oRZ (h : St A N w0 w L Z) : St A N w0 w L (oR none none :: Z) := h.say (b := oR none none) (oR.nil w)
end
end Go.Proofs.YtjjkhjieegmphaaDoor
