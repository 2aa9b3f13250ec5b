/- Tables of formulas (program): what a table is in memory; what only reads. -/
import Derived.Test.YtjjkhjieegmphaaDoorForm1
namespace Go.Proofs.YtjjkhjieegmphaaDoor
open Gw Go.RowKit
set_option linter.unusedVariables false
set_option linter.unusedSimpArgs false

/-- a number is a row's -/
def hasRow (N : List Nd) (i : Int) : Bool := decide (0 ≤ i) && decide (i < N.length)
/-- a row, if there is one -/
def nodeS (N : List Nd) (i : Int) : Nd × Bool := if hasRow N i = true then (N.getD i.toNat Nd.z, true) else (Nd.z, false)
theorem row_of {N : List Nd} {i : Int} (h : hasRow N i = true) : 0 ≤ i ∧ i < N.length ∧ ∃ a, N[i.toNat]? = some a := by
  simp only [hasRow, Bool.and_eq_true, decide_eq_true_eq] at h
  exact ⟨h.1, h.2, _, List.getElem?_eq_getElem (by omega)⟩
theorem node_no {N : List Nd} {i : Int} (h : hasRow N i = false) : nodeS N i = (Nd.z, false) := by rw [nodeS, h]; rfl
theorem node_yes {N : List Nd} {i : Int} {a : Nd} (h : hasRow N i = true) (ha : N[i.toNat]? = some a) : nodeS N i = (a, true) := by rw [nodeS, if_pos h, List.getD_eq_getElem?_getD, ha]; rfl
/-- what a new row is refused for; 0: nothing -/
def fitsS (N : List Nd) (n : Nd) : Int :=
  if n.kind = 1 then (if ¬ n.l = 0 ∨ ¬ n.r = 0 then 31 else if isWord n.name then 0 else 32)
  else if n.kind = 2 then (if n = { Nd.z with kind := 2 } then 0 else 31)
  else if n.kind = 3 ∨ n.kind = 4 ∨ n.kind = 5 then (if (¬ n.name = ⟨#[]⟩ ∨ hasRow N n.l = false) ∨ hasRow N n.r = false then 31 else 0)
  else 31
/-- a row is put: the rows behind it, its number, the error -/
def putS (N : List Nd) (n : Nd) : List Nd × Int × Int :=
  if fitsS N n = 0 then (match N.idxOf? n with
    | some k => (N, (k : Int), 0)
    | none => if 1024 ≤ N.length then (N, 0, 30) else (N ++ [n], (N.length : Int), 0))
  else (N, 0, fitsS N n)
theorem put_bad {N : List Nd} {n : Nd} (h : ¬ fitsS N n = 0) : putS N n = (N, 0, fitsS N n) := by rw [putS, if_neg h]
theorem put_old {N : List Nd} {n : Nd} {k : Nat} (h : fitsS N n = 0) (hk : N.idxOf? n = some k) : putS N n = (N, (k : Int), 0) := by rw [putS, if_pos h, hk]
theorem put_full {N : List Nd} {n : Nd} (h : fitsS N n = 0) (hk : N.idxOf? n = none) (hl : 1024 ≤ N.length) : putS N n = (N, 0, 30) := by rw [putS, if_pos h, hk]; exact if_pos hl
theorem put_new {N : List Nd} {n : Nd} (h : fitsS N n = 0) (hk : N.idxOf? n = none) (hl : ¬ 1024 ≤ N.length) : putS N n = (N ++ [n], (N.length : Int), 0) := by rw [putS, if_pos h, hk]; exact if_neg hl
theorem look_zip (n : Nd) : ∀ (N : List Nd) (k : Nat), Gw.look n ((N.zipIdx k).map fun q => (q.1, (q.2 : Int))) = (N.idxOf? n).map fun i => ((i + k : Nat) : Int)
  | [], k => rfl
  | a :: N, k => by
    rw [List.zipIdx_cons, List.map_cons, List.idxOf?_cons]
    unfold Gw.look
    by_cases h : n = a
    · subst h; simp
    · have h2 : (a == n) = false := by simpa using fun e => h e.symm
      rw [if_neg h, h2, look_zip n N (k + 1)]
      cases N.idxOf? n with
      | none => rfl
      | some i => simp; omega
theorem look_rows {n : Nd} {N : List Nd} : Gw.look n (N.zipIdx.map fun q => (q.1, (q.2 : Int))) = (N.idxOf? n).map fun (i : Nat) => (i : Int) := by simpa using look_zip n N 0
theorem idx_none {n : Nd} {N : List Nd} (h : (Gw.look n (N.zipIdx.map fun q => (q.1, (q.2 : Int)))).isSome = false) : N.idxOf? n = none := by
  rw [look_rows] at h
  cases hq : N.idxOf? n with
  | none => rfl
  | some k => rw [hq] at h; cases h
theorem ins_none {x : Nd} {y : Int} : ∀ (l : List (Nd × Int)), Gw.look x l = none → ins x y l = l ++ [(x, y)]
  | [], _ => rfl
  | (k, v) :: l, h => by
    unfold Gw.look at h
    unfold ins
    by_cases e : x = k
    · rw [if_pos e] at h; cases h
    · rw [if_neg e] at h ⊢; rw [ins_none l h]; rfl
theorem ins_rows {n : Nd} {N : List Nd} (h : N.idxOf? n = none) : ins n (N.length : Int) (N.zipIdx.map fun q => (q.1, (q.2 : Int))) = (N ++ [n]).zipIdx.map fun q => (q.1, (q.2 : Int)) := by
  rw [ins_none _ (by rw [look_rows, h]; rfl), List.zipIdx_append]; simp
/-- the value under which a node is a key -/
def ndV (x : Nd) : Value := .agg (Nd.C x).toArray
/-- a table: its struct in block p, its rows, its map; A: the blocks that are its own -/
structure TabIs (w : World) (p : Nat) (N : List Nd) (A : Nat → Prop) (s : SlV) (m : Nat) : Prop where
  bp : Blk w p T_Tab (Tab.C ⟨s, some m⟩)
  own : Own w 0 T_Nd 4 s (N.map Nd.C)
  map : MapB w m ndV (Value.int .i64) (N.zipIdx.map fun q => (q.1, (q.2 : Int)))
  pm : p ≠ m
  ps : ¬ s.fp p
  ms : ¬ s.fp m
  fp : ∀ i, A i ↔ (i = p ∨ i = m ∨ s.fp i)
def TabAt (w : World) (p : Nat) (N : List Nd) (A : Nat → Prop) : Prop := ∃ s m, Blk w p T_Tab (Tab.C ⟨s, some m⟩) ∧ Own w 0 T_Nd 4 s (N.map Nd.C) ∧ MapB w m ndV (Value.int .i64) (N.zipIdx.map fun q => (q.1, (q.2 : Int))) ∧ p ≠ m ∧ ¬ s.fp p ∧ ¬ s.fp m ∧ (∀ i, A i ↔ (i = p ∨ i = m ∨ s.fp i))
theorem TabAt.mk {w : World} {p : Nat} {N : List Nd} {A : Nat → Prop} {s : SlV} {m : Nat} (bp : Blk w p T_Tab (Tab.C ⟨s, some m⟩)) (own : Own w 0 T_Nd 4 s (N.map Nd.C)) (map : MapB w m ndV (Value.int .i64) (N.zipIdx.map fun q => (q.1, (q.2 : Int)))) (pm : p ≠ m) (ps : ¬ s.fp p) (ms : ¬ s.fp m)
    (fp : ∀ i, A i ↔ (i = p ∨ i = m ∨ s.fp i)) : TabAt w p N A := ⟨s, m, bp, own, map, pm, ps, ms, fp⟩
theorem TabAt.lt {w : World} {p : Nat} {N : List Nd} {A : Nat → Prop} (h : TabAt w p N A) : ∀ i, A i → i < w.heap.size := by
  obtain ⟨s, m, b, o, mm, _, _, _, hA⟩ := h
  intro i hi
  rcases (hA i).1 hi with rfl | rfl | hi
  · exact b.lt
  · exact mm.lt
  · exact o.lt i hi
theorem TabAt.keep {S : Nat → Prop} {w w' : World} {p : Nat} {N : List Nd} {A : Nat → Prop} (h : TabAt w p N A) (hc : Chg S w w') (hs : ∀ i, A i → ¬ S i) : TabAt w' p N A := by
  obtain ⟨s, m, b, o, mm, h1, h2, h3, hA⟩ := h
  exact ⟨s, m, b.chg hc (hs _ ((hA _).2 (.inl rfl))), o.keep hc (fun i hi => hs _ ((hA _).2 (.inr (.inr hi)))), mm.chg hc (hs _ ((hA _).2 (.inr (.inl rfl)))), h1, h2, h3, hA⟩
theorem TabAt.ext {w w' : World} {p : Nat} {N : List Nd} {A : Nat → Prop} (h : TabAt w p N A) (hc : Ext w w') : TabAt w' p N A := h.keep hc (fun _ _ x => x)
theorem TabAt.ptr {w : World} {p : Nat} {N : List Nd} {A : Nat → Prop} (h : TabAt w p N A) : A p := by
  obtain ⟨s, m, _, _, _, _, _, _, hA⟩ := h
  exact (hA p).2 (.inl rfl)

theorem formula_Table_alive_ok (w : World) {p : Nat} {N : List Nd} {A : Nat → Prop} (T : TabAt w p N A) : Calls PP F_formula_Table_alive #[.pointer (some ⟨p, 0, none⟩)] w fun e w' => ∃ v, e = .returned v ∧ (v = .bool true ∧ Ext w w') := by
  obtain ⟨s, m, Bp, O, M, hpm, d_p_O, d_m_O, hA⟩ := T
  refine calls_of_wc (n := 12) fn_formula_Table_alive rfl rfl (by simp) ?_
  have E := Ext.refl w
  refine wc_seq ?_
  refine wc_region ?_
  refine wl_does (does_as_b rfl) (by decide) ?_
  refine wl_nil ?_
  refine wc_seq ?_
  refine wc_region ?_
  refine wl_does (does_mv_p rfl) (by decide) ?_
  refine wl_does (does_nep0 un_dictum_formula_has rfl rfl) (by decide) ?_
  refine wl_does (does_mv_b rfl) (by decide) ?_
  refine wl_guard (j := 2) (pol := true) rfl rfl rfl (by decide) (fun hg => does_mv_p rfl) (by decide) ?_
  refine wl_guard (j := 2) (pol := true) rfl rfl rfl (by decide) (fun hg => does_nilCheck (gv_yes hg)) (by decide) ?_
  refine wl_guard (j := 2) (pol := true) rfl rfl rfl (by decide) (fun hg => does_fieldAddr fl_Tab_at_ (gv_yes hg) (o' := 1) rfl) (by decide) ?_
  refine wl_guard (j := 2) (pol := true) rfl rfl rfl (by decide) (fun hg => does_load on_M_api_Node_int (gv_yes hg) (Bp.cell (Tab.get_at_ _))) (by decide) ?_
  refine wl_guard (j := 2) (pol := true) rfl rfl rfl (by decide) (fun hg => does_nem0 un_M_api_Node_int (gv_yes hg) rfl) (by decide) ?_
  refine wl_does (does_and rfl (fun hp => (gv_yes (and_1 hp)))) (by decide) ?_
  refine wl_does (does_as_b rfl) (by decide) ?_
  refine wl_nil ?_
  refine wc_ret ?_
  exact ⟨_, (rets1 (retOne_tmp rfl)), rfl, E⟩

theorem formula_Table_has_ok (w : World) (i : Int) {p : Nat} {N : List Nd} {A : Nat → Prop} (T : TabAt w p N A) : Calls PP F_formula_Table_has #[.pointer (some ⟨p, 0, none⟩), .int .i64 i] w fun e w' => ∃ v, e = .returned v ∧ (v = .bool (hasRow N i) ∧ Ext w w') := by
  obtain ⟨s, m, Bp, O, M, hpm, d_p_O, d_m_O, hA⟩ := T
  refine calls_of_wc (n := 16) fn_formula_Table_has rfl rfl (by simp) ?_
  have E := Ext.refl w
  refine wc_seq ?_
  refine wc_region ?_
  refine wl_does (does_as_b rfl) (by decide) ?_
  refine wl_nil ?_
  refine wc_seq ?_
  refine wc_region ?_
  refine wl_does (does_mv_i rfl) (by decide) ?_
  refine wl_does (does_ge rfl rfl) (by decide) ?_
  refine wl_does (does_mv_b rfl) (by decide) ?_
  refine wl_guard (j := 2) (pol := true) rfl rfl rfl (by decide) (fun hg => does_mv_i rfl) (by decide) ?_
  refine wl_guard (j := 2) (pol := true) rfl rfl rfl (by decide) (fun hg => does_mv_p rfl) (by decide) ?_
  refine wl_guard (j := 2) (pol := true) rfl rfl rfl (by decide) (fun hg => does_nilCheck (gv_yes hg)) (by decide) ?_
  refine wl_guard (j := 2) (pol := true) rfl rfl rfl (by decide) (fun hg => does_fieldAddr fl_Tab_rows (gv_yes hg) (o' := 0) rfl) (by decide) ?_
  refine wl_guard (j := 2) (pol := true) rfl rfl rfl (by decide) (fun hg => does_load on_L_api_Node (gv_yes hg) (Bp.cell (Tab.get_rows _))) (by decide) ?_
  refine wl_guard (j := 2) (pol := true) rfl rfl rfl (by decide) (fun hg => does_lenR sl_L_api_Node (gv_yes hg) O.toRd) (by decide) ?_
  refine wl_guard (j := 2) (pol := true) rfl rfl rfl (by decide) (fun hg => does_lt (gv_yes hg) (gv_yes hg)) (by decide) ?_
  refine wl_does (does_and rfl (fun hp => (gv_yes (and_1 hp)))) (by decide) ?_
  refine wl_does (does_as_b rfl) (by decide) ?_
  refine wl_nil ?_
  refine wc_ret ?_
  exact ⟨_, (rets1 (retOne_tmp rfl)), rfl, E⟩

theorem formula_Table_Len_ok (w : World) {p : Nat} {N : List Nd} {A : Nat → Prop} (T : TabAt w p N A) : Calls PP F_formula_Table_Len #[.pointer (some ⟨p, 0, none⟩)] w fun e w' => ∃ v, e = .returned v ∧ (v = .int .i64 N.length ∧ Ext w w') := by
  obtain ⟨s, m, Bp, O, M, hpm, d_p_O, d_m_O, hA⟩ := T
  refine calls_of_wc (n := 11) fn_formula_Table_Len rfl rfl (by simp) ?_
  have E := Ext.refl w
  refine wc_seq ?_
  refine wc_region ?_
  refine wl_does (does_as_i rfl) (by decide) ?_
  refine wl_nil ?_
  refine wc_seq ?_
  refine wc_seq ?_
  refine wc_region ?_
  refine wl_does (does_mv_p rfl) (by decide) ?_
  refine wl_call (does_call ca_formula_Table_alive) (by decide) (formula_Table_alive_ok _ (TabAt.mk Bp O M hpm d_p_O d_m_O hA)) ?_
  rintro _ w1 ⟨rfl, h1⟩
  replace Bp := Bp.ext h1
  replace O := O.ext h1
  replace M := M.ext h1
  replace E := E.thenExt h1
  refine wl_does (does_not rfl) (by decide) ?_
  refine wl_nil ?_
  refine wc_false rfl ?_
  refine wc_skip ?_
  refine wc_seq ?_
  refine wc_region ?_
  refine wl_does (does_mv_p rfl) (by decide) ?_
  refine wl_does (does_nilCheck rfl) (by decide) ?_
  refine wl_does (does_fieldAddr fl_Tab_rows rfl (o' := 0) rfl) (by decide) ?_
  refine wl_does (does_load on_L_api_Node rfl (Bp.cell (Tab.get_rows _))) (by decide) ?_
  refine wl_does (does_lenR sl_L_api_Node rfl O.toRd) (by decide) ?_
  refine wl_does (does_as_i rfl) (by decide) ?_
  refine wl_nil ?_
  refine wc_ret ?_
  exact ⟨_, (rets1 (retOne_tmp rfl)), rfl, E⟩

theorem formula_Table_Node_ok (w : World) (i : Int) {p : Nat} {N : List Nd} {A : Nat → Prop} (T : TabAt w p N A) : Calls PP F_formula_Table_Node #[.pointer (some ⟨p, 0, none⟩), .int .i64 i] w fun e w' => ∃ v, e = .returned v ∧ (v = .tuple #[.agg (Nd.C (nodeS N i).1).toArray, .bool (nodeS N i).2] ∧ Ext w w') := by
  obtain ⟨s, m, Bp, O, M, hpm, d_p_O, d_m_O, hA⟩ := T
  refine calls_of_wc (n := 23) fn_formula_Table_Node rfl rfl (by simp) ?_
  have E := Ext.refl w
  refine wc_seq ?_
  refine wc_region ?_
  refine wl_alloc ze_Nd (by decide) fun b4 w1 h1 => ?_
  have l_b4 : w.heap.size ≤ b4 := by have := h1.at_; have := E.size; omega
  have o_b4_p : p < b4 := by have := Bp.lt; have := h1.at_; omega
  have d_b4_O : ¬ s.fp b4 := fun e => by have := O.lt _ e; have := h1.at_; omega
  have o_b4_m : m < b4 := by have := M.lt; have := h1.at_; omega
  have B4 := h1.blk
  replace Bp := Bp.ext h1.ext
  replace O := O.ext h1.ext
  replace M := M.ext h1.ext
  replace E := E.thenExt h1.ext
  refine wl_does (does_as_b rfl) (by decide) ?_
  refine wl_nil ?_
  refine wc_seq ?_
  refine wc_seq ?_
  refine wc_region ?_
  refine wl_does (does_mv_p rfl) (by decide) ?_
  refine wl_call (does_call ca_formula_Table_alive) (by decide) (formula_Table_alive_ok _ (TabAt.mk Bp O M hpm d_p_O d_m_O hA)) ?_
  rintro _ w2 ⟨rfl, h2⟩
  replace Bp := Bp.ext h2
  replace O := O.ext h2
  replace M := M.ext h2
  replace B4 := B4.ext h2
  replace E := E.thenExt h2
  refine wl_does (does_not rfl) (by decide) ?_
  refine wl_does (does_mv_b rfl) (by decide) ?_
  refine wl_guard (j := 3) (pol := false) rfl rfl rfl (by decide) (fun hg => does_mv_p rfl) (by decide) ?_
  refine wl_guard (j := 3) (pol := false) rfl rfl rfl (by decide) (fun hg => does_mv_i rfl) (by decide) ?_
  refine wl_gcall (j := 3) (pol := false) rfl rfl rfl (by decide) (fun hg => does_callg ca_formula_Table_has (cons2 (gv_yes hg) (cons2 (gv_yes hg) rfl))) (by decide) (fun hg => formula_Table_has_ok _ _ (TabAt.mk Bp O M hpm d_p_O d_m_O hA)) fun w3 h3 => ?_
  replace Bp := Bp.ext h3
  replace O := O.ext h3
  replace M := M.ext h3
  replace B4 := B4.ext h3
  replace E := E.thenExt h3
  refine wl_guard (j := 3) (pol := false) rfl rfl rfl (by decide) (fun hg => does_not (gv_yes hg)) (by decide) ?_
  refine wl_does (does_or rfl (fun hp => (gv_yes (and_1 hp)))) (by decide) ?_
  refine wl_nil ?_
  refine wc_if rfl (fun hc1 => ?_) (fun hc1 => ?_)
  all_goals simp only [Bool.not_true, Bool.false_or, Bool.not_eq_true', Bool.not_eq_false'] at hc1
  · refine wc_seq ?_
    refine wc_region ?_
    refine wl_does (does_build bu_Nd Bld.nil) (by decide) ?_
    refine wl_store_agg ag_Nd rfl rfl B4 (Nd.len _) (by rw [Nd.len]; decide) (Nd.one _) (store_all (Nd.len _)) fun w4 B h4 z4 => ?_
    replace B4 := B; clear B
    replace Bp := Bp.chg h4 (fun (e : p = b4) => by omega)
    replace O := O.keep h4 (fun i hi (e : i = b4) => d_b4_O (e ▸ hi))
    replace M := M.chg h4 (fun (e : m = b4) => by omega)
    replace E := E.thenChg h4 (fun i hi (e : i = b4) => absurd hi (by omega))
    refine wl_does (does_as_b rfl) (by decide) ?_
    refine wl_nil ?_
    refine wc_ret ?_
    exact ⟨.tuple #[.agg (Nd.C Nd.z).toArray, .bool false], (rets2 (retOne_agg ag_Nd rfl (B4.all _ (Nd.len _)) (Nd.len _)) (retOne_tmp rfl)), by rw [node_no hc1], E⟩
  refine wc_skip ?_
  obtain ⟨hr0, hr1, a, ha⟩ := row_of hc1
  refine wc_seq ?_
  refine wc_region ?_
  refine wl_does (does_mv_p rfl) (by decide) ?_
  refine wl_does (does_nilCheck rfl) (by decide) ?_
  refine wl_does (does_fieldAddr fl_Tab_rows rfl (o' := 0) rfl) (by decide) ?_
  refine wl_does (does_load on_L_api_Node rfl (Bp.cell (Tab.get_rows _))) (by decide) ?_
  refine wl_does (does_mv_i rfl) (by decide) ?_
  refine wl_does (does_indexR sl_L_api_Node rfl rfl O.toRd (by omega) (by omega)) (by decide) ?_
  refine wl_does (does_load_agg ag_Nd rfl (O.toRd.at ha) (Nd.len _)) (by decide) ?_
  refine wl_store_agg ag_Nd rfl rfl B4 (Nd.len _) (by rw [Nd.len]; decide) (Nd.one _) (store_all (Nd.len _)) fun w5 B h5 z5 => ?_
  replace B4 := B; clear B
  replace Bp := Bp.chg h5 (fun (e : p = b4) => by omega)
  replace O := O.keep h5 (fun i hi (e : i = b4) => d_b4_O (e ▸ hi))
  replace M := M.chg h5 (fun (e : m = b4) => by omega)
  replace E := E.thenChg h5 (fun i hi (e : i = b4) => absurd hi (by omega))
  refine wl_does (does_as_b rfl) (by decide) ?_
  refine wl_nil ?_
  refine wc_ret ?_
  exact ⟨.tuple #[.agg (Nd.C a).toArray, .bool true], (rets2 (retOne_agg ag_Nd rfl (B4.all _ (Nd.len _)) (Nd.len _)) (retOne_tmp rfl)), by rw [node_yes hc1 ha], E⟩

theorem formula_Table_fits_ok (w : World) (n : Nd) {p : Nat} {N : List Nd} {A : Nat → Prop} (T : TabAt w p N A) (hs : n.name.size < 9223372036854775808) : Calls PP F_formula_Table_fits #[.pointer (some ⟨p, 0, none⟩), .agg n.C.toArray] w fun e w' => ∃ v, e = .returned v ∧ (v = .int .i64 (fitsS N n) ∧ Ext w w') := by
  obtain ⟨s, m, Bp, O, M, hpm, d_p_O, d_m_O, hA⟩ := T
  refine calls_of_wc (n := 47) fn_formula_Table_fits rfl rfl (by simp) ?_
  have E := Ext.refl w
  refine wc_seq ?_
  refine wc_region ?_
  refine wl_box_agg rfl (by decide) fun b3 w1 h1 => ?_
  have l_b3 : w.heap.size ≤ b3 := by have := h1.at_; have := E.size; omega
  have o_b3_p : p < b3 := by have := Bp.lt; have := h1.at_; omega
  have d_b3_O : ¬ s.fp b3 := fun e => by have := O.lt _ e; have := h1.at_; omega
  have o_b3_m : m < b3 := by have := M.lt; have := h1.at_; omega
  have B3 := h1.blk
  replace Bp := Bp.ext h1.ext
  replace O := O.ext h1.ext
  replace M := M.ext h1.ext
  replace E := E.thenExt h1.ext
  refine wl_does (does_as_i rfl) (by decide) ?_
  refine wl_nil ?_
  refine wc_seq ?_
  refine wc_seq ?_
  refine wc_region ?_
  refine wl_does (does_fieldAddr fl_Nd_kind rfl (o' := 0) rfl) (by decide) ?_
  refine wl_does (does_load on_api_Kind rfl (B3.cell (Nd.get_kind _))) (by decide) ?_
  refine wl_nil ?_
  refine wc_block ?_
  refine wc_seq ?_
  refine wc_region ?_
  refine wl_does (does_eq rfl rfl) (by decide) ?_
  refine wl_does (does_as_b rfl) (by decide) ?_
  refine wl_nil ?_
  refine wc_if rfl (fun hc1 => ?_) (fun hc1 => ?_)
  all_goals try simp only [decide_eq_true_eq, decide_eq_false_iff_not, Bool.and_eq_true, Bool.or_eq_true, Bool.and_eq_false_iff, Bool.or_eq_false_iff, Bool.not_eq_true', Bool.not_eq_false', Int.not_lt, Int.not_le, ne_eq, Decidable.not_not] at hc1
  · refine wc_seq ?_
    refine wc_seq ?_
    refine wc_region ?_
    refine wl_does (does_fieldAddr fl_Nd_l rfl (o' := 2) rfl) (by decide) ?_
    refine wl_does (does_load on_int rfl (B3.cell (Nd.get_l _))) (by decide) ?_
    refine wl_does (does_ne rfl rfl) (by decide) ?_
    refine wl_does (does_mv_b rfl) (by decide) ?_
    refine wl_guard (j := 3) (pol := false) rfl rfl rfl (by decide) (fun hg => does_fieldAddr fl_Nd_r rfl (o' := 3) rfl) (by decide) ?_
    refine wl_guard (j := 3) (pol := false) rfl rfl rfl (by decide) (fun hg => does_load on_int (gv_yes hg) (B3.cell (Nd.get_r _))) (by decide) ?_
    refine wl_guard (j := 3) (pol := false) rfl rfl rfl (by decide) (fun hg => does_ne (gv_yes hg) rfl) (by decide) ?_
    refine wl_does (does_or rfl (fun hp => (gv_yes (and_1 hp)))) (by decide) ?_
    refine wl_nil ?_
    refine wc_if rfl (fun hc2 => ?_) (fun hc2 => ?_)
    all_goals try simp only [decide_eq_true_eq, decide_eq_false_iff_not, Bool.and_eq_true, Bool.or_eq_true, Bool.and_eq_false_iff, Bool.or_eq_false_iff, Bool.not_eq_true', Bool.not_eq_false', Int.not_lt, Int.not_le, ne_eq, Decidable.not_not] at hc2
    · refine wc_seq ?_
      refine wc_region ?_
      refine wl_does (does_as_i rfl) (by decide) ?_
      refine wl_nil ?_
      refine wc_ret ?_
      exact ⟨_, (rets1 (retOne_tmp rfl)), congrArg (Value.int .i64) (by unfold fitsS; first | (simp_all; done) | (rw [if_neg (by omega), if_neg (by omega), if_pos (by omega), if_pos ‹_›])), E⟩
    refine wc_skip ?_
    refine wc_seq ?_
    refine wc_region ?_
    refine wl_does (does_fieldAddr fl_Nd_name rfl (o' := 1) rfl) (by decide) ?_
    refine wl_does (does_load on_string rfl (B3.cell (Nd.get_name _))) (by decide) ?_
    refine wl_call (does_call ca_formula_Word) (by decide) (formula_Word_ok _ _ hs) ?_
    rintro _ w2 ⟨rfl, h2⟩
    replace Bp := Bp.ext h2
    replace O := O.ext h2
    replace M := M.ext h2
    replace B3 := B3.ext h2
    replace E := E.thenExt h2
    refine wl_does (does_not rfl) (by decide) ?_
    refine wl_nil ?_
    refine wc_if rfl (fun hc3 => ?_) (fun hc3 => ?_)
    all_goals try simp only [decide_eq_true_eq, decide_eq_false_iff_not, Bool.and_eq_true, Bool.or_eq_true, Bool.and_eq_false_iff, Bool.or_eq_false_iff, Bool.not_eq_true', Bool.not_eq_false', Int.not_lt, Int.not_le, ne_eq, Decidable.not_not] at hc3
    · refine wc_seq ?_
      refine wc_region ?_
      refine wl_does (does_as_i rfl) (by decide) ?_
      refine wl_nil ?_
      refine wc_ret ?_
      exact ⟨_, (rets1 (retOne_tmp rfl)), congrArg (Value.int .i64) (by unfold fitsS; first | (simp_all; done) | (rw [if_neg (by omega), if_neg (by omega), if_pos (by omega), if_pos ‹_›])), E⟩
    refine wc_skip ?_
    refine wc_seq ?_
    refine wc_region ?_
    refine wl_does (does_as_i rfl) (by decide) ?_
    refine wl_nil ?_
    refine wc_ret ?_
    exact ⟨_, (rets1 (retOne_tmp rfl)), congrArg (Value.int .i64) (by unfold fitsS; first | (simp_all; done) | (rw [if_neg (by omega), if_neg (by omega), if_pos (by omega), if_pos ‹_›])), E⟩
  · refine wc_seq ?_
    refine wc_region ?_
    refine wl_does (does_eq rfl rfl) (by decide) ?_
    refine wl_does (does_as_b rfl) (by decide) ?_
    refine wl_nil ?_
    refine wc_if rfl (fun hc4 => ?_) (fun hc4 => ?_)
    all_goals try simp only [decide_eq_true_eq, decide_eq_false_iff_not, Bool.and_eq_true, Bool.or_eq_true, Bool.and_eq_false_iff, Bool.or_eq_false_iff, Bool.not_eq_true', Bool.not_eq_false', Int.not_lt, Int.not_le, ne_eq, Decidable.not_not] at hc4
    · refine wc_seq ?_
      refine wc_region ?_
      refine wl_does (does_load_agg ag_Nd rfl (B3.all _ (Nd.len _)) (Nd.len _)) (by decide) ?_
      refine wl_does (does_build bu_Nd (Bld.one rfl rfl (by rw [Nd.len]; decide) (Nd.set_kind _ _) Bld.nil)) (by decide) ?_
      refine wl_does (does_nev eg_Nd (eq_Nd _ _) (by decide) rfl rfl) (by decide) ?_
      refine wl_nil ?_
      refine wc_if rfl (fun hc5 => ?_) (fun hc5 => ?_)
      all_goals try simp only [decide_eq_true_eq, decide_eq_false_iff_not, Bool.and_eq_true, Bool.or_eq_true, Bool.and_eq_false_iff, Bool.or_eq_false_iff, Bool.not_eq_true', Bool.not_eq_false', Int.not_lt, Int.not_le, ne_eq, Decidable.not_not] at hc5
      · refine wc_seq ?_
        refine wc_region ?_
        refine wl_does (does_as_i rfl) (by decide) ?_
        refine wl_nil ?_
        refine wc_ret ?_
        exact ⟨_, (rets1 (retOne_tmp rfl)), congrArg (Value.int .i64) (by unfold fitsS; first | (simp_all; done) | (rw [if_neg (by omega), if_neg (by omega), if_pos (by omega), if_pos ‹_›])), E⟩
      refine wc_skip ?_
      refine wc_seq ?_
      refine wc_region ?_
      refine wl_does (does_as_i rfl) (by decide) ?_
      refine wl_nil ?_
      refine wc_ret ?_
      exact ⟨_, (rets1 (retOne_tmp rfl)), congrArg (Value.int .i64) (by unfold fitsS; first | (simp_all; done) | (rw [if_neg (by omega), if_neg (by omega), if_pos (by omega), if_pos ‹_›])), E⟩
    · refine wc_seq ?_
      refine wc_seq ?_
      refine wc_region ?_
      refine wl_does (does_eq rfl rfl) (by decide) ?_
      refine wl_does (does_as_b rfl) (by decide) ?_
      refine wl_nil ?_
      refine wc_if rfl (fun hc6 => ?_) (fun hc6 => ?_)
      all_goals try simp only [decide_eq_true_eq, decide_eq_false_iff_not, Bool.and_eq_true, Bool.or_eq_true, Bool.and_eq_false_iff, Bool.or_eq_false_iff, Bool.not_eq_true', Bool.not_eq_false', Int.not_lt, Int.not_le, ne_eq, Decidable.not_not] at hc6
      · refine wc_skip ?_
        refine wc_if rfl (fun hc7 => ?_) (fun hc7 => ?_)
        all_goals try simp only [decide_eq_true_eq, decide_eq_false_iff_not, Bool.and_eq_true, Bool.or_eq_true, Bool.and_eq_false_iff, Bool.or_eq_false_iff, Bool.not_eq_true', Bool.not_eq_false', Int.not_lt, Int.not_le, ne_eq, Decidable.not_not] at hc7
        rotate_left
        · refine wc_seq ?_
          refine wc_region ?_
          refine wl_does (does_as_i rfl) (by decide) ?_
          refine wl_nil ?_
          refine wc_ret ?_
          exact ⟨_, (rets1 (retOne_tmp rfl)), congrArg (Value.int .i64) (by unfold fitsS; first | (simp_all; done) | (rw [if_neg (by omega), if_neg (by omega), if_pos (by omega), if_pos ‹_›])), E⟩
        refine wc_seq ?_
        refine wc_region ?_
        refine wl_does (does_fieldAddr fl_Nd_name rfl (o' := 1) rfl) (by decide) ?_
        refine wl_does (does_load on_string rfl (B3.cell (Nd.get_name _))) (by decide) ?_
        refine wl_does (does_nes rfl rfl) (by decide) ?_
        refine wl_does (does_mv_b rfl) (by decide) ?_
        refine wl_guard (j := 3) (pol := false) rfl rfl rfl (by decide) (fun hg => does_mv_p rfl) (by decide) ?_
        refine wl_guard (j := 3) (pol := false) rfl rfl rfl (by decide) (fun hg => does_fieldAddr fl_Nd_l rfl (o' := 2) rfl) (by decide) ?_
        refine wl_guard (j := 3) (pol := false) rfl rfl rfl (by decide) (fun hg => does_load on_int (gv_yes hg) (B3.cell (Nd.get_l _))) (by decide) ?_
        refine wl_gcall (j := 3) (pol := false) rfl rfl rfl (by decide) (fun hg => does_callg ca_formula_Table_has (cons2 (gv_yes hg) (cons2 (gv_yes hg) rfl))) (by decide) (fun hg => formula_Table_has_ok _ _ (TabAt.mk Bp O M hpm d_p_O d_m_O hA)) fun w3 h3 => ?_
        replace Bp := Bp.ext h3
        replace O := O.ext h3
        replace M := M.ext h3
        replace B3 := B3.ext h3
        replace E := E.thenExt h3
        refine wl_guard (j := 3) (pol := false) rfl rfl rfl (by decide) (fun hg => does_not (gv_yes hg)) (by decide) ?_
        refine wl_does (does_or rfl (fun hp => (gv_yes (and_1 hp)))) (by decide) ?_
        refine wl_does (does_mv_b rfl) (by decide) ?_
        refine wl_guard (j := 10) (pol := false) rfl rfl rfl (by decide) (fun hg => does_mv_p rfl) (by decide) ?_
        refine wl_guard (j := 10) (pol := false) rfl rfl rfl (by decide) (fun hg => does_fieldAddr fl_Nd_r rfl (o' := 3) rfl) (by decide) ?_
        refine wl_guard (j := 10) (pol := false) rfl rfl rfl (by decide) (fun hg => does_load on_int (gv_yes hg) (B3.cell (Nd.get_r _))) (by decide) ?_
        refine wl_gcall (j := 10) (pol := false) rfl rfl rfl (by decide) (fun hg => does_callg ca_formula_Table_has (cons2 (gv_yes hg) (cons2 (gv_yes hg) rfl))) (by decide) (fun hg => formula_Table_has_ok _ _ (TabAt.mk Bp O M hpm d_p_O d_m_O hA)) fun w4 h4 => ?_
        replace Bp := Bp.ext h4
        replace O := O.ext h4
        replace M := M.ext h4
        replace B3 := B3.ext h4
        replace E := E.thenExt h4
        refine wl_guard (j := 10) (pol := false) rfl rfl rfl (by decide) (fun hg => does_not (gv_yes hg)) (by decide) ?_
        refine wl_does (does_or rfl (fun hp => (gv_yes (and_1 hp)))) (by decide) ?_
        refine wl_nil ?_
        refine wc_if rfl (fun hc8 => ?_) (fun hc8 => ?_)
        all_goals try simp only [decide_eq_true_eq, decide_eq_false_iff_not, Bool.and_eq_true, Bool.or_eq_true, Bool.and_eq_false_iff, Bool.or_eq_false_iff, Bool.not_eq_true', Bool.not_eq_false', Int.not_lt, Int.not_le, ne_eq, Decidable.not_not] at hc8
        · refine wc_seq ?_
          refine wc_region ?_
          refine wl_does (does_as_i rfl) (by decide) ?_
          refine wl_nil ?_
          refine wc_ret ?_
          exact ⟨_, (rets1 (retOne_tmp rfl)), congrArg (Value.int .i64) (by unfold fitsS; first | (simp_all; done) | (rw [if_neg (by omega), if_neg (by omega), if_pos (by omega), if_pos ‹_›])), E⟩
        refine wc_skip ?_
        refine wc_seq ?_
        refine wc_region ?_
        refine wl_does (does_as_i rfl) (by decide) ?_
        refine wl_nil ?_
        refine wc_ret ?_
        exact ⟨_, (rets1 (retOne_tmp rfl)), congrArg (Value.int .i64) (by unfold fitsS; first | (simp_all; done) | (rw [if_neg (by omega), if_neg (by omega), if_pos (by omega), if_pos ‹_›])), E⟩
      · refine wc_seq ?_
        refine wc_region ?_
        refine wl_does (does_eq rfl rfl) (by decide) ?_
        refine wl_does (does_as_b rfl) (by decide) ?_
        refine wl_nil ?_
        refine wc_if rfl (fun hc9 => ?_) (fun hc9 => ?_)
        all_goals try simp only [decide_eq_true_eq, decide_eq_false_iff_not, Bool.and_eq_true, Bool.or_eq_true, Bool.and_eq_false_iff, Bool.or_eq_false_iff, Bool.not_eq_true', Bool.not_eq_false', Int.not_lt, Int.not_le, ne_eq, Decidable.not_not] at hc9
        · refine wc_skip ?_
          refine wc_if rfl (fun hc10 => ?_) (fun hc10 => ?_)
          all_goals try simp only [decide_eq_true_eq, decide_eq_false_iff_not, Bool.and_eq_true, Bool.or_eq_true, Bool.and_eq_false_iff, Bool.or_eq_false_iff, Bool.not_eq_true', Bool.not_eq_false', Int.not_lt, Int.not_le, ne_eq, Decidable.not_not] at hc10
          rotate_left
          · refine wc_seq ?_
            refine wc_region ?_
            refine wl_does (does_as_i rfl) (by decide) ?_
            refine wl_nil ?_
            refine wc_ret ?_
            exact ⟨_, (rets1 (retOne_tmp rfl)), congrArg (Value.int .i64) (by unfold fitsS; first | (simp_all; done) | (rw [if_neg (by omega), if_neg (by omega), if_pos (by omega), if_pos ‹_›])), E⟩
          refine wc_seq ?_
          refine wc_region ?_
          refine wl_does (does_fieldAddr fl_Nd_name rfl (o' := 1) rfl) (by decide) ?_
          refine wl_does (does_load on_string rfl (B3.cell (Nd.get_name _))) (by decide) ?_
          refine wl_does (does_nes rfl rfl) (by decide) ?_
          refine wl_does (does_mv_b rfl) (by decide) ?_
          refine wl_guard (j := 3) (pol := false) rfl rfl rfl (by decide) (fun hg => does_mv_p rfl) (by decide) ?_
          refine wl_guard (j := 3) (pol := false) rfl rfl rfl (by decide) (fun hg => does_fieldAddr fl_Nd_l rfl (o' := 2) rfl) (by decide) ?_
          refine wl_guard (j := 3) (pol := false) rfl rfl rfl (by decide) (fun hg => does_load on_int (gv_yes hg) (B3.cell (Nd.get_l _))) (by decide) ?_
          refine wl_gcall (j := 3) (pol := false) rfl rfl rfl (by decide) (fun hg => does_callg ca_formula_Table_has (cons2 (gv_yes hg) (cons2 (gv_yes hg) rfl))) (by decide) (fun hg => formula_Table_has_ok _ _ (TabAt.mk Bp O M hpm d_p_O d_m_O hA)) fun w5 h5 => ?_
          replace Bp := Bp.ext h5
          replace O := O.ext h5
          replace M := M.ext h5
          replace B3 := B3.ext h5
          replace E := E.thenExt h5
          refine wl_guard (j := 3) (pol := false) rfl rfl rfl (by decide) (fun hg => does_not (gv_yes hg)) (by decide) ?_
          refine wl_does (does_or rfl (fun hp => (gv_yes (and_1 hp)))) (by decide) ?_
          refine wl_does (does_mv_b rfl) (by decide) ?_
          refine wl_guard (j := 10) (pol := false) rfl rfl rfl (by decide) (fun hg => does_mv_p rfl) (by decide) ?_
          refine wl_guard (j := 10) (pol := false) rfl rfl rfl (by decide) (fun hg => does_fieldAddr fl_Nd_r rfl (o' := 3) rfl) (by decide) ?_
          refine wl_guard (j := 10) (pol := false) rfl rfl rfl (by decide) (fun hg => does_load on_int (gv_yes hg) (B3.cell (Nd.get_r _))) (by decide) ?_
          refine wl_gcall (j := 10) (pol := false) rfl rfl rfl (by decide) (fun hg => does_callg ca_formula_Table_has (cons2 (gv_yes hg) (cons2 (gv_yes hg) rfl))) (by decide) (fun hg => formula_Table_has_ok _ _ (TabAt.mk Bp O M hpm d_p_O d_m_O hA)) fun w6 h6 => ?_
          replace Bp := Bp.ext h6
          replace O := O.ext h6
          replace M := M.ext h6
          replace B3 := B3.ext h6
          replace E := E.thenExt h6
          refine wl_guard (j := 10) (pol := false) rfl rfl rfl (by decide) (fun hg => does_not (gv_yes hg)) (by decide) ?_
          refine wl_does (does_or rfl (fun hp => (gv_yes (and_1 hp)))) (by decide) ?_
          refine wl_nil ?_
          refine wc_if rfl (fun hc11 => ?_) (fun hc11 => ?_)
          all_goals try simp only [decide_eq_true_eq, decide_eq_false_iff_not, Bool.and_eq_true, Bool.or_eq_true, Bool.and_eq_false_iff, Bool.or_eq_false_iff, Bool.not_eq_true', Bool.not_eq_false', Int.not_lt, Int.not_le, ne_eq, Decidable.not_not] at hc11
          · refine wc_seq ?_
            refine wc_region ?_
            refine wl_does (does_as_i rfl) (by decide) ?_
            refine wl_nil ?_
            refine wc_ret ?_
            exact ⟨_, (rets1 (retOne_tmp rfl)), congrArg (Value.int .i64) (by unfold fitsS; first | (simp_all; done) | (rw [if_neg (by omega), if_neg (by omega), if_pos (by omega), if_pos ‹_›])), E⟩
          refine wc_skip ?_
          refine wc_seq ?_
          refine wc_region ?_
          refine wl_does (does_as_i rfl) (by decide) ?_
          refine wl_nil ?_
          refine wc_ret ?_
          exact ⟨_, (rets1 (retOne_tmp rfl)), congrArg (Value.int .i64) (by unfold fitsS; first | (simp_all; done) | (rw [if_neg (by omega), if_neg (by omega), if_pos (by omega), if_pos ‹_›])), E⟩
        · refine wc_region ?_
          refine wl_does (does_eq rfl rfl) (by decide) ?_
          refine wl_does (does_as_b rfl) (by decide) ?_
          refine wl_nil ?_
          refine wc_if rfl (fun hc12 => ?_) (fun hc12 => ?_)
          all_goals try simp only [decide_eq_true_eq, decide_eq_false_iff_not, Bool.and_eq_true, Bool.or_eq_true, Bool.and_eq_false_iff, Bool.or_eq_false_iff, Bool.not_eq_true', Bool.not_eq_false', Int.not_lt, Int.not_le, ne_eq, Decidable.not_not] at hc12
          rotate_left
          · refine wc_seq ?_
            refine wc_region ?_
            refine wl_does (does_as_i rfl) (by decide) ?_
            refine wl_nil ?_
            refine wc_ret ?_
            exact ⟨_, (rets1 (retOne_tmp rfl)), congrArg (Value.int .i64) (by unfold fitsS; first | (simp_all; done) | (rw [if_neg (by omega), if_neg (by omega), if_pos (by omega), if_pos ‹_›])), E⟩
          refine wc_seq ?_
          refine wc_region ?_
          refine wl_does (does_fieldAddr fl_Nd_name rfl (o' := 1) rfl) (by decide) ?_
          refine wl_does (does_load on_string rfl (B3.cell (Nd.get_name _))) (by decide) ?_
          refine wl_does (does_nes rfl rfl) (by decide) ?_
          refine wl_does (does_mv_b rfl) (by decide) ?_
          refine wl_guard (j := 3) (pol := false) rfl rfl rfl (by decide) (fun hg => does_mv_p rfl) (by decide) ?_
          refine wl_guard (j := 3) (pol := false) rfl rfl rfl (by decide) (fun hg => does_fieldAddr fl_Nd_l rfl (o' := 2) rfl) (by decide) ?_
          refine wl_guard (j := 3) (pol := false) rfl rfl rfl (by decide) (fun hg => does_load on_int (gv_yes hg) (B3.cell (Nd.get_l _))) (by decide) ?_
          refine wl_gcall (j := 3) (pol := false) rfl rfl rfl (by decide) (fun hg => does_callg ca_formula_Table_has (cons2 (gv_yes hg) (cons2 (gv_yes hg) rfl))) (by decide) (fun hg => formula_Table_has_ok _ _ (TabAt.mk Bp O M hpm d_p_O d_m_O hA)) fun w7 h7 => ?_
          replace Bp := Bp.ext h7
          replace O := O.ext h7
          replace M := M.ext h7
          replace B3 := B3.ext h7
          replace E := E.thenExt h7
          refine wl_guard (j := 3) (pol := false) rfl rfl rfl (by decide) (fun hg => does_not (gv_yes hg)) (by decide) ?_
          refine wl_does (does_or rfl (fun hp => (gv_yes (and_1 hp)))) (by decide) ?_
          refine wl_does (does_mv_b rfl) (by decide) ?_
          refine wl_guard (j := 10) (pol := false) rfl rfl rfl (by decide) (fun hg => does_mv_p rfl) (by decide) ?_
          refine wl_guard (j := 10) (pol := false) rfl rfl rfl (by decide) (fun hg => does_fieldAddr fl_Nd_r rfl (o' := 3) rfl) (by decide) ?_
          refine wl_guard (j := 10) (pol := false) rfl rfl rfl (by decide) (fun hg => does_load on_int (gv_yes hg) (B3.cell (Nd.get_r _))) (by decide) ?_
          refine wl_gcall (j := 10) (pol := false) rfl rfl rfl (by decide) (fun hg => does_callg ca_formula_Table_has (cons2 (gv_yes hg) (cons2 (gv_yes hg) rfl))) (by decide) (fun hg => formula_Table_has_ok _ _ (TabAt.mk Bp O M hpm d_p_O d_m_O hA)) fun w8 h8 => ?_
          replace Bp := Bp.ext h8
          replace O := O.ext h8
          replace M := M.ext h8
          replace B3 := B3.ext h8
          replace E := E.thenExt h8
          refine wl_guard (j := 10) (pol := false) rfl rfl rfl (by decide) (fun hg => does_not (gv_yes hg)) (by decide) ?_
          refine wl_does (does_or rfl (fun hp => (gv_yes (and_1 hp)))) (by decide) ?_
          refine wl_nil ?_
          refine wc_if rfl (fun hc13 => ?_) (fun hc13 => ?_)
          all_goals try simp only [decide_eq_true_eq, decide_eq_false_iff_not, Bool.and_eq_true, Bool.or_eq_true, Bool.and_eq_false_iff, Bool.or_eq_false_iff, Bool.not_eq_true', Bool.not_eq_false', Int.not_lt, Int.not_le, ne_eq, Decidable.not_not] at hc13
          · refine wc_seq ?_
            refine wc_region ?_
            refine wl_does (does_as_i rfl) (by decide) ?_
            refine wl_nil ?_
            refine wc_ret ?_
            exact ⟨_, (rets1 (retOne_tmp rfl)), congrArg (Value.int .i64) (by unfold fitsS; first | (simp_all; done) | (rw [if_neg (by omega), if_neg (by omega), if_pos (by omega), if_pos ‹_›])), E⟩
          refine wc_skip ?_
          refine wc_seq ?_
          refine wc_region ?_
          refine wl_does (does_as_i rfl) (by decide) ?_
          refine wl_nil ?_
          refine wc_ret ?_
          exact ⟨_, (rets1 (retOne_tmp rfl)), congrArg (Value.int .i64) (by unfold fitsS; first | (simp_all; done) | (rw [if_neg (by omega), if_neg (by omega), if_pos (by omega), if_pos ‹_›])), E⟩

theorem formula_Table_Put_ok (w : World) (n : Nd) {p : Nat} {N : List Nd} {A : Nat → Prop} (T : TabAt w p N A) (hs : n.name.size < 9223372036854775808) (hN : N.length ≤ 1024) : Calls PP F_formula_Table_Put #[.pointer (some ⟨p, 0, none⟩), .agg n.C.toArray] w fun e w' => ∃ v, e = .returned v ∧ (∃ A', v = .tuple #[.int .i64 (putS N n).2.1, .int .i64 (putS N n).2.2] ∧ TabAt w' p (putS N n).1 A' ∧ Chg A w w' ∧ (∀ i, A' i → A i ∨ w.heap.size ≤ i)) := by
  obtain ⟨s, m, Bp, O, M, hpm, d_p_O, d_m_O, hA⟩ := T
  refine calls_of_wc (n := 54) fn_formula_Table_Put rfl rfl (by simp) ?_
  have E := Ext.refl w
  refine wc_seq ?_
  refine wc_region ?_
  refine wl_box_agg rfl (by decide) fun b3 w1 h1 => ?_
  have l_b3 : w.heap.size ≤ b3 := by have := h1.at_; have := E.size; omega
  have o_b3_p : p < b3 := by have := Bp.lt; have := h1.at_; omega
  have d_b3_O : ¬ s.fp b3 := fun e => by have := O.lt _ e; have := h1.at_; omega
  have o_b3_m : m < b3 := by have := M.lt; have := h1.at_; omega
  have B3 := h1.blk
  replace Bp := Bp.ext h1.ext
  replace O := O.ext h1.ext
  replace M := M.ext h1.ext
  replace E := E.thenExt h1.ext
  refine wl_does (does_as_i rfl) (by decide) ?_
  refine wl_does (does_as_i rfl) (by decide) ?_
  refine wl_nil ?_
  refine wc_seq ?_
  refine wc_seq ?_
  refine wc_region ?_
  refine wl_does (does_mv_p rfl) (by decide) ?_
  refine wl_call (does_call ca_formula_Table_alive) (by decide) (formula_Table_alive_ok _ (TabAt.mk Bp O M hpm d_p_O d_m_O hA)) ?_
  rintro _ w2 ⟨rfl, h2⟩
  replace Bp := Bp.ext h2
  replace O := O.ext h2
  replace M := M.ext h2
  replace B3 := B3.ext h2
  replace E := E.thenExt h2
  refine wl_does (does_not rfl) (by decide) ?_
  refine wl_nil ?_
  refine wc_false rfl ?_
  refine wc_skip ?_
  refine wc_seq ?_
  refine wc_seq ?_
  refine wc_region ?_
  refine wl_does (does_mv_p rfl) (by decide) ?_
  refine wl_does (does_load_agg ag_Nd rfl (B3.all _ (Nd.len _)) (Nd.len _)) (by decide) ?_
  refine wl_call (does_call ca_formula_Table_fits) (by decide) (formula_Table_fits_ok _ _ (TabAt.mk Bp O M hpm d_p_O d_m_O hA) hs) ?_
  rintro _ w3 ⟨rfl, h3⟩
  replace Bp := Bp.ext h3
  replace O := O.ext h3
  replace M := M.ext h3
  replace B3 := B3.ext h3
  replace E := E.thenExt h3
  refine wl_does (does_as_i rfl) (by decide) ?_
  refine wl_nil ?_
  refine wc_seq ?_
  refine wc_region ?_
  refine wl_does (does_mv_i rfl) (by decide) ?_
  refine wl_does (does_ne rfl rfl) (by decide) ?_
  refine wl_nil ?_
  refine wc_if rfl (fun hc2 => ?_) (fun hc2 => ?_)
  all_goals try simp only [decide_eq_true_eq, decide_eq_false_iff_not, Bool.and_eq_true, Bool.or_eq_true, Bool.and_eq_false_iff, Bool.or_eq_false_iff, Bool.not_eq_true', Bool.not_eq_false', Int.not_lt, Int.not_le, ne_eq, Decidable.not_not] at hc2
  · refine wc_seq ?_
    refine wc_region ?_
    refine wl_does (does_mv_i rfl) (by decide) ?_
    refine wl_does (does_as_i rfl) (by decide) ?_
    refine wl_does (does_as_i rfl) (by decide) ?_
    refine wl_nil ?_
    refine wc_ret ?_
    exact ⟨.tuple #[.int .i64 0, .int .i64 (fitsS N n)], (rets2 (retOne_tmp rfl) (retOne_tmp rfl)), A, by rw [put_bad hc2], by rw [put_bad hc2]; exact TabAt.mk Bp O M hpm d_p_O d_m_O hA, E.mono (fun _ _ x => x.elim), fun i h => .inl h⟩
  refine wc_skip ?_
  refine wc_seq ?_
  refine wc_seq ?_
  refine wc_quiet 10 (Ext w3) hmix (by kernel_rfl) (by kernel_rfl) (Ext.drawn _) ?_
  refine wq_does (fun v K => does_mv_p rfl) ?_
  refine wq_does (fun v K => does_nilCheck rfl) ?_
  refine wq_does (fun v K => does_fieldAddr fl_Tab_at_ rfl (o' := 1) rfl) ?_
  refine wq_does (fun v K => does_load on_M_api_Node_int rfl ((Bp.ext K).cell (Tab.get_at_ _))) ?_
  refine wq_does (fun v K => does_load_agg ag_Nd rfl ((B3.ext K).all _ (Nd.len _)) (Nd.len _)) ?_
  refine wq_does (fun v K => does_lookup_ok un_M_api_Node_int key_Nd zv_int rfl rfl (M.ext K)) ?_
  refine wq_does (fun v K => does_mv_t rfl) ?_
  refine wq_does (fun v K => does_extract rfl rfl) ?_
  refine wq_does (fun v K => does_extract rfl rfl) ?_
  refine wq_does (fun v K => does_as_i rfl) ?_
  refine wq_nil fun w4 K => ?_
  replace Bp := Bp.ext K
  replace O := O.ext K
  replace M := M.ext K
  replace B3 := B3.ext K
  replace E := E.thenExt K
  clear K
  refine wl_does (does_as_b rfl) (by decide) ?_
  refine wl_nil ?_
  refine wc_seq ?_
  refine wc_region ?_
  refine wl_does (does_mv_b rfl) (by decide) ?_
  refine wl_nil ?_
  refine wc_if rfl (fun hc3 => ?_) (fun hc3 => ?_)
  all_goals skip
  · refine wc_seq ?_
    refine wc_region ?_
    refine wl_does (does_mv_i rfl) (by decide) ?_
    refine wl_does (does_as_i rfl) (by decide) ?_
    refine wl_does (does_as_i rfl) (by decide) ?_
    refine wl_nil ?_
    refine wc_ret ?_
    rw [look_rows] at hc3
    obtain ⟨k, hk⟩ : ∃ k, N.idxOf? n = some k := by cases hq : N.idxOf? n with | none => rw [hq] at hc3; cases hc3 | some k => exact ⟨k, rfl⟩
    exact ⟨.tuple #[.int .i64 ((Gw.look n (N.zipIdx.map fun q => (q.1, (q.2 : Int)))).getD 0), .int .i64 0], (rets2 (retOne_tmp rfl) (retOne_tmp rfl)), A, by rw [put_old hc2 hk, look_rows, hk]; rfl, by rw [put_old hc2 hk]; exact TabAt.mk Bp O M hpm d_p_O d_m_O hA, E.mono (fun _ _ x => x.elim), fun i h => .inl h⟩
  refine wc_skip ?_
  refine wc_seq ?_
  refine wc_region ?_
  refine wl_does (does_mv_p rfl) (by decide) ?_
  refine wl_does (does_nilCheck rfl) (by decide) ?_
  refine wl_does (does_fieldAddr fl_Tab_rows rfl (o' := 0) rfl) (by decide) ?_
  refine wl_does (does_load on_L_api_Node rfl (Bp.cell (Tab.get_rows _))) (by decide) ?_
  refine wl_does (does_lenR sl_L_api_Node rfl O.toRd) (by decide) ?_
  refine wl_does (does_as_i rfl) (by decide) ?_
  refine wl_nil ?_
  refine wc_seq ?_
  refine wc_seq ?_
  refine wc_region ?_
  refine wl_does (does_mv_i rfl) (by decide) ?_
  refine wl_does (does_ge rfl rfl) (by decide) ?_
  refine wl_nil ?_
  refine wc_if rfl (fun hc4 => ?_) (fun hc4 => ?_)
  all_goals try simp only [decide_eq_true_eq, decide_eq_false_iff_not, Bool.and_eq_true, Bool.or_eq_true, Bool.and_eq_false_iff, Bool.or_eq_false_iff, Bool.not_eq_true', Bool.not_eq_false', Int.not_lt, Int.not_le, ne_eq, Decidable.not_not] at hc4
  · refine wc_seq ?_
    refine wc_region ?_
    refine wl_does (does_as_i rfl) (by decide) ?_
    refine wl_does (does_as_i rfl) (by decide) ?_
    refine wl_nil ?_
    refine wc_ret ?_
    have hk := idx_none hc3
    exact ⟨.tuple #[.int .i64 0, .int .i64 30], (rets2 (retOne_tmp rfl) (retOne_tmp rfl)), A, by rw [put_full hc2 hk (by omega)], by rw [put_full hc2 hk (by omega)]; exact TabAt.mk Bp O M hpm d_p_O d_m_O hA, E.mono (fun _ _ x => x.elim), fun i h => .inl h⟩
  refine wc_skip ?_
  refine wc_seq ?_
  have hszO := E.size
  refine wc_draw 8 ⟨fun L v => Chg s.fp w4 v ∧ (L 7 = false → Ext w4 v), fun L a b => Chg s.fp a b ∧ (L 7 = true → Ext a b), fun i v u => match i with
    | 0 => v = Value.pointer (some ⟨p, 0, none⟩)
    | 1 => v = Value.pointer (some ⟨p, 0, none⟩)
    | 2 => v = Value.pointer (some ⟨p, 0, none⟩)
    | 3 => v = Value.pointer (some ⟨p, 0, none⟩)
    | 4 => v = s.v
    | 5 => v = .agg n.C.toArray
    | 6 => ∃ b sl, v = SlV.v sl ∧ sl = ⟨some ⟨b, 0, none⟩, 1, 1⟩ ∧ Blk u b T_Nd (Nd.C n) ∧ ¬ s.fp b
    | 7 => ∃ s', v = SlV.v s' ∧ Own u 0 T_Nd 4 s' ((N ++ [n]).map Nd.C) ∧ ∀ i, s'.fp i → s.fp i ∨ w4.heap.size ≤ i
    | _ => True⟩ hmix (by kernel_rfl) ?_ ⟨(Ext.drawn _).mono (fun _ _ x => x.elim), fun _ => Ext.drawn _⟩ ⟨?_, ?_, ?_, ?_, ?_, ?_, ?_, ?_, trivial⟩ ?_
  · intro L i v a b hLi hle hv
    match i, hLi, hv with
    | 0, _, hv => exact hv
    | 1, _, hv => exact hv
    | 2, _, hv => exact hv
    | 3, _, hv => exact hv
    | 4, _, hv => exact hv
    | 5, _, hv => exact hv
    | 6, _, ⟨b, sl, e1, e2, hb, hn⟩ => exact ⟨b, sl, e1, e2, hb.chg hle.1 hn, hn⟩
    | 7, hLi, ⟨s', e1, ho, hg⟩ => exact ⟨s', e1, ho.ext (hle.2 hLi), hg⟩
    | _ + 8, _, _ => exact trivial
  · rintro L g v hL hT 
    refine wl_does (does_mv_p rfl) (by decide) (wl_nil (ob ⟨hT.1, fun h => hT.2 h⟩ ⟨Chg.refl _ _, fun _ => Ext.refl _⟩ rfl))
  · rintro L g v hL hT 
    refine wl_does (does_mv_p rfl) (by decide) (wl_nil (ob ⟨hT.1, fun h => hT.2 h⟩ ⟨Chg.refl _ _, fun _ => Ext.refl _⟩ rfl))
  · rintro L g v hL hT hv1
    refine wl_does (does_nilCheck hv1) (by decide) (wl_nil (ob ⟨hT.1, fun h => hT.2 h⟩ ⟨Chg.refl _ _, fun _ => Ext.refl _⟩ rfl))
  · rintro L g v hL hT hv2
    refine wl_does (does_fieldAddr fl_Tab_rows hv2 (o' := 0) rfl) (by decide) (wl_nil (ob ⟨hT.1, fun h => hT.2 h⟩ ⟨Chg.refl _ _, fun _ => Ext.refl _⟩ rfl))
  · rintro L g v hL hT hv3
    refine wl_does (does_load on_L_api_Node hv3 ((Bp.chg hT.1 d_p_O).cell (Tab.get_rows _))) (by decide) (wl_nil (ob ⟨hT.1, fun h => hT.2 h⟩ ⟨Chg.refl _ _, fun _ => Ext.refl _⟩ rfl))
  · rintro L g v hL hT 
    refine wl_does (does_load_agg ag_Nd rfl ((B3.chg hT.1 d_b3_O).all _ (Nd.len _)) (Nd.len _)) (by decide) (wl_nil (ob ⟨hT.1, fun h => hT.2 h⟩ ⟨Chg.refl _ _, fun _ => Ext.refl _⟩ rfl))
  · rintro L g v hL hT hv5
    refine wl_lit1 sl_L_api_Node el_Nd.zero hv5 rfl (Nd.len _) (by decide) (by decide) fun b v' sl hn hq => wl_nil (ob ⟨hT.1.thenExt hn.ext, fun h => (hT.2 h).trans hn.ext⟩ ⟨hn.ext.mono (fun _ _ x => x.elim), fun _ => hn.ext⟩ ⟨b, sl, rfl, hq, hn.blk, fun e => by have := O.lt _ e; have := hn.at_; have := hT.1.size; omega⟩)
  · rintro L g v hL hT hv4 ⟨b, sl, hv6, hq, hb, hnb⟩
    refine wl_push (C := Nd.C) sl_L_api_Node el_Nd hv4 hv6 (O.ext (hT.2 hL)) hb hq (Nd.len _) (Nd.one _) (by (try simp only [List.length_map, List.length_append, List.length_nil]); omega) (by (try simp only [List.length_map, List.length_append, List.length_nil]); omega) (by decide) fun s' v' ho hc hg => wl_nil (ob ⟨hT.1.trans hc, fun h => (by cases h)⟩ ⟨hc, fun h => (by rw [hL] at h; cases h)⟩ ⟨s', rfl, ho, fun i e => (hg i e).imp id (fun h => Nat.le_trans hT.1.size h)⟩)
  rintro L g w5 hLm hT hv0 hv1 hv2 hv3 hv4 hv5 ⟨b, sl, hv6, hq, hb, hnb⟩ ⟨s44, hv7, O44, g5⟩
  have hcw5 := hT.1
  have d_p_O44 : ¬ s44.fp p := fun e => (g5 _ e).elim d_p_O (fun e => by have := Bp.lt; omega)
  have d_m_O44 : ¬ s44.fp m := fun e => (g5 _ e).elim d_m_O (fun e => by have := M.lt; omega)
  have d_b3_O44 : ¬ s44.fp b3 := fun e => (g5 _ e).elim d_b3_O (fun e => by have := B3.lt; omega)
  replace Bp := Bp.chg hcw5 d_p_O
  replace M := M.chg hcw5 d_m_O
  replace B3 := B3.chg hcw5 d_b3_O
  replace E : Chg A w w4 := E.mono (fun _ _ x => x.elim)
  replace E := E.thenChg hcw5 (fun i hi e => (hA i).2 (.inr (.inr e)))
  refine wl_does (does_nilCheck hv0) (by decide) ?_
  refine wl_does (does_fieldAddr fl_Tab_rows rfl (o' := 0) rfl) (by decide) ?_
  refine wl_store on_L_api_Node rfl hv7 Bp (by rw [Tab.len]; decide) (SlV.one _ _ rfl) (Tab.set_rows _ _) fun w6 B h6 z6 => ?_
  replace Bp := B; clear B
  replace M := M.chg h6 (fun (e : m = p) => by omega)
  replace B3 := B3.chg h6 (fun (e : b3 = p) => by omega)
  replace O44 := O44.keep h6 (fun i hi (e : i = p) => d_p_O44 (e ▸ hi))
  replace E := E.thenChg h6 (fun i hi (e : i = p) => (hA i).2 (.inl e))
  refine wl_nil ?_
  refine wc_seq ?_
  refine wc_quiet 6 (Ext w6) hmix (by kernel_rfl) (by kernel_rfl) (Ext.drawn _) ?_
  refine wq_does (fun v K => does_mv_p rfl) ?_
  refine wq_does (fun v K => does_nilCheck rfl) ?_
  refine wq_does (fun v K => does_fieldAddr fl_Tab_at_ rfl (o' := 1) rfl) ?_
  refine wq_does (fun v K => does_load on_M_api_Node_int rfl ((Bp.ext K).cell (Tab.get_at_ _))) ?_
  refine wq_does (fun v K => does_load_agg ag_Nd rfl ((B3.ext K).all _ (Nd.len _)) (Nd.len _)) ?_
  refine wq_does (fun v K => does_mv_i rfl) ?_
  refine wq_nil fun w7 K => ?_
  replace Bp := Bp.ext K
  replace M := M.ext K
  replace B3 := B3.ext K
  replace O44 := O44.ext K
  replace E := E.thenExt K
  clear K
  refine wl_mapUpdate (D := Value.int .i64) un_M_api_Node_int key_Nd rfl rfl rfl M fun w8 B h8 z8 => ?_
  replace M := B; clear B
  replace Bp := Bp.chg h8 (fun (e : p = m) => by omega)
  replace B3 := B3.chg h8 (fun (e : b3 = m) => by omega)
  replace O44 := O44.keep h8 (fun i hi (e : i = m) => d_m_O44 (e ▸ hi))
  replace E := E.thenChg h8 (fun i hi (e : i = m) => (hA i).2 (.inr (.inl e)))
  refine wl_nil ?_
  refine wc_seq ?_
  refine wc_region ?_
  refine wl_does (does_mv_i rfl) (by decide) ?_
  refine wl_does (does_as_i rfl) (by decide) ?_
  refine wl_does (does_as_i rfl) (by decide) ?_
  refine wl_nil ?_
  refine wc_ret ?_
  have hk := idx_none hc3
  rw [ins_rows hk] at M
  exact ⟨.tuple #[.int .i64 N.length, .int .i64 0], (rets2 (retOne_tmp rfl) (retOne_tmp rfl)), fun i => i = p ∨ i = m ∨ s44.fp i, by rw [put_new hc2 hk (by omega)], by rw [put_new hc2 hk (by omega)]; exact TabAt.mk Bp O44 M hpm d_p_O44 d_m_O44 (fun i => Iff.rfl), E, fun i h => by
      rcases h with h | h | h
      · exact .inl ((hA i).2 (.inl h))
      · exact .inl ((hA i).2 (.inr (.inl h)))
      · rcases g5 i h with h | h
        · exact .inl ((hA i).2 (.inr (.inr h)))
        · exact .inr (by have := hszO; omega)⟩

end Go.Proofs.YtjjkhjieegmphaaDoor
