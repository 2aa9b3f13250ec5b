/- Texts put together: Tables of formulas (program): what a table is in memory; what only reads. Tables of formulas (program): what puts rows. A table that no call made: what it answers. What a call knows of memory, in one: pieces that are its own (each with its blocks, apart from each other), pieces that stay as they are; and how that turns with each step. Over whatever program. What printed functions are made of: checks, loops with a bound, loops with fuel; and how the walk takes them apart. A region that draws its order, with operations that make no value (stores). Literals and appends by typed lists, and what they make of what a call knows. Regions that draw their order, cut into segments at operations that come behind all ahead of them: each segment is shown by itself. Loops over functions, by what a call knows of memory. Contracts of the tables' functions, as the printed walks use them. A table is some rows, or none (a table that no call made). Tables of formulas (program): a new one; one cut short; its rows. Pieces put together: apart from each other; told by what is not seen; slices of structs with references. Over whatever program. Pieces that stay and may share memory; calls that give back pieces that stay. Over whatever program. Chapters 12 and up: terms, hypotheses, scopes: what they are, and the pieces that stay and hold them. errors.As, asked for a refusal: Go's own text, walked (after the kit's worked example of the toy 'toyas'). Errors: nil, or a refusal with the way to it; errors.As, asked for one. A region that draws its order, with stores; each operation knows that all those that it comes behind are over. Chapters 12 and 13: contracts by hand: scopes, errors on their way up, the nodes of a term. Chapter 12, kinds of terms: Lean functions with the answers of the Go functions. Printed by pp.py, a program of mine. Chapter 12, what is right: Lean functions with the answers of the Go functions. Printed by pp.py, a program of mine. Errors on their way up: Lean functions with the answers of the Go functions. Printed by pp.py, a program of mine. Chapter 13, types: Lean functions with the answers of the Go functions. Printed by pp.py, a program of mine. Tables out of rows: Lean functions with the answers of the Go functions. Printed by pp.py, a program of mine. Chapter 13, the heads: Lean functions with the answers of the Go functions. Printed by pp.py, a program of mine. Chapter 13, the document's types: Lean functions with the answers of the Go functions. Printed by pp.py, a program of mine. Chapter 13, what the document infers: Lean functions with the answers of the Go functions. Printed by pp.py, a program of mine. Chapter 13, TypesChecks: Lean functions with the answers of the Go functions. Printed by pp.py, a program of mine. -/
import Derived.Test.YtjebgcoknpcadaaDoorMC1
import Derived.WalkKit
import Derived.LaidEql
import Derived.Stop.Asserts
import Derived.RowKitTokens
import Derived.WideLaws
set_option linter.unusedVariables false
set_option linter.unusedSimpArgs false
section
namespace Go.Proofs.YtjebgcoknpcadaaDoor
open Gw Go.RowKit
def hasRow (N : List Nd) (i : Int) : Bool := decide (0 ≤ i) && decide (i < N.length)
def nodeS (N : List Nd) (i : Int) : Nd × Bool := if hasRow N i = true then (N.getD i.toNat Nd.z, true) else (Nd.z, false)
theorem row_of {N : List Nd} {i : Int} (h : hasRow N i = true) : 0 ≤ i ∧ i < N.length ∧ ∃ a, N[i.toNat]? = some a := by
 simp only [hasRow, Bool.and_eq_true, decide_eq_true_eq] at h
 exact ⟨h.1, h.2, _, List.getElem?_eq_getElem (by omega)⟩
theorem node_no {N : List Nd} {i : Int} (h : hasRow N i = false) : nodeS N i = (Nd.z, false) := by rw [nodeS, h]; rfl
theorem node_yes {N : List Nd} {i : Int} {a : Nd} (h : hasRow N i = true) (ha : N[i.toNat]? = some a) : nodeS N i = (a, true) := by rw [nodeS, if_pos h, List.getD_eq_getElem?_getD, ha]; rfl
def fitsS (N : List Nd) (n : Nd) : Int :=
 if n.kind = 1 then (if ¬ n.l = 0 ∨ ¬ n.r = 0 then 31 else if isWord n.name then 0 else 32)
 else if n.kind = 2 then (if n = { Nd.z with kind := 2 } then 0 else 31)
 else if n.kind = 3 ∨ n.kind = 4 ∨ n.kind = 5 then (if (¬ n.name = ⟨#[]⟩ ∨ hasRow N n.l = false) ∨ hasRow N n.r = false then 31 else 0)
 else 31
def putS (N : List Nd) (n : Nd) : List Nd × Int × Int :=
 if fitsS N n = 0 then (match N.idxOf? n with
  | some k => (N, (k : Int), 0)
  | none => if 1024 ≤ N.length then (N, 0, 30) else (N ++ [n], (N.length : Int), 0))
 else (N, 0, fitsS N n)
theorem put_bad {N : List Nd} {n : Nd} (h : ¬ fitsS N n = 0) : putS N n = (N, 0, fitsS N n) := by rw [putS, if_neg h]
theorem put_old {N : List Nd} {n : Nd} {k : Nat} (h : fitsS N n = 0) (hk : N.idxOf? n = some k) : putS N n = (N, (k : Int), 0) := by rw [putS, if_pos h, hk]
theorem put_full {N : List Nd} {n : Nd} (h : fitsS N n = 0) (hk : N.idxOf? n = none) (hl : 1024 ≤ N.length) : putS N n = (N, 0, 30) := by rw [putS, if_pos h, hk]; exact if_pos hl
theorem put_new {N : List Nd} {n : Nd} (h : fitsS N n = 0) (hk : N.idxOf? n = none) (hl : ¬ 1024 ≤ N.length) : putS N n = (N ++ [n], (N.length : Int), 0) := by rw [putS, if_pos h, hk]; exact if_neg hl
theorem look_zip (n : Nd) : ∀ (N : List Nd) (k : Nat), Gw.look n ((N.zipIdx k).map fun q => (q.1, (q.2 : Int))) = (N.idxOf? n).map fun i => ((i + k : Nat) : Int)
 | [], k => rfl
 | a :: N, k => by
  rw [List.zipIdx_cons, List.map_cons, List.idxOf?_cons]
  unfold Gw.look
  by_cases h : n = a
  ·subst h; simp
  ·have h2 : (a == n) = false := by simpa using fun e => h e.symm
   rw [if_neg h, h2, look_zip n N (k + 1)]
   cases N.idxOf? n with
   | none => rfl
   | some i => simp; omega
theorem look_rows {n : Nd} {N : List Nd} : Gw.look n (N.zipIdx.map fun q => (q.1, (q.2 : Int))) = (N.idxOf? n).map fun (i : Nat) => (i : Int) := by simpa using look_zip n N 0
theorem idx_none {n : Nd} {N : List Nd} (h : (Gw.look n (N.zipIdx.map fun q => (q.1, (q.2 : Int)))).isSome = false) : N.idxOf? n = none := by
 rw [look_rows] at h
 cases hq : N.idxOf? n with
 | none => rfl
 | some k => rw [hq] at h; cases h
theorem ins_none {x : Nd} {y : Int} : ∀ (l : List (Nd × Int)), Gw.look x l = none → ins x y l = l ++ [(x, y)]
 | [], _ => rfl
 | (k, v) :: l, h => by
  unfold Gw.look at h
  unfold ins
  by_cases e : x = k
  ·rw [if_pos e] at h; cases h
  ·rw [if_neg e] at h ⊢; rw [ins_none l h]; rfl
theorem ins_rows {n : Nd} {N : List Nd} (h : N.idxOf? n = none) : ins n (N.length : Int) (N.zipIdx.map fun q => (q.1, (q.2 : Int))) = (N ++ [n]).zipIdx.map fun q => (q.1, (q.2 : Int)) := by
 rw [ins_none _ (by rw [look_rows, h]; rfl), List.zipIdx_append]; simp
def ndV (x : Nd) : Value := .agg (Nd.C x).toArray
structure TabIs (w : World) (p : Nat) (N : List Nd) (A : Nat → Prop) (s : SlV) (m : Nat) : Prop where
 bp : Blk w p T_Tab (Tab.C ⟨s, some m⟩)
 own : Own w 0 T_Nd 4 s (N.map Nd.C)
 map : MapB w m ndV (Value.int .i64) (N.zipIdx.map fun q => (q.1, (q.2 : Int)))
 pm : p ≠ m
 ps : ¬ s.fp p
 ms : ¬ s.fp m
 fp : ∀ i, A i ↔ (i = p ∨ i = m ∨ s.fp i)
def TabAt (w : World) (p : Nat) (N : List Nd) (A : Nat → Prop) : Prop := ∃ s m, Blk w p T_Tab (Tab.C ⟨s, some m⟩) ∧ Own w 0 T_Nd 4 s (N.map Nd.C) ∧ MapB w m ndV (Value.int .i64) (N.zipIdx.map fun q => (q.1, (q.2 : Int))) ∧ p ≠ m ∧ ¬ s.fp p ∧ ¬ s.fp m ∧ (∀ i, A i ↔ (i = p ∨ i = m ∨ s.fp i))
theorem TabAt.mk {w : World} {p : Nat} {N : List Nd} {A : Nat → Prop} {s : SlV} {m : Nat} (bp : Blk w p T_Tab (Tab.C ⟨s, some m⟩)) (own : Own w 0 T_Nd 4 s (N.map Nd.C)) (map : MapB w m ndV (Value.int .i64) (N.zipIdx.map fun q => (q.1, (q.2 : Int)))) (pm : p ≠ m) (ps : ¬ s.fp p) (ms : ¬ s.fp m)
  (fp : ∀ i, A i ↔ (i = p ∨ i = m ∨ s.fp i)) : TabAt w p N A := ⟨s, m, bp, own, map, pm, ps, ms, fp⟩
theorem TabAt.lt {w : World} {p : Nat} {N : List Nd} {A : Nat → Prop} (h : TabAt w p N A) : ∀ i, A i → i < w.heap.size := by
 obtain ⟨s, m, b, o, mm, _, _, _, hA⟩ := h
 intro i hi
 rcases (hA i).1 hi with rfl | rfl | hi
 ·exact b.lt
 ·exact mm.lt
 ·exact o.lt i hi
theorem TabAt.keep {S : Nat → Prop} {w w' : World} {p : Nat} {N : List Nd} {A : Nat → Prop} (h : TabAt w p N A) (hc : Chg S w w') (hs : ∀ i, A i → ¬ S i) : TabAt w' p N A := by
 obtain ⟨s, m, b, o, mm, h1, h2, h3, hA⟩ := h
 exact ⟨s, m, b.chg hc (hs _ ((hA _).2 (.inl rfl))), o.keep hc (fun i hi => hs _ ((hA _).2 (.inr (.inr hi)))), mm.chg hc (hs _ ((hA _).2 (.inr (.inl rfl)))), h1, h2, h3, hA⟩
theorem TabAt.ext {w w' : World} {p : Nat} {N : List Nd} {A : Nat → Prop} (h : TabAt w p N A) (hc : Ext w w') : TabAt w' p N A := h.keep hc (fun _ _ x => x)
theorem formula_Table_alive_ok (w : World) {p : Nat} {N : List Nd} {A : Nat → Prop} (T : TabAt w p N A) : Calls PP F_formula_Table_alive #[.pointer (some ⟨p, 0, none⟩)] w fun e w' => ∃ v, e = .returned v ∧ (v = .bool true ∧ Ext w w') := by
 obtain ⟨s, m, Bp, O, M, hpm, d_p_O, d_m_O, hA⟩ := T
 refine calls_of_wc (n := 12) fn_formula_Table_alive rfl rfl (by simp) ?_
 have E := Ext.refl w
 refine wc_seq (wc_region (wl_does (does_as_b rfl) (by decide) (wl_nil (wc_seq (wc_region (wl_does (does_mv_p rfl) (by decide) (wl_does (does_nep0 un_dictum_formula_has rfl rfl) (by decide) (wl_does (does_mv_b rfl) (by decide) (wl_guard (j := 2) (pol := true) rfl rfl rfl (by decide) (fun hg => does_mv_p rfl) (by decide) (wl_guard (j := 2) (pol := true) rfl rfl rfl (by decide) (fun hg => does_nilCheck (gv_yes hg)) (by decide) (wl_guard (j := 2) (pol := true) rfl rfl rfl (by decide) (fun hg => does_fieldAddr fl_Tab_at_ (gv_yes hg) (o' := 1) rfl) (by decide) (wl_guard (j := 2) (pol := true) rfl rfl rfl (by decide) (fun hg => does_load on_M_api_Node_int (gv_yes hg) (Bp.cell (Tab.get_at_ _))) (by decide) (wl_guard (j := 2) (pol := true) rfl rfl rfl (by decide) (fun hg => does_nem0 un_M_api_Node_int (gv_yes hg) rfl) (by decide) (wl_does (does_and rfl (fun hp => (gv_yes (and_1 hp)))) (by decide) (wl_does (does_as_b rfl) (by decide) (wl_nil (wc_ret ?_)))))))))))))))))
 exact ⟨_, (rets1 (retOne_tmp rfl)), rfl, E⟩
theorem formula_Table_has_ok (w : World) (i : Int) {p : Nat} {N : List Nd} {A : Nat → Prop} (T : TabAt w p N A) : Calls PP F_formula_Table_has #[.pointer (some ⟨p, 0, none⟩), .int .i64 i] w fun e w' => ∃ v, e = .returned v ∧ (v = .bool (hasRow N i) ∧ Ext w w') := by
 obtain ⟨s, m, Bp, O, M, hpm, d_p_O, d_m_O, hA⟩ := T
 refine calls_of_wc (n := 16) fn_formula_Table_has rfl rfl (by simp) ?_
 have E := Ext.refl w
 refine wc_seq (wc_region (wl_does (does_as_b rfl) (by decide) (wl_nil (wc_seq (wc_region (wl_does (does_mv_i rfl) (by decide) (wl_does (does_ge rfl rfl) (by decide) (wl_does (does_mv_b rfl) (by decide) (wl_guard (j := 2) (pol := true) rfl rfl rfl (by decide) (fun hg => does_mv_i rfl) (by decide) (wl_guard (j := 2) (pol := true) rfl rfl rfl (by decide) (fun hg => does_mv_p rfl) (by decide) (wl_guard (j := 2) (pol := true) rfl rfl rfl (by decide) (fun hg => does_nilCheck (gv_yes hg)) (by decide) (wl_guard (j := 2) (pol := true) rfl rfl rfl (by decide) (fun hg => does_fieldAddr fl_Tab_rows (gv_yes hg) (o' := 0) rfl) (by decide) (wl_guard (j := 2) (pol := true) rfl rfl rfl (by decide) (fun hg => does_load on_L_api_Node (gv_yes hg) (Bp.cell (Tab.get_rows _))) (by decide) (wl_guard (j := 2) (pol := true) rfl rfl rfl (by decide) (fun hg => does_lenR sl_L_api_Node (gv_yes hg) O.toRd) (by decide) (wl_guard (j := 2) (pol := true) rfl rfl rfl (by decide) (fun hg => does_lt (gv_yes hg) (gv_yes hg)) (by decide) (wl_does (does_and rfl (fun hp => (gv_yes (and_1 hp)))) (by decide) (wl_does (does_as_b rfl) (by decide) (wl_nil (wc_ret ?_)))))))))))))))))))
 exact ⟨_, (rets1 (retOne_tmp rfl)), rfl, E⟩
theorem formula_Table_Len_ok (w : World) {p : Nat} {N : List Nd} {A : Nat → Prop} (T : TabAt w p N A) : Calls PP F_formula_Table_Len #[.pointer (some ⟨p, 0, none⟩)] w fun e w' => ∃ v, e = .returned v ∧ (v = .int .i64 N.length ∧ Ext w w') := by
 obtain ⟨s, m, Bp, O, M, hpm, d_p_O, d_m_O, hA⟩ := T
 refine calls_of_wc (n := 11) fn_formula_Table_Len rfl rfl (by simp) ?_
 have E := Ext.refl w
 refine wc_seq (wc_region (wl_does (does_as_i rfl) (by decide) (wl_nil (wc_seq (wc_seq (wc_region (wl_does (does_mv_p rfl) (by decide) ?_)))))))
 refine wl_call (does_call ca_formula_Table_alive) (by decide) (formula_Table_alive_ok _ (TabAt.mk Bp O M hpm d_p_O d_m_O hA)) ?_
 rintro _ w1 ⟨rfl, h1⟩
 replace Bp := Bp.ext h1
 replace O := O.ext h1
 replace M := M.ext h1
 replace E := E.thenExt h1
 refine wl_does (does_not rfl) (by decide) (wl_nil ?_)
 refine wc_false rfl (wc_skip (wc_seq (wc_region (wl_does (does_mv_p rfl) (by decide) (wl_does (does_nilCheck rfl) (by decide) (wl_does (does_fieldAddr fl_Tab_rows rfl (o' := 0) rfl) (by decide) (wl_does (does_load on_L_api_Node rfl (Bp.cell (Tab.get_rows _))) (by decide) (wl_does (does_lenR sl_L_api_Node rfl O.toRd) (by decide) (wl_does (does_as_i rfl) (by decide) (wl_nil (wc_ret ?_)))))))))))
 exact ⟨_, (rets1 (retOne_tmp rfl)), rfl, E⟩
theorem formula_Table_Node_ok (w : World) (i : Int) {p : Nat} {N : List Nd} {A : Nat → Prop} (T : TabAt w p N A) : Calls PP F_formula_Table_Node #[.pointer (some ⟨p, 0, none⟩), .int .i64 i] w fun e w' => ∃ v, e = .returned v ∧ (v = .tuple #[.agg (Nd.C (nodeS N i).1).toArray, .bool (nodeS N i).2] ∧ Ext w w') := by
 obtain ⟨s, m, Bp, O, M, hpm, d_p_O, d_m_O, hA⟩ := T
 refine calls_of_wc (n := 23) fn_formula_Table_Node rfl rfl (by simp) ?_
 have E := Ext.refl w
 refine wc_seq (wc_region ?_)
 refine wl_alloc ze_Nd (by decide) fun b4 w1 h1 => ?_
 have l_b4 : w.heap.size ≤ b4 := by have := h1.at_; have := E.size; omega
 have o_b4_p : p < b4 := by have := Bp.lt; have := h1.at_; omega
 have d_b4_O : ¬ s.fp b4 := fun e => by have := O.lt _ e; have := h1.at_; omega
 have o_b4_m : m < b4 := by have := M.lt; have := h1.at_; omega
 have B4 := h1.blk
 replace Bp := Bp.ext h1.ext
 replace O := O.ext h1.ext
 replace M := M.ext h1.ext
 replace E := E.thenExt h1.ext
 refine wl_does (does_as_b rfl) (by decide) (wl_nil (wc_seq (wc_seq (wc_region (wl_does (does_mv_p rfl) (by decide) ?_)))))
 refine wl_call (does_call ca_formula_Table_alive) (by decide) (formula_Table_alive_ok _ (TabAt.mk Bp O M hpm d_p_O d_m_O hA)) ?_
 rintro _ w2 ⟨rfl, h2⟩
 replace Bp := Bp.ext h2
 replace O := O.ext h2
 replace M := M.ext h2
 replace B4 := B4.ext h2
 replace E := E.thenExt h2
 refine wl_does (does_not rfl) (by decide) (wl_does (does_mv_b rfl) (by decide) (wl_guard (j := 3) (pol := false) rfl rfl rfl (by decide) (fun hg => does_mv_p rfl) (by decide) (wl_guard (j := 3) (pol := false) rfl rfl rfl (by decide) (fun hg => does_mv_i rfl) (by decide) ?_)))
 refine wl_gcall (j := 3) (pol := false) rfl rfl rfl (by decide) (fun hg => does_callg ca_formula_Table_has (cons2 (gv_yes hg) (cons2 (gv_yes hg) rfl))) (by decide) (fun hg => formula_Table_has_ok _ _ (TabAt.mk Bp O M hpm d_p_O d_m_O hA)) fun w3 h3 => ?_
 replace Bp := Bp.ext h3
 replace O := O.ext h3
 replace M := M.ext h3
 replace B4 := B4.ext h3
 replace E := E.thenExt h3
 refine wl_guard (j := 3) (pol := false) rfl rfl rfl (by decide) (fun hg => does_not (gv_yes hg)) (by decide) (wl_does (does_or rfl (fun hp => (gv_yes (and_1 hp)))) (by decide) (wl_nil ?_))
 refine wc_if rfl (fun hc1 => ?_) (fun hc1 => ?_)
 all_goals simp only [Bool.not_true, Bool.false_or, Bool.not_eq_true', Bool.not_eq_false'] at hc1
 ·refine wc_seq (wc_region (wl_does (does_build bu_Nd Bld.nil) (by decide) ?_))
  refine wl_store_agg ag_Nd rfl rfl B4 (Nd.len _) (by rw [Nd.len]; decide) (Nd.one _) (store_all (Nd.len _)) fun w4 B h4 z4 => ?_
  replace B4 := B; clear B
  replace Bp := Bp.chg h4 (fun (e : p = b4) => by omega)
  replace O := O.keep h4 (fun i hi (e : i = b4) => d_b4_O (e ▸ hi))
  replace M := M.chg h4 (fun (e : m = b4) => by omega)
  replace E := E.thenChg h4 (fun i hi (e : i = b4) => absurd hi (by omega))
  refine wl_does (does_as_b rfl) (by decide) (wl_nil (wc_ret ?_))
  exact ⟨.tuple #[.agg (Nd.C Nd.z).toArray, .bool false], (rets2 (retOne_agg ag_Nd rfl (B4.all _ (Nd.len _)) (Nd.len _)) (retOne_tmp rfl)), by rw [node_no hc1], E⟩
 refine wc_skip ?_
 obtain ⟨hr0, hr1, a, ha⟩ := row_of hc1
 refine wc_seq (wc_region (wl_does (does_mv_p rfl) (by decide) (wl_does (does_nilCheck rfl) (by decide) (wl_does (does_fieldAddr fl_Tab_rows rfl (o' := 0) rfl) (by decide) (wl_does (does_load on_L_api_Node rfl (Bp.cell (Tab.get_rows _))) (by decide) (wl_does (does_mv_i rfl) (by decide) (wl_does (does_indexR sl_L_api_Node rfl rfl O.toRd (by omega) (by omega)) (by decide) (wl_does (does_load_agg ag_Nd rfl (O.toRd.at ha) (Nd.len _)) (by decide) ?_))))))))
 refine wl_store_agg ag_Nd rfl rfl B4 (Nd.len _) (by rw [Nd.len]; decide) (Nd.one _) (store_all (Nd.len _)) fun w5 B h5 z5 => ?_
 replace B4 := B; clear B
 replace Bp := Bp.chg h5 (fun (e : p = b4) => by omega)
 replace O := O.keep h5 (fun i hi (e : i = b4) => d_b4_O (e ▸ hi))
 replace M := M.chg h5 (fun (e : m = b4) => by omega)
 replace E := E.thenChg h5 (fun i hi (e : i = b4) => absurd hi (by omega))
 refine wl_does (does_as_b rfl) (by decide) (wl_nil (wc_ret ?_))
 exact ⟨.tuple #[.agg (Nd.C a).toArray, .bool true], (rets2 (retOne_agg ag_Nd rfl (B4.all _ (Nd.len _)) (Nd.len _)) (retOne_tmp rfl)), by rw [node_yes hc1 ha], E⟩
theorem formula_Table_fits_ok (w : World) (n : Nd) {p : Nat} {N : List Nd} {A : Nat → Prop} (T : TabAt w p N A) (hs : n.name.size < 9223372036854775808) : Calls PP F_formula_Table_fits #[.pointer (some ⟨p, 0, none⟩), .agg n.C.toArray] w fun e w' => ∃ v, e = .returned v ∧ (v = .int .i64 (fitsS N n) ∧ Ext w w') := by
 obtain ⟨s, m, Bp, O, M, hpm, d_p_O, d_m_O, hA⟩ := T
 refine calls_of_wc (n := 47) fn_formula_Table_fits rfl rfl (by simp) ?_
 have E := Ext.refl w
 refine wc_seq (wc_region ?_)
 refine wl_box_agg rfl (by decide) fun b3 w1 h1 => ?_
 have l_b3 : w.heap.size ≤ b3 := by have := h1.at_; have := E.size; omega
 have o_b3_p : p < b3 := by have := Bp.lt; have := h1.at_; omega
 have d_b3_O : ¬ s.fp b3 := fun e => by have := O.lt _ e; have := h1.at_; omega
 have o_b3_m : m < b3 := by have := M.lt; have := h1.at_; omega
 have B3 := h1.blk
 replace Bp := Bp.ext h1.ext
 replace O := O.ext h1.ext
 replace M := M.ext h1.ext
 replace E := E.thenExt h1.ext
 refine wl_does (does_as_i rfl) (by decide) (wl_nil (wc_seq (wc_seq (wc_region (wl_does (does_fieldAddr fl_Nd_kind rfl (o' := 0) rfl) (by decide) (wl_does (does_load on_api_Kind rfl (B3.cell (Nd.get_kind _))) (by decide) (wl_nil ?_)))))))
 refine wc_block (wc_seq (wc_region (wl_does (does_eq rfl rfl) (by decide) (wl_does (does_as_b rfl) (by decide) (wl_nil ?_)))))
 refine wc_if rfl (fun hc1 => ?_) (fun hc1 => ?_)
 ·refine wc_seq (wc_seq (wc_region (wl_does (does_fieldAddr fl_Nd_l rfl (o' := 2) rfl) (by decide) (wl_does (does_load on_int rfl (B3.cell (Nd.get_l _))) (by decide) (wl_does (does_ne rfl rfl) (by decide) (wl_does (does_mv_b rfl) (by decide) (wl_guard (j := 3) (pol := false) rfl rfl rfl (by decide) (fun hg => does_fieldAddr fl_Nd_r rfl (o' := 3) rfl) (by decide) (wl_guard (j := 3) (pol := false) rfl rfl rfl (by decide) (fun hg => does_load on_int (gv_yes hg) (B3.cell (Nd.get_r _))) (by decide) (wl_guard (j := 3) (pol := false) rfl rfl rfl (by decide) (fun hg => does_ne (gv_yes hg) rfl) (by decide) (wl_does (does_or rfl (fun hp => (gv_yes (and_1 hp)))) (by decide) (wl_nil ?_)))))))))))
  refine wc_if rfl (fun hc2 => ?_) (fun hc2 => ?_)
  ·refine wc_seq (wc_region (wl_does (does_as_i rfl) (by decide) (wl_nil (wc_ret ?_))))
   exact ⟨_, (rets1 (retOne_tmp rfl)), congrArg (Value.int .i64) (by unfold fitsS; first | (simp_all; done) | (rw [if_neg (by omega), if_neg (by omega), if_pos (by omega), if_pos ‹_›])), E⟩
  refine wc_skip (wc_seq (wc_region (wl_does (does_fieldAddr fl_Nd_name rfl (o' := 1) rfl) (by decide) (wl_does (does_load on_string rfl (B3.cell (Nd.get_name _))) (by decide) ?_))))
  refine wl_call (does_call ca_formula_Word) (by decide) (formula_Word_ok _ _ hs) ?_
  rintro _ w2 ⟨rfl, h2⟩
  replace Bp := Bp.ext h2
  replace O := O.ext h2
  replace M := M.ext h2
  replace B3 := B3.ext h2
  replace E := E.thenExt h2
  refine wl_does (does_not rfl) (by decide) (wl_nil ?_)
  refine wc_if rfl (fun hc3 => ?_) (fun hc3 => ?_)
  ·refine wc_seq (wc_region (wl_does (does_as_i rfl) (by decide) (wl_nil (wc_ret ?_))))
   exact ⟨_, (rets1 (retOne_tmp rfl)), congrArg (Value.int .i64) (by unfold fitsS; first | (simp_all; done) | (rw [if_neg (by omega), if_neg (by omega), if_pos (by omega), if_pos ‹_›])), E⟩
  refine wc_skip (wc_seq (wc_region (wl_does (does_as_i rfl) (by decide) (wl_nil (wc_ret ?_)))))
  exact ⟨_, (rets1 (retOne_tmp rfl)), congrArg (Value.int .i64) (by unfold fitsS; first | (simp_all; done) | (rw [if_neg (by omega), if_neg (by omega), if_pos (by omega), if_pos ‹_›])), E⟩
 ·refine wc_seq (wc_region (wl_does (does_eq rfl rfl) (by decide) (wl_does (does_as_b rfl) (by decide) (wl_nil ?_))))
  refine wc_if rfl (fun hc4 => ?_) (fun hc4 => ?_)
  ·refine wc_seq (wc_region (wl_does (does_load_agg ag_Nd rfl (B3.all _ (Nd.len _)) (Nd.len _)) (by decide) (wl_does (does_build bu_Nd (Bld.one rfl rfl (by rw [Nd.len]; decide) (Nd.set_kind _ _) Bld.nil)) (by decide) (wl_does (does_nev eg_Nd (eq_Nd _ _) (by decide) rfl rfl) (by decide) (wl_nil ?_)))))
   refine wc_if rfl (fun hc5 => ?_) (fun hc5 => ?_)
   ·refine wc_seq (wc_region (wl_does (does_as_i rfl) (by decide) (wl_nil (wc_ret ?_))))
    exact ⟨_, (rets1 (retOne_tmp rfl)), congrArg (Value.int .i64) (by unfold fitsS; first | (simp_all; done) | (rw [if_neg (by omega), if_neg (by omega), if_pos (by omega), if_pos ‹_›])), E⟩
   refine wc_skip (wc_seq (wc_region (wl_does (does_as_i rfl) (by decide) (wl_nil (wc_ret ?_)))))
   exact ⟨_, (rets1 (retOne_tmp rfl)), congrArg (Value.int .i64) (by unfold fitsS; first | (simp_all; done) | (rw [if_neg (by omega), if_neg (by omega), if_pos (by omega), if_pos ‹_›])), E⟩
  ·refine wc_seq (wc_seq (wc_region (wl_does (does_eq rfl rfl) (by decide) (wl_does (does_as_b rfl) (by decide) (wl_nil ?_)))))
   refine wc_if rfl (fun hc6 => ?_) (fun hc6 => ?_)
   ·refine wc_skip ?_
    refine wc_if rfl (fun hc7 => ?_) (fun hc7 => ?_)
    rotate_left
    ·refine wc_seq (wc_region (wl_does (does_as_i rfl) (by decide) (wl_nil (wc_ret ?_))))
     exact ⟨_, (rets1 (retOne_tmp rfl)), congrArg (Value.int .i64) (by unfold fitsS; first | (simp_all; done) | (rw [if_neg (by omega), if_neg (by omega), if_pos (by omega), if_pos ‹_›])), E⟩
    refine wc_seq (wc_region (wl_does (does_fieldAddr fl_Nd_name rfl (o' := 1) rfl) (by decide) (wl_does (does_load on_string rfl (B3.cell (Nd.get_name _))) (by decide) (wl_does (does_nes rfl rfl) (by decide) (wl_does (does_mv_b rfl) (by decide) (wl_guard (j := 3) (pol := false) rfl rfl rfl (by decide) (fun hg => does_mv_p rfl) (by decide) (wl_guard (j := 3) (pol := false) rfl rfl rfl (by decide) (fun hg => does_fieldAddr fl_Nd_l rfl (o' := 2) rfl) (by decide) (wl_guard (j := 3) (pol := false) rfl rfl rfl (by decide) (fun hg => does_load on_int (gv_yes hg) (B3.cell (Nd.get_l _))) (by decide) ?_))))))))
    refine wl_gcall (j := 3) (pol := false) rfl rfl rfl (by decide) (fun hg => does_callg ca_formula_Table_has (cons2 (gv_yes hg) (cons2 (gv_yes hg) rfl))) (by decide) (fun hg => formula_Table_has_ok _ _ (TabAt.mk Bp O M hpm d_p_O d_m_O hA)) fun w3 h3 => ?_
    replace Bp := Bp.ext h3
    replace O := O.ext h3
    replace M := M.ext h3
    replace B3 := B3.ext h3
    replace E := E.thenExt h3
    refine wl_guard (j := 3) (pol := false) rfl rfl rfl (by decide) (fun hg => does_not (gv_yes hg)) (by decide) (wl_does (does_or rfl (fun hp => (gv_yes (and_1 hp)))) (by decide) (wl_does (does_mv_b rfl) (by decide) (wl_guard (j := 10) (pol := false) rfl rfl rfl (by decide) (fun hg => does_mv_p rfl) (by decide) (wl_guard (j := 10) (pol := false) rfl rfl rfl (by decide) (fun hg => does_fieldAddr fl_Nd_r rfl (o' := 3) rfl) (by decide) (wl_guard (j := 10) (pol := false) rfl rfl rfl (by decide) (fun hg => does_load on_int (gv_yes hg) (B3.cell (Nd.get_r _))) (by decide) ?_)))))
    refine wl_gcall (j := 10) (pol := false) rfl rfl rfl (by decide) (fun hg => does_callg ca_formula_Table_has (cons2 (gv_yes hg) (cons2 (gv_yes hg) rfl))) (by decide) (fun hg => formula_Table_has_ok _ _ (TabAt.mk Bp O M hpm d_p_O d_m_O hA)) fun w4 h4 => ?_
    replace Bp := Bp.ext h4
    replace O := O.ext h4
    replace M := M.ext h4
    replace B3 := B3.ext h4
    replace E := E.thenExt h4
    refine wl_guard (j := 10) (pol := false) rfl rfl rfl (by decide) (fun hg => does_not (gv_yes hg)) (by decide) (wl_does (does_or rfl (fun hp => (gv_yes (and_1 hp)))) (by decide) (wl_nil ?_))
    refine wc_if rfl (fun hc8 => ?_) (fun hc8 => ?_)
    ·refine wc_seq (wc_region (wl_does (does_as_i rfl) (by decide) (wl_nil (wc_ret ?_))))
     exact ⟨_, (rets1 (retOne_tmp rfl)), congrArg (Value.int .i64) (by unfold fitsS; first | (simp_all; done) | (rw [if_neg (by omega), if_neg (by omega), if_pos (by omega), if_pos ‹_›])), E⟩
    refine wc_skip (wc_seq (wc_region (wl_does (does_as_i rfl) (by decide) (wl_nil (wc_ret ?_)))))
    exact ⟨_, (rets1 (retOne_tmp rfl)), congrArg (Value.int .i64) (by unfold fitsS; first | (simp_all; done) | (rw [if_neg (by omega), if_neg (by omega), if_pos (by omega), if_pos ‹_›])), E⟩
   ·refine wc_seq (wc_region (wl_does (does_eq rfl rfl) (by decide) (wl_does (does_as_b rfl) (by decide) (wl_nil ?_))))
    refine wc_if rfl (fun hc9 => ?_) (fun hc9 => ?_)
    ·refine wc_skip ?_
     refine wc_if rfl (fun hc10 => ?_) (fun hc10 => ?_)
     rotate_left
     ·refine wc_seq (wc_region (wl_does (does_as_i rfl) (by decide) (wl_nil (wc_ret ?_))))
      exact ⟨_, (rets1 (retOne_tmp rfl)), congrArg (Value.int .i64) (by unfold fitsS; first | (simp_all; done) | (rw [if_neg (by omega), if_neg (by omega), if_pos (by omega), if_pos ‹_›])), E⟩
     refine wc_seq (wc_region (wl_does (does_fieldAddr fl_Nd_name rfl (o' := 1) rfl) (by decide) (wl_does (does_load on_string rfl (B3.cell (Nd.get_name _))) (by decide) (wl_does (does_nes rfl rfl) (by decide) (wl_does (does_mv_b rfl) (by decide) (wl_guard (j := 3) (pol := false) rfl rfl rfl (by decide) (fun hg => does_mv_p rfl) (by decide) (wl_guard (j := 3) (pol := false) rfl rfl rfl (by decide) (fun hg => does_fieldAddr fl_Nd_l rfl (o' := 2) rfl) (by decide) (wl_guard (j := 3) (pol := false) rfl rfl rfl (by decide) (fun hg => does_load on_int (gv_yes hg) (B3.cell (Nd.get_l _))) (by decide) ?_))))))))
     refine wl_gcall (j := 3) (pol := false) rfl rfl rfl (by decide) (fun hg => does_callg ca_formula_Table_has (cons2 (gv_yes hg) (cons2 (gv_yes hg) rfl))) (by decide) (fun hg => formula_Table_has_ok _ _ (TabAt.mk Bp O M hpm d_p_O d_m_O hA)) fun w5 h5 => ?_
     replace Bp := Bp.ext h5
     replace O := O.ext h5
     replace M := M.ext h5
     replace B3 := B3.ext h5
     replace E := E.thenExt h5
     refine wl_guard (j := 3) (pol := false) rfl rfl rfl (by decide) (fun hg => does_not (gv_yes hg)) (by decide) (wl_does (does_or rfl (fun hp => (gv_yes (and_1 hp)))) (by decide) (wl_does (does_mv_b rfl) (by decide) (wl_guard (j := 10) (pol := false) rfl rfl rfl (by decide) (fun hg => does_mv_p rfl) (by decide) (wl_guard (j := 10) (pol := false) rfl rfl rfl (by decide) (fun hg => does_fieldAddr fl_Nd_r rfl (o' := 3) rfl) (by decide) (wl_guard (j := 10) (pol := false) rfl rfl rfl (by decide) (fun hg => does_load on_int (gv_yes hg) (B3.cell (Nd.get_r _))) (by decide) ?_)))))
     refine wl_gcall (j := 10) (pol := false) rfl rfl rfl (by decide) (fun hg => does_callg ca_formula_Table_has (cons2 (gv_yes hg) (cons2 (gv_yes hg) rfl))) (by decide) (fun hg => formula_Table_has_ok _ _ (TabAt.mk Bp O M hpm d_p_O d_m_O hA)) fun w6 h6 => ?_
     replace Bp := Bp.ext h6
     replace O := O.ext h6
     replace M := M.ext h6
     replace B3 := B3.ext h6
     replace E := E.thenExt h6
     refine wl_guard (j := 10) (pol := false) rfl rfl rfl (by decide) (fun hg => does_not (gv_yes hg)) (by decide) (wl_does (does_or rfl (fun hp => (gv_yes (and_1 hp)))) (by decide) (wl_nil ?_))
     refine wc_if rfl (fun hc11 => ?_) (fun hc11 => ?_)
     ·refine wc_seq (wc_region (wl_does (does_as_i rfl) (by decide) (wl_nil (wc_ret ?_))))
      exact ⟨_, (rets1 (retOne_tmp rfl)), congrArg (Value.int .i64) (by unfold fitsS; first | (simp_all; done) | (rw [if_neg (by omega), if_neg (by omega), if_pos (by omega), if_pos ‹_›])), E⟩
     refine wc_skip (wc_seq (wc_region (wl_does (does_as_i rfl) (by decide) (wl_nil (wc_ret ?_)))))
     exact ⟨_, (rets1 (retOne_tmp rfl)), congrArg (Value.int .i64) (by unfold fitsS; first | (simp_all; done) | (rw [if_neg (by omega), if_neg (by omega), if_pos (by omega), if_pos ‹_›])), E⟩
    ·refine wc_region (wl_does (does_eq rfl rfl) (by decide) (wl_does (does_as_b rfl) (by decide) (wl_nil ?_)))
     refine wc_if rfl (fun hc12 => ?_) (fun hc12 => ?_)
     rotate_left
     ·refine wc_seq (wc_region (wl_does (does_as_i rfl) (by decide) (wl_nil (wc_ret ?_))))
      exact ⟨_, (rets1 (retOne_tmp rfl)), congrArg (Value.int .i64) (by unfold fitsS; first | (simp_all; done) | (rw [if_neg (by omega), if_neg (by omega), if_pos (by omega), if_pos ‹_›])), E⟩
     refine wc_seq (wc_region (wl_does (does_fieldAddr fl_Nd_name rfl (o' := 1) rfl) (by decide) (wl_does (does_load on_string rfl (B3.cell (Nd.get_name _))) (by decide) (wl_does (does_nes rfl rfl) (by decide) (wl_does (does_mv_b rfl) (by decide) (wl_guard (j := 3) (pol := false) rfl rfl rfl (by decide) (fun hg => does_mv_p rfl) (by decide) (wl_guard (j := 3) (pol := false) rfl rfl rfl (by decide) (fun hg => does_fieldAddr fl_Nd_l rfl (o' := 2) rfl) (by decide) (wl_guard (j := 3) (pol := false) rfl rfl rfl (by decide) (fun hg => does_load on_int (gv_yes hg) (B3.cell (Nd.get_l _))) (by decide) ?_))))))))
     refine wl_gcall (j := 3) (pol := false) rfl rfl rfl (by decide) (fun hg => does_callg ca_formula_Table_has (cons2 (gv_yes hg) (cons2 (gv_yes hg) rfl))) (by decide) (fun hg => formula_Table_has_ok _ _ (TabAt.mk Bp O M hpm d_p_O d_m_O hA)) fun w7 h7 => ?_
     replace Bp := Bp.ext h7
     replace O := O.ext h7
     replace M := M.ext h7
     replace B3 := B3.ext h7
     replace E := E.thenExt h7
     refine wl_guard (j := 3) (pol := false) rfl rfl rfl (by decide) (fun hg => does_not (gv_yes hg)) (by decide) (wl_does (does_or rfl (fun hp => (gv_yes (and_1 hp)))) (by decide) (wl_does (does_mv_b rfl) (by decide) (wl_guard (j := 10) (pol := false) rfl rfl rfl (by decide) (fun hg => does_mv_p rfl) (by decide) (wl_guard (j := 10) (pol := false) rfl rfl rfl (by decide) (fun hg => does_fieldAddr fl_Nd_r rfl (o' := 3) rfl) (by decide) (wl_guard (j := 10) (pol := false) rfl rfl rfl (by decide) (fun hg => does_load on_int (gv_yes hg) (B3.cell (Nd.get_r _))) (by decide) ?_)))))
     refine wl_gcall (j := 10) (pol := false) rfl rfl rfl (by decide) (fun hg => does_callg ca_formula_Table_has (cons2 (gv_yes hg) (cons2 (gv_yes hg) rfl))) (by decide) (fun hg => formula_Table_has_ok _ _ (TabAt.mk Bp O M hpm d_p_O d_m_O hA)) fun w8 h8 => ?_
     replace Bp := Bp.ext h8
     replace O := O.ext h8
     replace M := M.ext h8
     replace B3 := B3.ext h8
     replace E := E.thenExt h8
     refine wl_guard (j := 10) (pol := false) rfl rfl rfl (by decide) (fun hg => does_not (gv_yes hg)) (by decide) (wl_does (does_or rfl (fun hp => (gv_yes (and_1 hp)))) (by decide) (wl_nil ?_))
     refine wc_if rfl (fun hc13 => ?_) (fun hc13 => ?_)
     ·refine wc_seq (wc_region (wl_does (does_as_i rfl) (by decide) (wl_nil (wc_ret ?_))))
      exact ⟨_, (rets1 (retOne_tmp rfl)), congrArg (Value.int .i64) (by unfold fitsS; first | (simp_all; done) | (rw [if_neg (by omega), if_neg (by omega), if_pos (by omega), if_pos ‹_›])), E⟩
     refine wc_skip (wc_seq (wc_region (wl_does (does_as_i rfl) (by decide) (wl_nil (wc_ret ?_)))))
     exact ⟨_, (rets1 (retOne_tmp rfl)), congrArg (Value.int .i64) (by unfold fitsS; first | (simp_all; done) | (rw [if_neg (by omega), if_neg (by omega), if_pos (by omega), if_pos ‹_›])), E⟩
theorem formula_Table_Put_ok (w : World) (n : Nd) {p : Nat} {N : List Nd} {A : Nat → Prop} (T : TabAt w p N A) (hs : n.name.size < 9223372036854775808) (hN : N.length ≤ 1024) : Calls PP F_formula_Table_Put #[.pointer (some ⟨p, 0, none⟩), .agg n.C.toArray] w fun e w' => ∃ v, e = .returned v ∧ (∃ A', v = .tuple #[.int .i64 (putS N n).2.1, .int .i64 (putS N n).2.2] ∧ TabAt w' p (putS N n).1 A' ∧ Chg A w w' ∧ (∀ i, A' i → A i ∨ w.heap.size ≤ i)) := by
 obtain ⟨s, m, Bp, O, M, hpm, d_p_O, d_m_O, hA⟩ := T
 refine calls_of_wc (n := 54) fn_formula_Table_Put rfl rfl (by simp) ?_
 have E := Ext.refl w
 refine wc_seq (wc_region ?_)
 refine wl_box_agg rfl (by decide) fun b3 w1 h1 => ?_
 have l_b3 : w.heap.size ≤ b3 := by have := h1.at_; have := E.size; omega
 have o_b3_p : p < b3 := by have := Bp.lt; have := h1.at_; omega
 have d_b3_O : ¬ s.fp b3 := fun e => by have := O.lt _ e; have := h1.at_; omega
 have o_b3_m : m < b3 := by have := M.lt; have := h1.at_; omega
 have B3 := h1.blk
 replace Bp := Bp.ext h1.ext
 replace O := O.ext h1.ext
 replace M := M.ext h1.ext
 replace E := E.thenExt h1.ext
 refine wl_does (does_as_i rfl) (by decide) (wl_does (does_as_i rfl) (by decide) (wl_nil (wc_seq (wc_seq (wc_region (wl_does (does_mv_p rfl) (by decide) ?_))))))
 refine wl_call (does_call ca_formula_Table_alive) (by decide) (formula_Table_alive_ok _ (TabAt.mk Bp O M hpm d_p_O d_m_O hA)) ?_
 rintro _ w2 ⟨rfl, h2⟩
 replace Bp := Bp.ext h2
 replace O := O.ext h2
 replace M := M.ext h2
 replace B3 := B3.ext h2
 replace E := E.thenExt h2
 refine wl_does (does_not rfl) (by decide) (wl_nil ?_)
 refine wc_false rfl (wc_skip (wc_seq (wc_seq (wc_region (wl_does (does_mv_p rfl) (by decide) (wl_does (does_load_agg ag_Nd rfl (B3.all _ (Nd.len _)) (Nd.len _)) (by decide) ?_))))))
 refine wl_call (does_call ca_formula_Table_fits) (by decide) (formula_Table_fits_ok _ _ (TabAt.mk Bp O M hpm d_p_O d_m_O hA) hs) ?_
 rintro _ w3 ⟨rfl, h3⟩
 replace Bp := Bp.ext h3
 replace O := O.ext h3
 replace M := M.ext h3
 replace B3 := B3.ext h3
 replace E := E.thenExt h3
 refine wl_does (does_as_i rfl) (by decide) (wl_nil (wc_seq (wc_region (wl_does (does_mv_i rfl) (by decide) (wl_does (does_ne rfl rfl) (by decide) (wl_nil ?_))))))
 refine wc_if rfl (fun hc2 => ?_) (fun hc2 => ?_)
 all_goals try simp only [decide_eq_true_eq, decide_eq_false_iff_not, Bool.and_eq_true, Bool.or_eq_true, Bool.and_eq_false_iff, Bool.or_eq_false_iff, Bool.not_eq_true', Bool.not_eq_false', Int.not_lt, Int.not_le, ne_eq, Decidable.not_not] at hc2
 ·refine wc_seq (wc_region (wl_does (does_mv_i rfl) (by decide) (wl_does (does_as_i rfl) (by decide) (wl_does (does_as_i rfl) (by decide) (wl_nil (wc_ret ?_))))))
  exact ⟨.tuple #[.int .i64 0, .int .i64 (fitsS N n)], (rets2 (retOne_tmp rfl) (retOne_tmp rfl)), A, by rw [put_bad hc2], by rw [put_bad hc2]; exact TabAt.mk Bp O M hpm d_p_O d_m_O hA, E.mono (fun _ _ x => x.elim), fun i h => .inl h⟩
 refine wc_skip (wc_seq (wc_seq ?_))
 refine wc_quiet 10 (Ext w3) hmix (by kernel_rfl) (by kernel_rfl) (Ext.drawn _) (wq_does (fun v K => does_mv_p rfl) (wq_does (fun v K => does_nilCheck rfl) (wq_does (fun v K => does_fieldAddr fl_Tab_at_ rfl (o' := 1) rfl) (wq_does (fun v K => does_load on_M_api_Node_int rfl ((Bp.ext K).cell (Tab.get_at_ _))) (wq_does (fun v K => does_load_agg ag_Nd rfl ((B3.ext K).all _ (Nd.len _)) (Nd.len _)) (wq_does (fun v K => does_lookup_ok un_M_api_Node_int key_Nd zv_int rfl rfl (M.ext K)) (wq_does (fun v K => does_mv_t rfl) (wq_does (fun v K => does_extract rfl rfl) (wq_does (fun v K => does_extract rfl rfl) (wq_does (fun v K => does_as_i rfl) ?_))))))))))
 refine wq_nil fun w4 K => ?_
 replace Bp := Bp.ext K
 replace O := O.ext K
 replace M := M.ext K
 replace B3 := B3.ext K
 replace E := E.thenExt K
 clear K
 refine wl_does (does_as_b rfl) (by decide) (wl_nil (wc_seq (wc_region (wl_does (does_mv_b rfl) (by decide) (wl_nil ?_)))))
 refine wc_if rfl (fun hc3 => ?_) (fun hc3 => ?_)
 all_goals skip
 ·refine wc_seq (wc_region (wl_does (does_mv_i rfl) (by decide) (wl_does (does_as_i rfl) (by decide) (wl_does (does_as_i rfl) (by decide) (wl_nil (wc_ret ?_))))))
  rw [look_rows] at hc3
  obtain ⟨k, hk⟩ : ∃ k, N.idxOf? n = some k := by cases hq : N.idxOf? n with | none => rw [hq] at hc3; cases hc3 | some k => exact ⟨k, rfl⟩
  exact ⟨.tuple #[.int .i64 ((Gw.look n (N.zipIdx.map fun q => (q.1, (q.2 : Int)))).getD 0), .int .i64 0], (rets2 (retOne_tmp rfl) (retOne_tmp rfl)), A, by rw [put_old hc2 hk, look_rows, hk]; rfl, by rw [put_old hc2 hk]; exact TabAt.mk Bp O M hpm d_p_O d_m_O hA, E.mono (fun _ _ x => x.elim), fun i h => .inl h⟩
 refine wc_skip (wc_seq (wc_region (wl_does (does_mv_p rfl) (by decide) (wl_does (does_nilCheck rfl) (by decide) (wl_does (does_fieldAddr fl_Tab_rows rfl (o' := 0) rfl) (by decide) (wl_does (does_load on_L_api_Node rfl (Bp.cell (Tab.get_rows _))) (by decide) (wl_does (does_lenR sl_L_api_Node rfl O.toRd) (by decide) (wl_does (does_as_i rfl) (by decide) (wl_nil (wc_seq (wc_seq (wc_region (wl_does (does_mv_i rfl) (by decide) (wl_does (does_ge rfl rfl) (by decide) (wl_nil ?_)))))))))))))))
 refine wc_if rfl (fun hc4 => ?_) (fun hc4 => ?_)
 all_goals try simp only [decide_eq_true_eq, decide_eq_false_iff_not, Bool.and_eq_true, Bool.or_eq_true, Bool.and_eq_false_iff, Bool.or_eq_false_iff, Bool.not_eq_true', Bool.not_eq_false', Int.not_lt, Int.not_le, ne_eq, Decidable.not_not] at hc4
 ·refine wc_seq (wc_region (wl_does (does_as_i rfl) (by decide) (wl_does (does_as_i rfl) (by decide) (wl_nil (wc_ret ?_)))))
  have hk := idx_none hc3
  exact ⟨.tuple #[.int .i64 0, .int .i64 30], (rets2 (retOne_tmp rfl) (retOne_tmp rfl)), A, by rw [put_full hc2 hk (by omega)], by rw [put_full hc2 hk (by omega)]; exact TabAt.mk Bp O M hpm d_p_O d_m_O hA, E.mono (fun _ _ x => x.elim), fun i h => .inl h⟩
 refine wc_skip (wc_seq ?_)
 have hszO := E.size
 refine wc_draw 8 ⟨fun L v => Chg s.fp w4 v ∧ (L 7 = false → Ext w4 v), fun L a b => Chg s.fp a b ∧ (L 7 = true → Ext a b), fun i v u => match i with
  | 0 => v = Value.pointer (some ⟨p, 0, none⟩)
  | 1 => v = Value.pointer (some ⟨p, 0, none⟩)
  | 2 => v = Value.pointer (some ⟨p, 0, none⟩)
  | 3 => v = Value.pointer (some ⟨p, 0, none⟩)
  | 4 => v = s.v
  | 5 => v = .agg n.C.toArray
  | 6 => ∃ b sl, v = SlV.v sl ∧ sl = ⟨some ⟨b, 0, none⟩, 1, 1⟩ ∧ Blk u b T_Nd (Nd.C n) ∧ ¬ s.fp b
  | 7 => ∃ s', v = SlV.v s' ∧ Own u 0 T_Nd 4 s' ((N ++ [n]).map Nd.C) ∧ ∀ i, s'.fp i → s.fp i ∨ w4.heap.size ≤ i
  | _ => True⟩ hmix (by kernel_rfl) ?_ ⟨(Ext.drawn _).mono (fun _ _ x => x.elim), fun _ => Ext.drawn _⟩ ⟨?_, ?_, ?_, ?_, ?_, ?_, ?_, ?_, trivial⟩ ?_
 ·intro L i v a b hLi hle hv
  match i, hLi, hv with
  | 0, _, hv => exact hv
  | 1, _, hv => exact hv
  | 2, _, hv => exact hv
  | 3, _, hv => exact hv
  | 4, _, hv => exact hv
  | 5, _, hv => exact hv
  | 6, _, ⟨b, sl, e1, e2, hb, hn⟩ => exact ⟨b, sl, e1, e2, hb.chg hle.1 hn, hn⟩
  | 7, hLi, ⟨s', e1, ho, hg⟩ => exact ⟨s', e1, ho.ext (hle.2 hLi), hg⟩
  | _ + 8, _, _ => exact trivial
 ·rintro L g v hL hT 
  refine wl_does (does_mv_p rfl) (by decide) (wl_nil (ob ⟨hT.1, fun h => hT.2 h⟩ ⟨Chg.refl _ _, fun _ => Ext.refl _⟩ rfl))
 ·rintro L g v hL hT 
  refine wl_does (does_mv_p rfl) (by decide) (wl_nil (ob ⟨hT.1, fun h => hT.2 h⟩ ⟨Chg.refl _ _, fun _ => Ext.refl _⟩ rfl))
 ·rintro L g v hL hT hv1
  refine wl_does (does_nilCheck hv1) (by decide) (wl_nil (ob ⟨hT.1, fun h => hT.2 h⟩ ⟨Chg.refl _ _, fun _ => Ext.refl _⟩ rfl))
 ·rintro L g v hL hT hv2
  refine wl_does (does_fieldAddr fl_Tab_rows hv2 (o' := 0) rfl) (by decide) (wl_nil (ob ⟨hT.1, fun h => hT.2 h⟩ ⟨Chg.refl _ _, fun _ => Ext.refl _⟩ rfl))
 ·rintro L g v hL hT hv3
  refine wl_does (does_load on_L_api_Node hv3 ((Bp.chg hT.1 d_p_O).cell (Tab.get_rows _))) (by decide) (wl_nil (ob ⟨hT.1, fun h => hT.2 h⟩ ⟨Chg.refl _ _, fun _ => Ext.refl _⟩ rfl))
 ·rintro L g v hL hT 
  refine wl_does (does_load_agg ag_Nd rfl ((B3.chg hT.1 d_b3_O).all _ (Nd.len _)) (Nd.len _)) (by decide) (wl_nil (ob ⟨hT.1, fun h => hT.2 h⟩ ⟨Chg.refl _ _, fun _ => Ext.refl _⟩ rfl))
 ·rintro L g v hL hT hv5
  refine wl_lit1 sl_L_api_Node el_Nd.zero hv5 rfl (Nd.len _) (by decide) (by decide) fun b v' sl hn hq => wl_nil (ob ⟨hT.1.thenExt hn.ext, fun h => (hT.2 h).trans hn.ext⟩ ⟨hn.ext.mono (fun _ _ x => x.elim), fun _ => hn.ext⟩ ⟨b, sl, rfl, hq, hn.blk, fun e => by have := O.lt _ e; have := hn.at_; have := hT.1.size; omega⟩)
 ·rintro L g v hL hT hv4 ⟨b, sl, hv6, hq, hb, hnb⟩
  refine wl_push (C := Nd.C) sl_L_api_Node el_Nd hv4 hv6 (O.ext (hT.2 hL)) hb hq (Nd.len _) (Nd.one _) (by (try simp only [List.length_map, List.length_append, List.length_nil]); omega) (by (try simp only [List.length_map, List.length_append, List.length_nil]); omega) (by decide) fun s' v' ho hc hg => wl_nil (ob ⟨hT.1.trans hc, fun h => (by cases h)⟩ ⟨hc, fun h => (by rw [hL] at h; cases h)⟩ ⟨s', rfl, ho, fun i e => (hg i e).imp id (fun h => Nat.le_trans hT.1.size h)⟩)
 rintro L g w5 hLm hT hv0 hv1 hv2 hv3 hv4 hv5 ⟨b, sl, hv6, hq, hb, hnb⟩ ⟨s44, hv7, O44, g5⟩
 have hcw5 := hT.1
 have d_p_O44 : ¬ s44.fp p := fun e => (g5 _ e).elim d_p_O (fun e => by have := Bp.lt; omega)
 have d_m_O44 : ¬ s44.fp m := fun e => (g5 _ e).elim d_m_O (fun e => by have := M.lt; omega)
 have d_b3_O44 : ¬ s44.fp b3 := fun e => (g5 _ e).elim d_b3_O (fun e => by have := B3.lt; omega)
 replace Bp := Bp.chg hcw5 d_p_O
 replace M := M.chg hcw5 d_m_O
 replace B3 := B3.chg hcw5 d_b3_O
 replace E : Chg A w w4 := E.mono (fun _ _ x => x.elim)
 replace E := E.thenChg hcw5 (fun i hi e => (hA i).2 (.inr (.inr e)))
 refine wl_does (does_nilCheck hv0) (by decide) (wl_does (does_fieldAddr fl_Tab_rows rfl (o' := 0) rfl) (by decide) ?_)
 refine wl_store on_L_api_Node rfl hv7 Bp (by rw [Tab.len]; decide) (SlV.one _ _ rfl) (Tab.set_rows _ _) fun w6 B h6 z6 => ?_
 replace Bp := B; clear B
 replace M := M.chg h6 (fun (e : m = p) => by omega)
 replace B3 := B3.chg h6 (fun (e : b3 = p) => by omega)
 replace O44 := O44.keep h6 (fun i hi (e : i = p) => d_p_O44 (e ▸ hi))
 replace E := E.thenChg h6 (fun i hi (e : i = p) => (hA i).2 (.inl e))
 refine wl_nil (wc_seq ?_)
 refine wc_quiet 6 (Ext w6) hmix (by kernel_rfl) (by kernel_rfl) (Ext.drawn _) (wq_does (fun v K => does_mv_p rfl) (wq_does (fun v K => does_nilCheck rfl) (wq_does (fun v K => does_fieldAddr fl_Tab_at_ rfl (o' := 1) rfl) (wq_does (fun v K => does_load on_M_api_Node_int rfl ((Bp.ext K).cell (Tab.get_at_ _))) (wq_does (fun v K => does_load_agg ag_Nd rfl ((B3.ext K).all _ (Nd.len _)) (Nd.len _)) (wq_does (fun v K => does_mv_i rfl) ?_))))))
 refine wq_nil fun w7 K => ?_
 replace Bp := Bp.ext K
 replace M := M.ext K
 replace B3 := B3.ext K
 replace O44 := O44.ext K
 replace E := E.thenExt K
 clear K
 refine wl_mapUpdate (D := Value.int .i64) un_M_api_Node_int key_Nd rfl rfl rfl M fun w8 B h8 z8 => ?_
 replace M := B; clear B
 replace Bp := Bp.chg h8 (fun (e : p = m) => by omega)
 replace B3 := B3.chg h8 (fun (e : b3 = m) => by omega)
 replace O44 := O44.keep h8 (fun i hi (e : i = m) => d_m_O44 (e ▸ hi))
 replace E := E.thenChg h8 (fun i hi (e : i = m) => (hA i).2 (.inr (.inl e)))
 refine wl_nil (wc_seq (wc_region (wl_does (does_mv_i rfl) (by decide) (wl_does (does_as_i rfl) (by decide) (wl_does (does_as_i rfl) (by decide) (wl_nil (wc_ret ?_)))))))
 have hk := idx_none hc3
 rw [ins_rows hk] at M
 exact ⟨.tuple #[.int .i64 N.length, .int .i64 0], (rets2 (retOne_tmp rfl) (retOne_tmp rfl)), fun i => i = p ∨ i = m ∨ s44.fp i, by rw [put_new hc2 hk (by omega)], by rw [put_new hc2 hk (by omega)]; exact TabAt.mk Bp O44 M hpm d_p_O44 d_m_O44 (fun i => Iff.rfl), E, fun i h => by
   rcases h with h | h | h
   ·exact .inl ((hA i).2 (.inl h))
   ·exact .inl ((hA i).2 (.inr (.inl h)))
   ·rcases g5 i h with h | h
    ·exact .inl ((hA i).2 (.inr (.inr h)))
    ·exact .inr (by have := hszO; omega)⟩
end Go.Proofs.YtjebgcoknpcadaaDoor
end
section
namespace Go.Proofs.YtjebgcoknpcadaaDoor
open Gw Go.RowKit
theorem put_len {N : List Nd} {n : Nd} (h : N.length ≤ 1024) : (putS N n).1.length ≤ 1024 := by
 unfold putS
 split
 ·split
  ·exact h
  ·split
   ·exact h
   ·simp; omega
 ·exact h
end Go.Proofs.YtjebgcoknpcadaaDoor
end
section
namespace Go.Proofs.YtjebgcoknpcadaaDoor
open Gw Go.RowKit
theorem formula_Table_alive_nil (w : World) : Calls PP F_formula_Table_alive #[.pointer none] w fun e w' => ∃ v, e = .returned v ∧ (v = .bool false ∧ Ext w w') := by
 refine calls_of_wc (n := 12) fn_formula_Table_alive rfl rfl (by simp) ?_
 have E := Ext.refl w
 refine wc_seq ?_
 refine wc_region ?_
 refine wl_does (does_as_b rfl) (by decide) ?_
 refine wl_nil ?_
 refine wc_seq ?_
 refine wc_region ?_
 refine wl_does (does_mv_p rfl) (by decide) ?_
 refine wl_does (does_nep0 un_dictum_formula_has rfl rfl) (by decide) ?_
 refine wl_does (does_mv_b rfl) (by decide) ?_
 refine wl_guard (j := 2) (pol := true) rfl rfl rfl (by decide) (fun hg => does_mv_p rfl) (by decide) ?_
 refine wl_guard (j := 2) (pol := true) rfl rfl rfl (by decide) (fun hg => absurd hg (by decide)) (by decide) ?_ (v := .bool false)
 refine wl_guard (j := 2) (pol := true) rfl rfl rfl (by decide) (fun hg => absurd hg (by decide)) (by decide) ?_ (v := .bool false)
 refine wl_guard (j := 2) (pol := true) rfl rfl rfl (by decide) (fun hg => absurd hg (by decide)) (by decide) ?_ (v := .bool false)
 refine wl_guard (j := 2) (pol := true) rfl rfl rfl (by decide) (fun hg => absurd hg (by decide)) (by decide) ?_ (v := .bool false)
 refine wl_does (does_and (x := false) rfl (fun hp => absurd hp (by decide))) (by decide) ?_
 refine wl_does (does_as_b rfl) (by decide) ?_
 refine wl_nil ?_
 refine wc_ret ?_
 exact ⟨_, (rets1 (retOne_tmp rfl)), rfl, E⟩
theorem formula_Table_alive_zero (w : World) {p : Nat} (Bp : Blk w p T_Tab (Tab.C Tab.z)) : Calls PP F_formula_Table_alive #[.pointer (some ⟨p, 0, none⟩)] w fun e w' => ∃ v, e = .returned v ∧ (v = .bool false ∧ Ext w w') := by
 refine calls_of_wc (n := 12) fn_formula_Table_alive rfl rfl (by simp) ?_
 have E := Ext.refl w
 refine wc_seq ?_
 refine wc_region ?_
 refine wl_does (does_as_b rfl) (by decide) ?_
 refine wl_nil ?_
 refine wc_seq ?_
 refine wc_region ?_
 refine wl_does (does_mv_p rfl) (by decide) ?_
 refine wl_does (does_nep0 un_dictum_formula_has rfl rfl) (by decide) ?_
 refine wl_does (does_mv_b rfl) (by decide) ?_
 refine wl_guard (j := 2) (pol := true) rfl rfl rfl (by decide) (fun hg => does_mv_p rfl) (by decide) ?_
 refine wl_guard (j := 2) (pol := true) rfl rfl rfl (by decide) (fun hg => does_nilCheck (gv_yes hg)) (by decide) ?_
 refine wl_guard (j := 2) (pol := true) rfl rfl rfl (by decide) (fun hg => does_fieldAddr fl_Tab_at_ (gv_yes hg) (o' := 1) rfl) (by decide) ?_
 refine wl_guard (j := 2) (pol := true) rfl rfl rfl (by decide) (fun hg => does_load on_M_api_Node_int (gv_yes hg) (Bp.cell (Tab.get_at_ _))) (by decide) ?_
 refine wl_guard (j := 2) (pol := true) rfl rfl rfl (by decide) (fun hg => does_nem0 un_M_api_Node_int (gv_yes hg) rfl) (by decide) ?_
 refine wl_does (does_and rfl (fun hp => (gv_yes (and_1 hp)))) (by decide) ?_
 refine wl_does (does_as_b rfl) (by decide) ?_
 refine wl_nil ?_
 refine wc_ret ?_
 exact ⟨_, (rets1 (retOne_tmp rfl)), rfl, E⟩
def Dead (w : World) (a : Option Addr) : Prop := a = none ∨ ∃ p, a = some ⟨p, 0, none⟩ ∧ Blk w p T_Tab (Tab.C Tab.z)
theorem formula_Table_alive_dead (w : World) {a : Option Addr} (D : Dead w a) : Calls PP F_formula_Table_alive #[.pointer a] w fun e w' => ∃ v, e = .returned v ∧ (v = .bool false ∧ Ext w w') := by
 rcases D with rfl | ⟨p, rfl, B⟩
 ·exact formula_Table_alive_nil w
 ·exact formula_Table_alive_zero w B
theorem formula_Table_Not_dead (w : World) {a : Option Addr} (i : Int) (D : Dead w a) : Calls PP F_formula_Table_Not #[.pointer a, .int .i64 i] w fun e w' => ∃ v, e = .returned v ∧ (v = .tuple #[.int .i64 0, .int .i64 1] ∧ Ext w w') := by
 refine calls_of_wc (n := 31) fn_formula_Table_Not rfl rfl (by simp) ?_
 have E := Ext.refl w
 refine wc_seq ?_
 refine wc_region ?_
 refine wl_does (does_as_i rfl) (by decide) ?_
 refine wl_does (does_as_i rfl) (by decide) ?_
 refine wl_nil ?_
 refine wc_seq ?_
 refine wc_block ?_
 refine wc_seq ?_
 refine wc_region ?_
 refine wl_does (does_mv_p rfl) (by decide) ?_
 refine wl_call (does_call ca_formula_Table_alive) (by decide) (formula_Table_alive_dead _ D) ?_
 rintro _ w1 ⟨rfl, h1⟩
 replace E := E.thenExt h1
 refine wl_does (does_not rfl) (by decide) ?_
 refine wl_does (does_as_b rfl) (by decide) ?_
 refine wl_nil ?_
 refine wc_true rfl ?_
 refine wc_seq ?_
 refine wc_region ?_
 refine wl_does (does_as_i rfl) (by decide) ?_
 refine wl_does (does_as_i rfl) (by decide) ?_
 refine wl_nil ?_
 refine wc_ret ?_
 exact ⟨_, (rets2 (retOne_tmp rfl) (retOne_tmp rfl)), rfl, E⟩
theorem formula_Table_Not_neg_ok (w : World) {p : Nat} {N : List Nd} {A : Nat → Prop} (T : TabAt w p N A) : Calls PP F_formula_Table_Not #[.pointer (some ⟨p, 0, none⟩), .int .i64 (-1)] w fun e w' => ∃ v, e = .returned v ∧ (v = .tuple #[.int .i64 0, .int .i64 31] ∧ Ext w w') := by
 refine calls_of_wc (n := 31) fn_formula_Table_Not rfl rfl (by simp) ?_
 have E := Ext.refl w
 refine wc_seq ?_
 refine wc_region ?_
 refine wl_does (does_as_i rfl) (by decide) ?_
 refine wl_does (does_as_i rfl) (by decide) ?_
 refine wl_nil ?_
 refine wc_seq ?_
 refine wc_block ?_
 refine wc_seq ?_
 refine wc_region ?_
 refine wl_does (does_mv_p rfl) (by decide) ?_
 refine wl_call (does_call ca_formula_Table_alive) (by decide) (formula_Table_alive_ok _ T) ?_
 rintro _ w1 ⟨rfl, h1⟩
 replace T := T.ext h1
 replace E := E.thenExt h1
 refine wl_does (does_not rfl) (by decide) ?_
 refine wl_does (does_as_b rfl) (by decide) ?_
 refine wl_nil ?_
 refine wc_false rfl ?_
 refine wc_seq ?_
 refine wc_region ?_
 refine wl_does (does_mv_p rfl) (by decide) ?_
 refine wl_does (does_mv_i rfl) (by decide) ?_
 refine wl_call (does_call ca_formula_Table_has) (by decide) (formula_Table_has_ok _ _ T) ?_
 rintro _ w2 ⟨rfl, h2⟩
 replace T := T.ext h2
 replace E := E.thenExt h2
 refine wl_does (does_not rfl) (by decide) ?_
 refine wl_does (does_as_b rfl) (by decide) ?_
 refine wl_nil ?_
 refine wc_true (c := _) (congrArg Value.bool (show (!hasRow N (-1)) = true by simp [hasRow])) ?_
 refine wc_seq ?_
 refine wc_region ?_
 refine wl_does (does_as_i rfl) (by decide) ?_
 refine wl_does (does_as_i rfl) (by decide) ?_
 refine wl_nil ?_
 refine wc_ret ?_
 exact ⟨_, (rets2 (retOne_tmp rfl) (retOne_tmp rfl)), rfl, E⟩
end Go.Proofs.YtjebgcoknpcadaaDoor
end
section
namespace Go.Proofs.YtjebgcoknpcadaaDoor
open Go.RowKit
namespace Gw
structure OA where
 holds : World → (Nat → Prop) → Prop
 loc : ∀ {S : Nat → Prop} {w w' : World} {F : Nat → Prop}, holds w F → Chg S w w' → (∀ i, F i → ¬ S i) → holds w' F
 lt : ∀ {w : World} {F : Nat → Prop}, holds w F → ∀ i, F i → i < w.heap.size
def Sep (w : World) : (Nat → Prop) → List OA → Prop
 | _, [] => True
 | U, a :: L => ∃ F, a.holds w F ∧ (∀ i, F i → U i) ∧ Sep w (fun i => U i ∧ ¬ F i) L
theorem Sep.mono {w : World} : ∀ {L : List OA} {U V : Nat → Prop}, Sep w U L → (∀ i, U i → V i) → Sep w V L
 | [], _, _, _, _ => trivial
 | _ :: _, _, _, ⟨F, h, hF, hL⟩, hv => ⟨F, h, fun i hi => hv i (hF i hi), hL.mono fun i hi => ⟨hv i hi.1, hi.2⟩⟩
theorem Sep.chg {S : Nat → Prop} {w w' : World} (hc : Chg S w w') : ∀ {L : List OA} {U : Nat → Prop}, Sep w U L → (∀ i, U i → ¬ S i) → Sep w' U L
 | [], _, _, _ => trivial
 | a :: _, _, ⟨F, h, hF, hL⟩, hs => ⟨F, a.loc h hc (fun i hi => hs i (hF i hi)), hF, Sep.chg hc hL fun i hi => hs i hi.1⟩
theorem Sep.front {w : World} : ∀ {L : List OA} {U : Nat → Prop} (k : Nat) {a : OA}, Sep w U L → L[k]? = some a → Sep w U (a :: L.eraseIdx k)
 | [], _, _, _, _, h => by simp at h
 | _ :: _, _, 0, _, h, e => by simp at e; subst e; simpa using h
 | b :: L, U, k + 1, a, ⟨F, h, hF, hL⟩, e => by
  obtain ⟨G, g, hG, hR⟩ := hL.front k (by simpa using e)
  refine ⟨G, g, fun i hi => (hG i hi).1, F, h, fun i hi => ⟨hF i hi, fun hg => (hG i hg).2 hi⟩, ?_⟩
  exact hR.mono fun i hi => ⟨⟨hi.1.1, hi.2⟩, hi.1.2⟩
theorem Sep.split {w : World} : ∀ {P R : List OA} {U : Nat → Prop}, Sep w U (P ++ R) → ∃ A, (∀ i, A i → U i ∧ i < w.heap.size) ∧ Sep w A P ∧ Sep w (fun i => U i ∧ ¬ A i) R
 | [], _, _, h => ⟨fun _ => False, fun _ x => x.elim, trivial, h.mono fun i hi => ⟨hi, fun x => x⟩⟩
 | a :: P, R, U, ⟨F, h, hF, hL⟩ => by
  obtain ⟨A, hA, hP, hR⟩ := Sep.split (P := P) (R := R) hL
  refine ⟨fun i => F i ∨ A i, fun i hi => hi.elim (fun hi => ⟨hF i hi, a.lt h i hi⟩) (fun hi => ⟨(hA i hi).1.1, (hA i hi).2⟩), ⟨F, h, fun i hi => .inl hi, hP.mono fun i hi => ⟨.inr hi, (hA i hi).1.2⟩⟩, ?_⟩
  exact hR.mono fun i hi => ⟨hi.1.1, fun h => h.elim hi.1.2 hi.2⟩
theorem Sep.join {w : World} : ∀ {P R : List OA} {A B U : Nat → Prop}, Sep w A P → Sep w B R → (∀ i, A i → U i) → (∀ i, B i → U i) → (∀ i, A i → ¬ B i) → Sep w U (P ++ R)
 | [], _, _, _, _, _, h, _, hB, _ => h.mono hB
 | _ :: _, _, _, _, _, ⟨F, h, hF, hL⟩, hR, hA, hB, hd => ⟨F, h, fun i hi => hA i (hF i hi), Sep.join hL hR (fun i hi => ⟨hA i hi.1, hi.2⟩) (fun i hi => ⟨hB i hi, fun hf => hd i (hF i hf) hi⟩) (fun i hi => hd i hi.1)⟩
def Frz (w : World) (X : Nat → Prop) (Z : List OA) : Prop := ∀ z ∈ Z, ∃ F, z.holds w F ∧ ∀ i, F i → ¬ X i
structure Oth where
 blk : Nat → Prop
 wat : List (Nat × Obj)
 ok : ∀ d ∈ wat, blk d.1
instance : CoeFun Oth (fun _ => Nat → Prop) := ⟨Oth.blk⟩
def Wat (w : World) (N : Oth) : Prop := ∀ d ∈ N.wat, Ob w d.1 d.2
theorem Wat.chg {S : Nat → Prop} {w w' : World} {N : Oth} (h : Wat w N) (hc : Chg S w w') (hs : ∀ i, S i → ¬ N i) : Wat w' N := fun d hd => (h d hd).chg hc (fun q => hs _ q (N.ok d hd))
def Oth.or (N : Oth) (F : Nat → Prop) : Oth := ⟨fun i => N i ∨ F i, N.wat, fun d hd => .inl (N.ok d hd)⟩
def St (A : Nat → Prop) (N : Oth) (w0 w : World) (L Z : List OA) : Prop :=
 ∃ U, (∀ i, U i → (A i ∨ w0.heap.size ≤ i) ∧ i < w.heap.size ∧ ¬ N i) ∧ (∀ i, N i → i < w.heap.size) ∧ Chg A w0 w ∧ Sep w U L ∧ Frz w (fun i => U i ∨ N i) Z ∧ Wat w N
section
variable {A : Nat → Prop} {N : Oth} {w0 w w' : World} {L Z : List OA}
theorem St.frame (h : St A N w0 w L Z) : Chg A w0 w := h.elim fun _ h => h.2.2.1
theorem Frz.chg {S X Y : Nat → Prop} (h : Frz w X Z) (hc : Chg S w w') (hs : ∀ i, S i → X i) (hv : ∀ i, Y i → X i ∨ w.heap.size ≤ i) : Frz w' Y Z := fun z hz => by
 obtain ⟨F, g, hF⟩ := h z hz
 exact ⟨F, z.loc g hc (fun i hi hsi => hF i hi (hs i hsi)), fun i hi hv' => (hv i hv').elim (hF i hi) (fun q => by have := z.lt g i hi; omega)⟩
theorem St.ext (h : St A N w0 w L Z) (hc : Ext w w') : St A N w0 w' L Z := by
 obtain ⟨U, hU, hN, hA, hL, hZ, hW⟩ := h
 exact ⟨U, fun i hi => ⟨(hU i hi).1, Nat.lt_of_lt_of_le (hU i hi).2.1 hc.size, (hU i hi).2.2⟩, fun i hi => Nat.lt_of_lt_of_le (hN i hi) hc.size, hA.thenExt hc, Sep.chg hc hL (fun _ _ x => x), hZ.chg hc (fun _ x => x.elim) (fun _ hi => .inl hi), hW.chg hc (fun _ x => x.elim)⟩
theorem St.front (h : St A N w0 w L Z) (k : Nat) {a : OA} {L' : List OA} (e : L[k]? = some a := by rfl) (e' : a :: L.eraseIdx k = L' := by rfl) : St A N w0 w L' Z := by
 subst e'
 obtain ⟨U, hU, hN, hA, hL, hZ, hW⟩ := h
 exact ⟨U, hU, hN, hA, hL.front k e, hZ, hW⟩
theorem St.own (h : St A N w0 w L Z) (k : Nat) {a : OA} (e : L[k]? = some a) : ∃ F, a.holds w F := by
 obtain ⟨U, hU, hN, hA, hL, hZ, hW⟩ := h
 obtain ⟨F, hF, _⟩ := hL.front k e
 exact ⟨F, hF⟩
theorem St.frz (h : St A N w0 w L Z) (k : Nat) {a : OA} (e : Z[k]? = some a) : ∃ F, a.holds w F := by
 obtain ⟨U, hU, hN, hA, hL, hZ, hW⟩ := h
 obtain ⟨F, hF, _⟩ := hZ a (List.mem_of_getElem? e)
 exact ⟨F, hF⟩
theorem St.upd (h : St A N w0 w L Z) (k : Nat) {a b : OA} {L' : List OA} (hk : ∀ F, a.holds w F → ∃ G, b.holds w' G ∧ (∀ i, G i → F i ∨ w.heap.size ≤ i) ∧ Chg F w w') (e : L[k]? = some a := by rfl) (e' : b :: L.eraseIdx k = L' := by rfl) : St A N w0 w' L' Z := by
 subst e'
 obtain ⟨U, hU, hN, hA, hL, hZ, hW⟩ := h
 obtain ⟨F, g, hF, hR⟩ := hL.front k e
 obtain ⟨G, g', hG, hc⟩ := hk F g
 refine ⟨fun i => U i ∨ (G i ∧ w.heap.size ≤ i), fun i hi => ?_, fun i hi => Nat.lt_of_lt_of_le (hN i hi) hc.size, hA.thenChg hc (fun i hi hf => ?_), ⟨G, g', fun i hi => (hG i hi).imp (hF i) (fun q => ⟨hi, q⟩), ?_⟩, hZ.chg hc (fun i hi => .inl (hF i hi)) (fun i hi => ?_), hW.chg hc (fun i hi => (hU i (hF i hi)).2.2)⟩
 ·rcases hi with hi | hi
  ·exact ⟨(hU i hi).1, Nat.lt_of_lt_of_le (hU i hi).2.1 hc.size, (hU i hi).2.2⟩
  ·exact ⟨.inr (Nat.le_trans hA.size hi.2), b.lt g' i hi.1, fun hn => absurd (hN i hn) (by omega)⟩
 ·exact ((hU i (hF i hf)).1).elim id (fun q => absurd hi (by omega))
 ·exact (Sep.chg hc hR fun i hi => hi.2).mono fun i hi => ⟨.inl hi.1, fun hg => (hG i hg).elim hi.2 (fun q => absurd (hU i hi.1).2.1 (by omega))⟩
 ·rcases hi with (hi | hi) | hi
  ·exact .inl (.inl hi)
  ·exact .inr hi.2
  ·exact .inl (.inr hi)
theorem St.add (h : St A N w0 w L Z) {b : OA} {G : Nat → Prop} (hc : Ext w w') (hb : b.holds w' G) (hG : ∀ i, G i → w.heap.size ≤ i) : St A N w0 w' (b :: L) Z := by
 obtain ⟨U, hU, hN, hA, hL, hZ, hW⟩ := h
 refine ⟨fun i => U i ∨ G i, fun i hi => ?_, fun i hi => Nat.lt_of_lt_of_le (hN i hi) hc.size, hA.thenExt hc, ⟨G, hb, fun i hi => .inr hi, ?_⟩, hZ.chg hc (fun _ x => x.elim) (fun i hi => ?_), hW.chg hc (fun _ x => x.elim)⟩
 ·rcases hi with hi | hi
  ·exact ⟨(hU i hi).1, Nat.lt_of_lt_of_le (hU i hi).2.1 hc.size, (hU i hi).2.2⟩
  ·exact ⟨.inr (Nat.le_trans hA.size (hG i hi)), b.lt hb i hi, fun hn => absurd (hN i hn) (by have := hG i hi; omega)⟩
 ·exact (Sep.chg hc hL fun _ _ x => x).mono fun i hi => ⟨.inl hi, fun hg => absurd (hU i hi).2.1 (by have := hG i hg; omega)⟩
 ·rcases hi with (hi | hi) | hi
  ·exact .inl (.inl hi)
  ·exact .inr (hG i hi)
  ·exact .inl (.inr hi)
theorem St.drop (h : St A N w0 w L Z) (k : Nat) {a : OA} {L' : List OA} (e : L[k]? = some a := by rfl) (e' : L.eraseIdx k = L' := by rfl) : St A N w0 w L' Z := by
 subst e'
 obtain ⟨U, hU, hN, hA, hL, hZ, hW⟩ := h
 obtain ⟨F, g, hF, hR⟩ := hL.front k e
 exact ⟨U, hU, hN, hA, hR.mono fun i hi => hi.1, hZ, hW⟩
theorem St.freeze (h : St A N w0 w L Z) (k : Nat) {a b : OA} {L' : List OA} (hab : ∀ F, a.holds w F → b.holds w F) (e : L[k]? = some a := by rfl) (e' : L.eraseIdx k = L' := by rfl) : St A N w0 w L' (b :: Z) := by
 subst e'
 obtain ⟨U, hU, hN, hA, hL, hZ, hW⟩ := h
 obtain ⟨F, g, hF, hR⟩ := hL.front k e
 refine ⟨fun i => U i ∧ ¬ F i, fun i hi => hU i hi.1, hN, hA, hR, fun z hz => ?_, hW⟩
 rcases List.mem_cons.1 hz with rfl | hz
 ·exact ⟨F, hab F g, fun i hi q => q.elim (fun q => q.2 hi) (fun q => (hU i (hF i hi)).2.2 q)⟩
 ·obtain ⟨G, g', hG⟩ := hZ z hz
  exact ⟨G, g', fun i hi q => hG i hi (q.imp (·.1) id)⟩
theorem St.tell (h : St A N w0 w L Z) (k : Nat) {a b : OA} (hab : ∀ F, a.holds w F → b.holds w F) (e : Z[k]? = some a := by rfl) : St A N w0 w L (b :: Z) := by
 obtain ⟨U, hU, hN, hA, hL, hZ, hW⟩ := h
 refine ⟨U, hU, hN, hA, hL, fun z hz => ?_, hW⟩
 rcases List.mem_cons.1 hz with rfl | hz
 ·obtain ⟨F, g, hF⟩ := hZ a (List.mem_of_getElem? e)
  exact ⟨F, hab F g, hF⟩
 ·exact hZ z hz
theorem St.part (h : St A N w0 w L Z) (k : Nat) {a b : OA} (hab : ∀ F, a.holds w F → ∃ G, b.holds w G ∧ ∀ i, G i → F i) (e : Z[k]? = some a := by rfl) : St A N w0 w L (b :: Z) := by
 obtain ⟨U, hU, hN, hA, hL, hZ, hW⟩ := h
 refine ⟨U, hU, hN, hA, hL, fun z hz => ?_, hW⟩
 rcases List.mem_cons.1 hz with rfl | hz
 ·obtain ⟨F, g, hF⟩ := hZ a (List.mem_of_getElem? e)
  obtain ⟨G, g', hG⟩ := hab F g
  exact ⟨G, g', fun i hi => hF i (hG i hi)⟩
 ·exact hZ z hz
theorem St.say (h : St A N w0 w L Z) {b : OA} (hb : b.holds w (fun _ => False)) : St A N w0 w L (b :: Z) := by
 obtain ⟨U, hU, hN, hA, hL, hZ, hW⟩ := h
 refine ⟨U, hU, hN, hA, hL, fun z hz => ?_, hW⟩
 rcases List.mem_cons.1 hz with rfl | hz
 ·exact ⟨_, hb, fun _ x => x.elim⟩
 ·exact hZ z hz
theorem St.pickZ (h : St A N w0 w L Z) {Z' : List OA} (hz : ∀ z ∈ Z', z ∈ Z) : St A N w0 w L Z' := by
 obtain ⟨U, hU, hN, hA, hL, hZ, hW⟩ := h
 exact ⟨U, hU, hN, hA, hL, fun z q => hZ z (hz z q), hW⟩
def sel (Z : List OA) (l : List Nat) : List OA := l.filterMap fun k => Z[k]?
theorem sel_mem {Z : List OA} {l : List Nat} : ∀ z ∈ sel Z l, z ∈ Z := fun z hz => by
 obtain ⟨k, _, hk⟩ := List.mem_filterMap.1 hz
 exact List.mem_of_getElem? hk
theorem St.zs (h : St A N w0 w L Z) (l : List Nat) {Z' : List OA} (e : sel Z l = Z' := by rfl) : St A N w0 w L Z' := e ▸ h.pickZ sel_mem
theorem St.sub (h : St A N w0 w L Z) (l : List Nat) (P R : List OA) {Zc : List OA} (e : L = P ++ R := by rfl) (ez : sel Z l = Zc := by rfl) : ∃ B M, St B M w w P Zc ∧ ∀ w' P' Z' L' Z'', St B M w w' P' Z' → P' ++ R = L' → Z' ++ Z = Z'' → St A N w0 w' L' Z'' := by
 subst e ez
 obtain ⟨U, hU, hN, hA, hL, hZ, hW⟩ := h
 obtain ⟨B, hB, hP, hR⟩ := hL.split
 refine ⟨B, ⟨fun i => (U i ∧ ¬ B i) ∨ N i, N.wat, fun d hd => .inr (N.ok d hd)⟩, ⟨B, fun i hi => ⟨.inl hi, (hB i hi).2, fun q => q.elim (fun q => q.2 hi) (hU i (hB i hi).1).2.2⟩, fun i hi => hi.elim (fun q => (hU i q.1).2.1) (hN i), Chg.refl _ _, hP, fun z hz => ?_, hW⟩, ?_⟩
 ·obtain ⟨F, g, hF⟩ := hZ z (sel_mem z hz)
  exact ⟨F, g, fun i hi hb => hF i hi (hb.elim (fun q => .inl (hB i q).1) (fun q => q.imp (·.1) id))⟩
 ·rintro w' P' Z' L' Z'' ⟨V, hV, hM, hc, hP', hZ', hW'⟩ rfl rfl
  have hR' := Sep.chg hc hR fun i hi => hi.2
  refine ⟨fun i => V i ∨ (U i ∧ ¬ B i), fun i hi => ?_, fun i hi => Nat.lt_of_lt_of_le (hN i hi) hc.size, hA.thenChg hc (fun i hi hb => ?_), ?_, fun z hz => ?_, hW.chg hc (fun i hi => (hU i (hB i hi).1).2.2)⟩
  ·rcases hi with hi | hi
   ·exact ⟨((hV i hi).1).elim (fun q => (hU i (hB i q).1).1) (fun q => .inr (Nat.le_trans hA.size q)), (hV i hi).2.1, fun q => (hV i hi).2.2 (.inr q)⟩
   ·exact ⟨(hU i hi.1).1, Nat.lt_of_lt_of_le (hU i hi.1).2.1 hc.size, (hU i hi.1).2.2⟩
  ·exact ((hU i (hB i hb).1).1).elim id (fun q => absurd hi (by omega))
  ·refine Sep.join hP' hR' (fun i hi => .inl hi) (fun i hi => .inr hi) fun i hi q => ?_
   exact (hV i hi).2.2 (.inl q)
  ·rcases List.mem_append.1 hz with hz | hz
   ·obtain ⟨F, g, hF⟩ := hZ' z hz
    refine ⟨F, g, fun i hi q => hF i hi ?_⟩
    rcases q with (q | q) | q
    ·exact .inl q
    ·exact .inr (.inl q)
    ·exact .inr (.inr q)
   ·obtain ⟨F, g, hF⟩ := hZ z hz
    refine ⟨F, z.loc g hc (fun i hi hb => hF i hi (.inl (hB i hb).1)), fun i hi q => ?_⟩
    rcases q with (q | q) | q
    ·exact ((hV i q).1).elim (fun b => hF i hi (.inl (hB i b).1)) (fun p => absurd (z.lt g i hi) (by omega))
    ·exact hF i hi (.inl q.1)
    ·exact hF i hi (.inr q)
end
-- pieces
def oB (b : Nat) (t : TypeId) (l : List Value) : OA where
 holds := fun w F => Blk w b t l ∧ ∀ i, F i ↔ i = b
 loc := fun h hc hs => ⟨h.1.chg hc (hs b ((h.2 b).2 rfl)), h.2⟩
 lt := fun h i hi => by rw [(h.2 i).1 hi]; exact h.1.lt
def oS (e k : Nat) {α : Type} (C : α → List Value) (s : SlV) (l : List α) : OA where
 holds := fun w F => (Own w 0 e k s (l.map C) ∧ l.length ≤ 140737488355328) ∧ ∀ i, F i ↔ s.fp i
 loc := fun h hc hs => ⟨⟨h.1.1.keep hc (fun i hi => hs i ((h.2 i).2 hi)), h.1.2⟩, h.2⟩
 lt := fun h i hi => h.1.1.lt i ((h.2 i).1 hi)
def fS (k : Nat) {α : Type} (C : α → List Value) (s : SlV) (l : List α) : OA where
 holds := fun w F => (Rd w k s (l.map C) ∧ l.length ≤ 140737488355328) ∧ ∀ i, F i ↔ s.fp i
 loc := fun h hc hs => ⟨⟨h.1.1.keep hc (fun i hi => hs i ((h.2 i).2 hi)), h.1.2⟩, h.2⟩
 lt := fun h i hi => h.1.1.lt i ((h.2 i).1 hi)
def oM (m : Nat) {α β : Type} (C : α → Value) (D : β → Value) (l : List (α × β)) : OA where
 holds := fun w F => MapB w m C D l ∧ ∀ i, F i ↔ i = m
 loc := fun h hc hs => ⟨h.1.chg hc (hs m ((h.2 m).2 rfl)), h.2⟩
 lt := fun h i hi => by rw [(h.2 i).1 hi]; exact h.1.lt
section
variable {A : Nat → Prop} {N : Oth} {w0 w w' : World} {L Z : List OA}
theorem St.blk (h : St A N w0 w L Z) (k : Nat) {b t : Nat} {l : List Value} (e : L[k]? = some (oB b t l) := by rfl) : Blk w b t l := (h.own k e).elim fun _ h => h.1
theorem St.blkZ (h : St A N w0 w L Z) (k : Nat) {b t : Nat} {l : List Value} (e : Z[k]? = some (oB b t l) := by rfl) : Blk w b t l := (h.frz k e).elim fun _ h => h.1
theorem St.sl (h : St A N w0 w L Z) (n : Nat) {e k : Nat} {α : Type} {C : α → List Value} {s : SlV} {l : List α} (q : L[n]? = some (oS e k C s l) := by rfl) : Own w 0 e k s (l.map C) := (h.own n q).elim fun _ h => h.1.1
theorem St.lenO (h : St A N w0 w L Z) (n : Nat) {e k : Nat} {α : Type} {C : α → List Value} {s : SlV} {l : List α} (q : L[n]? = some (oS e k C s l) := by rfl) : l.length ≤ 140737488355328 := (h.own n q).elim fun _ h => h.1.2
theorem St.len (h : St A N w0 w L Z) (n : Nat) {k : Nat} {α : Type} {C : α → List Value} {s : SlV} {l : List α} (q : Z[n]? = some (fS k C s l) := by rfl) : l.length ≤ 140737488355328 := (h.frz n q).elim fun _ h => h.1.2
theorem St.rdO (h : St A N w0 w L Z) (n : Nat) {e k : Nat} {α : Type} {C : α → List Value} {s : SlV} {l : List α} (q : L[n]? = some (oS e k C s l) := by rfl) : Rd w k s (l.map C) := (h.sl n q).toRd
theorem St.rd (h : St A N w0 w L Z) (n : Nat) {k : Nat} {α : Type} {C : α → List Value} {s : SlV} {l : List α} (q : Z[n]? = some (fS k C s l) := by rfl) : Rd w k s (l.map C) := (h.frz n q).elim fun _ h => h.1.1
theorem St.new (h : St A N w0 w L Z) {b t : Nat} {l : List Value} (hn : New w w' b t l) : St A N w0 w' (oB b t l :: L) Z :=
 h.add (b := oB b t l) (G := (· = b)) hn.ext ⟨hn.blk, fun _ => Iff.rfl⟩ (fun i hi => by rw [hi, hn.at_]; exact Nat.le_refl _)
theorem St.store (h : St A N w0 w L Z) (k : Nat) {b t : Nat} {l l' : List Value} {L' : List OA} (hb : Blk w' b t l') (hc : Chg (· = b) w w') (e : L[k]? = some (oB b t l) := by rfl) (e' : oB b t l' :: L.eraseIdx k = L' := by rfl) : St A N w0 w' L' Z :=
 h.upd k (a := oB b t l) (b := oB b t l') (fun F hF => ⟨F, ⟨hb, hF.2⟩, fun i hi => .inl hi, hc.mono fun i _ hi => (hF.2 i).2 hi⟩) e e'
theorem St.push (h : St A N w0 w L Z) (n : Nat) {e k : Nat} {α : Type} {C : α → List Value} {s s' : SlV} {l l' : List α} {L' : List OA} (ho : Own w' 0 e k s' (l'.map C)) (hl : l'.length ≤ 140737488355328) (hc : Chg s.fp w w') (hg : ∀ i, s'.fp i → s.fp i ∨ w.heap.size ≤ i) (q : L[n]? = some (oS e k C s l) := by rfl) (q' : oS e k C s' l' :: L.eraseIdx n = L' := by rfl) : St A N w0 w' L' Z :=
 h.upd n (a := oS e k C s l) (b := oS e k C s' l') (fun F hF => ⟨s'.fp, ⟨⟨ho, hl⟩, fun _ => Iff.rfl⟩, fun i hi => (hg i hi).imp (fun x => (hF.2 i).2 x) id, hc.mono fun i _ hi => (hF.2 i).2 hi⟩) q q'
theorem St.nil (h : St A N w0 w L Z) (e k : Nat) {α : Type} (C : α → List Value) : St A N w0 w (oS e k C SlV.nil [] :: L) Z :=
 h.add (b := oS e k C SlV.nil []) (G := SlV.nil.fp) (Ext.refl w) ⟨⟨by simpa using Own.nil w 0 e k, by simp⟩, fun _ => Iff.rfl⟩ (fun i hi => absurd rfl hi.1)
theorem St.nilZ (h : St A N w0 w L Z) (k : Nat) {α : Type} (C : α → List Value) : St A N w0 w L (fS k C SlV.nil [] :: Z) :=
 h.say (b := fS k C SlV.nil []) ⟨⟨by simpa using Rd.nil w k, by simp⟩, fun i => ⟨fun x => x.elim, fun x => absurd rfl x.1⟩⟩
theorem St.frzS (h : St A N w0 w L Z) (n : Nat) {e k : Nat} {α : Type} {C : α → List Value} {s : SlV} {l : List α} {L' : List OA} (q : L[n]? = some (oS e k C s l) := by rfl) (q' : L.eraseIdx n = L' := by rfl) : St A N w0 w L' (fS k C s l :: Z) :=
 h.freeze n (a := oS e k C s l) (fun _ hF => ⟨⟨hF.1.1.toRd, hF.1.2⟩, hF.2⟩) q q'
inductive Lend (L Z : List OA) : List OA → Prop
 | nil : Lend L Z []
 | z {a : OA} {l : List OA} (k : Nat) (e : Z[k]? = some a) (h : Lend L Z l) : Lend L Z (a :: l)
 | o {a : OA} {l : List OA} (k : Nat) (e : L[k]? = some a) (h : Lend L Z l) : Lend L Z (a :: l)
 | s {α : Type} {l : List OA} {e k' : Nat} {C : α → List Value} {s : SlV} {x : List α} (k : Nat) (q : L[k]? = some (oS e k' C s x)) (h : Lend L Z l) : Lend L Z (fS k' C s x :: l)
theorem Lend.mem {U B : Nat → Prop} (hL : Sep w (fun i => U i ∧ ¬ B i) L) (hZ : Frz w (fun i => U i ∨ N i) Z) (hB : ∀ i, B i → U i) (hN : ∀ i, U i → ¬ N i) : ∀ {l : List OA}, Lend L Z l → ∀ z ∈ l, ∃ F, z.holds w F ∧ ∀ i, F i → ¬ (B i ∨ N i)
 | _, .nil => fun _ h => by simp at h
 | _, .z k e h => fun z hz => by
  rcases List.mem_cons.1 hz with rfl | hz
  ·obtain ⟨F, g, hF⟩ := hZ _ (List.mem_of_getElem? e)
   exact ⟨F, g, fun i hi q => hF i hi (q.imp (hB i) id)⟩
  ·exact Lend.mem hL hZ hB hN h z hz
 | _, .o k e h => fun z hz => by
  rcases List.mem_cons.1 hz with rfl | hz
  ·obtain ⟨F, g, hF, _⟩ := hL.front k e
   exact ⟨F, g, fun i hi q => q.elim (hF i hi).2 (hN i (hF i hi).1)⟩
  ·exact Lend.mem hL hZ hB hN h z hz
 | _, .s k e h => fun z hz => by
  rcases List.mem_cons.1 hz with rfl | hz
  ·obtain ⟨F, g, hF, _⟩ := hL.front k e
   exact ⟨F, ⟨⟨g.1.1.toRd, g.1.2⟩, g.2⟩, fun i hi q => q.elim (hF i hi).2 (hN i (hF i hi).1)⟩
  ·exact Lend.mem hL hZ hB hN h z hz
theorem St.call (h : St A N w0 w L Z) (P R : List OA) {Zc : List OA} (hl : Lend R Z Zc) (e : L = P ++ R := by rfl) : ∃ B M, St B M w w P Zc ∧ ∀ w' P' Z' L', St B M w w' P' Z' → P' ++ R = L' → St A N w0 w' L' Z := by
 subst e
 obtain ⟨U, hU, hN, hA, hL, hZ, hW⟩ := h
 obtain ⟨B, hB, hP, hR⟩ := hL.split
 have hUN : ∀ i, U i → ¬ N i := fun i hi => (hU i hi).2.2
 refine ⟨B, N, ⟨B, fun i hi => ⟨.inl hi, (hB i hi).2, hUN i (hB i hi).1⟩, hN, Chg.refl _ _, hP, Lend.mem hR hZ (fun i hi => (hB i hi).1) hUN hl, hW⟩, ?_⟩
 rintro w' P' Z' L' ⟨V, hV, hM, hc, hP', hZ', hW'⟩ rfl
 have hR' := Sep.chg hc hR fun i hi => hi.2
 refine ⟨fun i => V i ∨ (U i ∧ ¬ B i), fun i hi => ?_, hM, hA.thenChg hc (fun i hi hb => ?_), ?_, fun z hz => ?_, hW'⟩
 ·rcases hi with hi | hi
  ·exact ⟨((hV i hi).1).elim (fun q => (hU i (hB i q).1).1) (fun q => .inr (Nat.le_trans hA.size q)), (hV i hi).2⟩
  ·exact ⟨(hU i hi.1).1, Nat.lt_of_lt_of_le (hU i hi.1).2.1 hc.size, (hU i hi.1).2.2⟩
 ·exact ((hU i (hB i hb).1).1).elim id (fun q => absurd hi (by omega))
 ·refine Sep.join hP' hR' (fun i hi => .inl hi) (fun i hi => .inr hi) fun i hi q => ?_
  exact ((hV i hi).1).elim q.2 (fun p => absurd (hU i q.1).2.1 (by omega))
 ·obtain ⟨F, g, hF⟩ := hZ z hz
  refine ⟨F, z.loc g hc (fun i hi hb => hF i hi (.inl (hB i hb).1)), fun i hi q => ?_⟩
  rcases q with (q | q) | q
  ·exact ((hV i q).1).elim (fun b => hF i hi (.inl (hB i b).1)) (fun p => absurd (z.lt g i hi) (by omega))
  ·exact hF i hi (.inl q.1)
  ·exact hF i hi (.inr q)
theorem St.lend (h : St A N w0 w L Z) {Zc : List OA} (hl : Lend L Z Zc) : ∃ M, St (fun _ => False) M w w [] Zc := by
 obtain ⟨U, hU, hN, hA, hL, hZ, hW⟩ := h
 exact ⟨N, fun _ => False, fun _ x => x.elim, hN, Chg.refl _ _, trivial, Lend.mem (B := fun _ => False) (hL.mono fun i hi => ⟨hi, fun x => x⟩) hZ (fun _ x => x.elim) (fun i hi => (hU i hi).2.2) hl, hW⟩
theorem quiet {P : Program} {g : FuncId} {args : Array Value} {M : Oth} {R : Value → World → Prop} {v0 : Value} (h : Calls P g args w fun e w' => ∃ v, e = .returned v ∧ R v w') (hR : ∀ v w', R v w' → v = v0 ∧ ∃ P' Z', St (fun _ => False) M w w' P' Z') : Calls P g args w fun e w' => ∃ v, e = .returned v ∧ (v = v0 ∧ Ext w w') :=
 CallsIn.mono (F := fen none) (n := 0) (callsIn_wide.2 h) (by rintro e w' ⟨v, rfl, hv⟩; obtain ⟨h1, P', Z', h2⟩ := hR v w' hv; exact ⟨v, rfl, h1, h2.frame⟩) |> callsIn_wide.1
end
end Gw
end Go.Proofs.YtjebgcoknpcadaaDoor
end
section
namespace Go.Proofs.YtjebgcoknpcadaaDoor
open Go.RowKit
namespace Gw
def chk {α : Type} (b : Bool) (x : Option α) : Option α := if b then x else none
def inb (i : Int) (n : Nat) : Bool := decide (0 ≤ i) && decide (i < n)
def at_ {α : Type} (d : α) (l : List α) (i : Int) : α := l.getD i.toNat d
theorem bind_ex {α β : Type} {x : Option α} {f : α → Option β} {r : β} (h : x.bind f = some r) : ∃ a, x = some a ∧ f a = some r := by
 cases x with
 | none => cases h
 | some a => exact ⟨a, rfl, h⟩
theorem chk_ex {α : Type} {b : Bool} {x : Option α} {r : α} (h : chk b x = some r) : b = true ∧ x = some r := by
 unfold chk at h; split at h
 ·exact ⟨‹_›, h⟩
 ·cases h
theorem if_t {α : Type} {c : Bool} {x y r : α} (hc : c = true) (h : (if c then x else y) = r) : x = r := by rw [if_pos hc] at h; exact h
theorem if_f {α : Type} {c : Bool} {x y r : α} (hc : c = false) (h : (if c then x else y) = r) : y = r := by rw [hc] at h; exact h
theorem inb_ex {i : Int} {n : Nat} (h : inb i n = true) : 0 ≤ i ∧ i < n := by simpa [inb] using h
theorem at_some {α : Type} (d : α) {l : List α} {i : Int} (h : 0 ≤ i ∧ i < l.length) : l[i.toNat]? = some (at_ d l i) := by
 have hl : i.toNat < l.length := by omega
 simp [at_, List.getElem?_eq_getElem hl, List.getD_eq_getElem?_getD]
inductive Stp (σ ρ : Type) where
 | go (s : σ)
 | brk (s : σ)
 | ret (r : ρ)
def forN {σ ρ : Type} (b : Int → σ → Option (Stp σ ρ)) : Nat → Int → σ → Option (σ ⊕ ρ)
 | 0, _, s => some (.inl s)
 | n + 1, i, s => (b i s).bind fun
  | .go s' => forN b n (i + 1) s'
  | .brk s' => some (.inl s')
  | .ret r => some (.inr r)
def forS {σ : Type} (b : Int → σ → Option σ) : Nat → Int → σ → Option σ
 | 0, _, s => some s
 | n + 1, i, s => (b i s).bind fun s' => forS b n (i + 1) s'
def iter {σ ρ : Type} (b : σ → Option (Stp σ ρ)) : Nat → σ → Option (σ ⊕ ρ)
 | 0, _ => none
 | n + 1, s => (b s).bind fun
  | .go s' => iter b n s'
  | .brk s' => some (.inl s')
  | .ret r => some (.inr r)
theorem forN_0 {σ ρ : Type} {b : Int → σ → Option (Stp σ ρ)} {i : Int} {s : σ} {o : σ ⊕ ρ} (h : forN b 0 i s = some o) : o = .inl s := by
 simp only [forN] at h; exact (Option.some.inj h).symm
def nxt {σ ρ : Type} (g : σ → Option (σ ⊕ ρ)) (o : σ ⊕ ρ) : Stp σ ρ → Prop
 | .go s => g s = some o
 | .brk s => o = .inl s
 | .ret r => o = .inr r
theorem forN_s {σ ρ : Type} {b : Int → σ → Option (Stp σ ρ)} {n : Nat} {i : Int} {s : σ} {o : σ ⊕ ρ} (h : forN b (n + 1) i s = some o) : ∃ q, b i s = some q ∧ nxt (forN b n (i + 1)) o q := by
 simp only [forN] at h
 obtain ⟨q, h1, h2⟩ := bind_ex h
 refine ⟨q, h1, ?_⟩
 cases q with
 | go s => exact h2
 | brk s => exact (Option.some.inj h2).symm
 | ret r => exact (Option.some.inj h2).symm
theorem iter_s {σ ρ : Type} {b : σ → Option (Stp σ ρ)} {n : Nat} {s : σ} {o : σ ⊕ ρ} (h : iter b (n + 1) s = some o) : ∃ q, b s = some q ∧ nxt (iter b n) o q := by
 simp only [iter] at h
 obtain ⟨q, h1, h2⟩ := bind_ex h
 refine ⟨q, h1, ?_⟩
 cases q with
 | go s => exact h2
 | brk s => exact (Option.some.inj h2).symm
 | ret r => exact (Option.some.inj h2).symm
theorem forS_s {σ : Type} {b : Int → σ → Option σ} {n : Nat} {i : Int} {s o : σ} (h : forS b (n + 1) i s = some o) : ∃ q, b i s = some q ∧ forS b n (i + 1) q = some o := by
 simp only [forS] at h
 exact bind_ex h
theorem forS_0 {σ : Type} {b : Int → σ → Option σ} {i : Int} {s o : σ} (h : forS b 0 i s = some o) : o = s := by
 simp only [forS] at h; exact (Option.some.inj h).symm
def aft {σ ρ : Type} (k : σ → Option ρ) : σ ⊕ ρ → Option ρ
 | .inl s => k s
 | .inr r => some r
theorem aft_r {σ ρ : Type} {k : σ → Option ρ} {x r : ρ} (h : aft k (.inr x) = some r) : x = r := Option.some.inj h
section
variable {P : Program} {rd : Option Nat} {n : Nat} {dm : List Nat} {Q : Post} {f : Fr} {w : World}
theorem wc_cutq {x : Code} (ds : List Nat) (I : Fr → World → Prop) (h : wc P rd n dm x (thenP (fun dm' f' u' => dm' = dm ∧ Dif ds f f' ∧ I f' u') Q) f w) (hy : ∀ g u, I (mask ds g f) u → Q dm .normal (mask ds g f) u) : wc P rd n dm x Q f w :=
 wc_mono h fun dm' e f' u' q => by
  cases e with
  | normal => obtain ⟨rfl, ⟨g, rfl⟩, h2⟩ := q; exact hy g _ h2
  | _ => exact q
end
end Gw
end Go.Proofs.YtjebgcoknpcadaaDoor
end
section
namespace Go.Proofs.YtjebgcoknpcadaaDoor
open Go.RowKit
namespace Gw
def obPost2 (dm : List Nat) (D : Draw) (L : Nat → Bool) (i : Nat) (d : Option Tmp) (f : Fr) (w : World) : Post := fun dm' e f' w' => e = .normal ∧ dm' = dm ∧ D.T (plus L i) w' ∧ D.Le L w w' ∧ match d with
 | some d => ∃ v, f' = upd f d v ∧ D.V i v w'
 | none => f' = f ∧ ∀ v, D.V i v w'
theorem ob2 {dm : List Nat} {D : Draw} {L : Nat → Bool} {i : Nat} {d : Tmp} {f : Fr} {w w' : World} {v : Value} (hT : D.T (plus L i) w') (hL : D.Le L w w') (hV : D.V i v w') : obPost2 dm D L i (some d) f w dm .normal (upd f d v) w' := ⟨rfl, rfl, hT, hL, v, rfl, hV⟩
theorem ob0 {dm : List Nat} {D : Draw} {L : Nat → Bool} {i : Nat} {f : Fr} {w w' : World} (hT : D.T (plus L i) w') (hL : D.Le L w w') (hV : ∀ v, D.V i v w') : obPost2 dm D L i none f w dm .normal f w' := ⟨rfl, rfl, hT, hL, rfl, hV⟩
def drawB2 (ops : Array Oper) (m : Nat) : Bool :=
 decide (((ops.toList.take m).filterMap (·.dst)).Nodup) &&
 ops.toList.zipIdx.all (fun q => q.1.after.toList.all fun e => !Region.binds .any e || decide (e.on < q.2)) &&
 ops.toList.zipIdx.all (fun q => decide (q.2 < m) || (List.range q.2).all fun i => ((Region.before ops).getD q.2 0).testBit i) &&
 decide (m ≤ ops.size)
def overV (D : Draw) (g : Fr) (w : World) (j : Nat) (d : Option Tmp) : Prop := match d with
 | some d => D.V j (g d) w
 | none => ∀ v, D.V j v w
theorem overV.get {D : Draw} {g : Fr} {w : World} {j : Nat} {d : Option Tmp} (h : overV D g w j d) : D.V j (g (d.getD 0)) w := by
 cases d with
 | none => exact h _
 | some d => exact h
section
variable {P : Program} {rd : Option Nat} {n m : Nat} {dm : List Nat} {ops : Array Oper} {Q : Post} {f : Fr} {w : World}
end
end Gw
end Go.Proofs.YtjebgcoknpcadaaDoor
end
section
namespace Go.Proofs.YtjebgcoknpcadaaDoor
open Go.RowKit
namespace Gw
def SC (s : ByteArray) : List Value := [.string s]
theorem consP {i : Nat} {a b : Value} {l l' : List (Nat × Value)} (h : a = b) (hl : l = l') : (i, a) :: l = (i, b) :: l' := by rw [h, hl]
theorem Cells.get {w : World} {b o i : Nat} {l : List Value} {v : Value} (h : Cells w b o l) (hl : l[i]? = some v) : w.cell? ⟨b, o + i, none⟩ = some v := h _ _ hl
section
variable {P : Program} {rd : Option Nat} {n : Nat} {dm : List Nat} {ops : Array Oper} {Q : Post} {f : Fr} {w : World} {rest : List Oper} {ty : TypeId} {pos : String} {af : Array Edge}
theorem flat_len {α : Type} {C : α → List Value} {k : Nat} : ∀ {l : List α}, (∀ a ∈ l, (C a).length = k) → ((l.map C).flatten).length = l.length * k
 | [], _ => by simp
 | a :: l, h => by
  have := flat_len (C := C) (l := l) fun b hb => h b (by simp [hb])
  simp only [List.map_cons, List.flatten_cons, List.length_append, List.length_cons, h a (by simp), this, Nat.add_mul]
  omega
theorem does_buildv {d : Option Tmp} {gd : Option (Nat × Bool)} {t : Nat} {pl : List (Nat × Nat)} {z out : List Value} {parts : Array (Nat × Operand)} {vs : List (Nat × Value)} (hb : BuT P t pl z) (hv : parts.toList.map (fun q => (q.1, evF f q.2)) = vs) (hf : Bld pl z vs out) : Does P ⟨d, .build t parts, ty, pos, af, gd⟩ f w (.agg out.toArray) w :=
 does_build hb (hv ▸ hf)
theorem does_lits {α : Type} {C : α → List Value} {l : List α} {vs : List Value} {dd : Tmp} {gd : Option (Nat × Bool)} {t e k len : Nat} {parts : Array (Nat × Operand)} (ht : SliceT P t e k) (hz : ∃ z, (P.info? e).bind (·.zero) = some z)
  (hv : parts.toList.map (fun q => (q.1, evF f q.2)) = vs.zipIdx.map (fun q => (q.2, q.1))) (hr : vs.map (fun v => v.cells.toList) = l.map C) (hk : ∀ a ∈ l, (C a).length = k) (h24 : len * k ≤ 16777216 ∧ len ≤ 16777216) (hlen : l.length = len) :
  ∃ (s : SlV) (w' : World), Does P ⟨some dd, .buildSlice t len parts, ty, pos, af, gd⟩ f w s.v w' ∧ Ext w w' ∧ Own w' 0 e k s (l.map C) ∧ ∀ i, s.fp i → i = w.heap.size := by
 have hk' : ∀ r ∈ l.map C, r.length = k := by
  intro r hr; obtain ⟨a, ha, rfl⟩ := List.mem_map.1 hr; exact hk a ha
 obtain ⟨w', h1, hn⟩ := does_buildSlice (P := P) (f := f) (w := w) (dd := dd) (ty := ty) (pos := pos) (af := af) (gd := gd) ht hz hv hr hk' (by simpa using hlen) h24.1
 refine ⟨_, w', h1, hn.ext, ⟨.inr ⟨_, len, (l.map C).flatten.toArray, ?_, Nat.zero_le _, hn.blk, ?_, ?_, ?_⟩, hk'⟩, fun i hi => hi.2⟩
 ·simp [hlen]
 ·simp [hlen]
 ·simp [flat_len hk, hlen]
 ·simp [flat_len hk, List.take_of_length_le]
theorem wl_lits {α : Type} {C : α → List Value} {l : List α} {vs : List Value} {dd : Tmp} {t e k len : Nat} {parts : Array (Nat × Operand)} (ht : SliceT P t e k) (hz : ∃ z, (P.info? e).bind (·.zero) = some z)
  (hv : parts.toList.map (fun q => (q.1, evF f q.2)) = vs.zipIdx.map (fun q => (q.2, q.1))) (hr : vs.map (fun v => v.cells.toList) = l.map C) (hk : ∀ a ∈ l, (C a).length = k) (h24 : len * k ≤ 16777216 ∧ len ≤ 16777216) (hlen : l.length = len) (hd : dd < n)
  (h : ∀ b w' (s : SlV), (Own w' 0 e k s (l.map C) ∧ ∀ i, s.fp i → i = b) → (Ext w w' ∧ w.heap.size ≤ b) → wl P rd n dm ops rest Q (upd f dd s.v) w') : wl P rd n dm ops (⟨some dd, .buildSlice t len parts, ty, pos, af, none⟩ :: rest) Q f w := by
 obtain ⟨s, w', h1, h2, h3, h4⟩ := does_lits (P := P) (f := f) (w := w) (dd := dd) (ty := ty) (pos := pos) (af := af) (gd := none) ht hz hv hr hk h24 hlen
 exact wl_does h1 hd (h w.heap.size w' s ⟨h3, h4⟩ ⟨h2, Nat.le_refl _⟩)
theorem newc {P : Program} {g : FuncId} {args : Array Value} {w : World} {R V : Value → World → Prop} (h : Calls P g args w fun e w' => ∃ v, e = .returned v ∧ R v w') (hR : ∀ v w', R v w' → Ext w w' ∧ V v w') : Calls P g args w fun e w' => ∃ v, e = .returned v ∧ Ext w w' ∧ V v w' :=
 CallsIn.mono (F := fen none) (n := 0) (callsIn_wide.2 h) (by rintro e w' ⟨v, rfl, hv⟩; exact ⟨v, rfl, (hR v w' hv).1, (hR v w' hv).2⟩) |> callsIn_wide.1
theorem wl_appends {α : Type} {C : α → List Value} {dd : Tmp} {t e k bytes : Nat} {x y : Operand} {s r : SlV} {l m : List α} (ht : SliceT P t e k) (he : ElemT P e k bytes) (hx : evF f x = s.v) (hy : evF f y = r.v) (hs : Own w 0 e k s (l.map C)) (hr : Rd w k r (m.map C)) (hne : m ≠ [])
  (h1 : ∀ a ∈ m, ∀ v ∈ C a, v.oneCell' = true) (hm : (l.length + m.length) * bytes ≤ 140737488355328) (hm2 : l.length + m.length ≤ 140737488355328) (hd : dd < n)
  (h : ∀ (s' : SlV) w', Own w' 0 e k s' ((l ++ m).map C) → Chg s.fp w w' → (∀ i, s'.fp i → s.fp i ∨ w.heap.size ≤ i) → wl P rd n dm ops rest Q (upd f dd s'.v) w') : wl P rd n dm ops (⟨some dd, .call ⟨.builtin .append, #[x, y], #[t, t]⟩, ty, pos, af, none⟩ :: rest) Q f w := by
 refine wl_append (news := m.map C) ht he hx hy hs hr.sl (by simpa using hne) ?_ (by simpa using hm) (by simpa using hm2) (Nat.zero_le _) hd fun s' w' ho hc hg => h s' w' (by simpa using ho) hc hg
 intro r hr v hv
 obtain ⟨a, ha, rfl⟩ := List.mem_map.1 hr
 exact h1 a ha v hv
theorem does_append0 {dd : Option Tmp} {gd : Option (Nat × Bool)} {t e k : Nat} {x y : Operand} {s r : SlV} (ht : SliceT P t e k) (hx : evF f x = s.v) (hy : evF f y = r.v) (hs : s.n ≤ s.c) (hr : r.n = 0) : Does P ⟨dd, .call ⟨.builtin .append, #[x, y], #[t, t]⟩, ty, pos, af, gd⟩ f w s.v w := by
 obtain ⟨sp, sn, sc⟩ := s
 obtain ⟨rp, rn, rc⟩ := r
 simp only at hs hr
 subst hr
 unfold Does execOp
 simp only [resolve, invoke, builtin, Sem.run_bind, Sem.run_pure, Result.andThen_ok, List.map_toArray, List.map_cons, List.map_nil, hx, hy, SlV.eq]
 have hl : ∀ a : Addr, (loadCells a 0).run P w = .ok #[] w := fun a => rfl
 cases rp with
 | none => cases sp <;> simp [Builtin.append_, run_underlying ht.1, run_sizeOf ht.2, Builtin.lenOf, Builtin.firstCells, hs, storeCells]
 | some a => cases sp <;> simp [Builtin.append_, run_underlying ht.1, run_sizeOf ht.2, Builtin.lenOf, Builtin.firstCells, hs, storeCells, hl]
theorem wl_appendm {α : Type} {C : α → List Value} {dd : Tmp} {t e k bytes : Nat} {x y : Operand} {s r : SlV} {l m : List α} (ht : SliceT P t e k) (he : ElemT P e k bytes) (hx : evF f x = s.v) (hy : evF f y = r.v) (hs : Own w 0 e k s (l.map C)) (hr : Rd w k r (m.map C))
  (h1 : ∀ a, ∀ v ∈ C a, v.oneCell' = true) (hm : (l.length + m.length) * bytes ≤ 140737488355328) (hm2 : l.length + m.length ≤ 140737488355328) (hd : dd < n)
  (h : ∀ (s' : SlV) w', Own w' 0 e k s' ((l ++ m).map C) → Chg s.fp w w' → (∀ i, s'.fp i → s.fp i ∨ w.heap.size ≤ i) → wl P rd n dm ops rest Q (upd f dd s'.v) w') : wl P rd n dm ops (⟨some dd, .call ⟨.builtin .append, #[x, y], #[t, t]⟩, ty, pos, af, none⟩ :: rest) Q f w := by
 by_cases hne : m = []
 ·subst hne
  refine wl_does (does_append0 ht hx hy hs.room (by have := hr.sl.len; simpa using this)) hd ?_
  exact h s w (by simpa using hs) (Chg.refl _ _) (fun i hi => .inl hi)
 ·exact wl_appends ht he hx hy hs hr hne (fun a _ => h1 a) hm hm2 hd h
theorem set_flat {α : Type} {C : α → List Value} {a : α} {v : Value} (hv : C a = [v]) : ∀ (l : List α) (j : Nat), (∀ b ∈ l, (C b).length = 1) → j < l.length → ((l.set j a).map C).flatten = ((l.map C).flatten).set j v
 | [], _, _, hj => by simp at hj
 | b :: l, j, hb, hj => by
  obtain ⟨u, hu⟩ : ∃ u, C b = [u] := by
   match hq : C b, hb b (by simp) with
   | [u], _ => exact ⟨u, rfl⟩
  cases j with
  | zero => simp [hv, hu]
  | succ j => simp only [List.set_cons_succ, List.map_cons, List.flatten_cons, hu, List.singleton_append, set_flat hv l j (fun c hc => hb c (by simp [hc])) (by simpa using hj)]
theorem wl_store1 {α : Type} {C : α → List Value} {t e : Nat} {x y : Operand} {s : SlV} {l : List α} {a : α} {v : Value} {i : Int} (ht : OneT P t) (hx : evF f x = .pointer (some ⟨s.blk, s.off + i.toNat * 1, none⟩)) (hy : evF f y = v) (hs : Own w 0 e 1 s (l.map C)) (hi : 0 ≤ i ∧ i < l.length) (hv : C a = [v]) (h1 : v.oneCell' = true)
  (h : ∀ w', Own w' 0 e 1 s ((l.set i.toNat a).map C) → Chg s.fp w w' → wl P rd n dm ops rest Q f w') : wl P rd n dm ops (⟨none, .store t x y, ty, pos, af, none⟩ :: rest) Q f w := by
 have hrow : ∀ r ∈ ((l.set i.toNat a).map C), r.length = 1 := by
  intro r hr
  obtain ⟨b, hb, rfl⟩ := List.mem_map.1 hr
  rcases List.mem_or_eq_of_mem_set hb with hb | rfl
  ·exact hs.row _ (List.mem_map.2 ⟨b, hb, rfl⟩)
  ·rw [hv]; rfl
 have hone : ∀ b ∈ l, (C b).length = 1 := fun b hb => hs.row _ (List.mem_map.2 ⟨b, hb, rfl⟩)
 have hfl : ∀ {l : List α}, (∀ b ∈ l, (C b).length = 1) → ((l.map C).flatten).length = l.length := fun h => by have := flat_len (k := 1) h; simpa using this
 have hset := set_flat hv l i.toNat hone (by omega)
 have hsz : ((l.set i.toNat a).map C).flatten.length = l.length := by rw [hset, List.length_set]; exact hfl hone
 have hll := hfl hone
 rcases hs.own with ⟨_, hn⟩ | ⟨g, cap, cur, rfl, hlo, hg, hnc, hcs, htk⟩
 ·simp at hn; subst hn; simp at hi; omega
 ·have hlt : i.toNat < cur.toList.length := by
   simp at hnc hcs; simp; omega
  have hx' : evF f x = .pointer (some ⟨g, i.toNat, none⟩) := by rw [hx]; simp [SlV.blk, SlV.off]
  refine wl_store (l := cur.toList) (l' := cur.toList.set i.toNat v) ht hx' hy (by show w.heap[g]? = _; simpa using hg) hlt h1 rfl fun w' hb hc _ => ?_
  refine h w' ⟨.inr ⟨g, cap, (cur.toList.set i.toNat v).toArray, by simp, hlo, hb, by simpa using hnc, by simpa using hcs, ?_⟩, hrow⟩ (hc.mono fun j _ hj => ⟨by simp, by rw [hj]; rfl⟩)
  rw [hset, ← htk]
  simp [List.take_set]
theorem does_sliceG {d : Option Tmp} {gd : Option (Nat × Bool)} {t e k l h m : Nat} {x : Operand} {lo hi mx : Option Operand} {s : SlV} (ht : SliceT P t e k) (hx : evF f x = s.v) (hb : (Instr.sliceBounds true s.n s.c (lo.map (evF f)) (hi.map (evF f)) (mx.map (evF f))).run P w = .ok (l, h, m) w) :
  Does P ⟨d, .slice t x lo hi mx, ty, pos, af, gd⟩ f w (⟨if m = l then s.p else s.p.map (·.add (l * k)), h - l, m - l⟩ : SlV).v w := by
 have he : P.elem t = e := by unfold Program.elem; rw [ht.1]
 unfold Does execOp
 simp only [hx, SlV.eq, Sem.run_bind, run_sliceAt_slice (P := P) w t _ _ _ _ (by rw [he]; exact ht.1)]
 simp only [Instr.slice, Sem.run_bind, run_underlying ht.1, Result.andThen_ok, hb, run_sizeOf ht.2, Sem.run_pure]
theorem bounds_hi {n c : Nat} {kd : IntKind} {i : Int} (h0 : 0 ≤ i) (h1 : i ≤ c) : (Instr.sliceBounds true n c none (some (.int kd i)) none).run P w = .ok (0, i.toNat, c) w := by
 simp [Instr.sliceBounds, run_sliceBound, h0, h1]
theorem does_pre {α : Type} {C : α → List Value} {d : Option Tmp} {gd : Option (Nat × Bool)} {t e k : Nat} {x y : Operand} {s : SlV} {l : List α} {kd : IntKind} {i : Int} (ht : SliceT P t e k) (hx : evF f x = s.v) (hy : evF f y = .int kd i) (hs : Own w 0 e k s (l.map C)) (hi : 0 ≤ i ∧ i ≤ l.length) :
  Does P ⟨d, .slice t x none (some y) none, ty, pos, af, gd⟩ f w (⟨s.p, i.toNat, s.c⟩ : SlV).v w := by
 have hn := hs.sl.len
 rw [List.length_map] at hn
 have := hs.room
 refine (does_sliceG (l := 0) (h := i.toNat) (m := s.c) ht hx (by simp only [Option.map_none, Option.map_some, hy]; exact bounds_hi hi.1 (by omega))).val ?_
 cases hp : s.p <;> simp [SlV.eq, hp, Addr.add]
theorem Own.preL {α : Type} {C : α → List Value} {e k : Nat} {s : SlV} {l : List α} {i : Int} (hs : Own w 0 e k s (l.map C)) (hi : 0 ≤ i ∧ i ≤ l.length) {c : Nat} (hc : i.toNat ≤ c) (hc2 : c ≤ s.c) : Own w 0 e k ⟨s.p, i.toNat, c⟩ ((l.take i.toNat).map C) := by
 rw [List.map_take]
 exact hs.pre (by simp; omega) hc hc2
theorem Own.clip {α : Type} {C : α → List Value} {e k : Nat} {s : SlV} {l : List α} {i : Int} (hs : Own w 0 e k s (l.map C)) (hi : 0 ≤ i ∧ i ≤ l.length) : i.toNat ≤ s.c := by
 have hn := hs.sl.len
 have := hs.room
 rw [List.length_map] at hn
 omega
end
section
variable {A : Nat → Prop} {N : Oth} {w0 w w' : World} {L Z : List OA}
theorem St.lit (h : St A N w0 w L Z) {α : Type} {C : α → List Value} {l : List α} {e k b : Nat} {s : SlV} (ho : Own w' 0 e k s (l.map C) ∧ ∀ i, s.fp i → i = b) (hx : Ext w w' ∧ w.heap.size ≤ b) (hl : l.length ≤ 140737488355328) : St A N w0 w' (oS e k C s l :: L) Z :=
 h.add (b := oS e k C s l) (G := s.fp) hx.1 ⟨⟨ho.1, hl⟩, fun _ => Iff.rfl⟩ (fun i hi => by rw [ho.2 i hi]; exact hx.2)
theorem St.away (h : St A N w0 w L Z) (n : Nat) {e k : Nat} {α : Type} {C : α → List Value} {s : SlV} {l : List α} {L' : List OA} (q : L[n]? = some (oS e k C s l) := by rfl) (q' : L.eraseIdx n = L' := by rfl) {v : World} (hc : Chg s.fp w v) : St A (N.or s.fp) w0 v L' Z := by
 subst q'
 obtain ⟨U, hU, hN, hA, hL, hZ, hW⟩ := h
 obtain ⟨F, hF, hFU, hR⟩ := hL.front n q
 have hlt : ∀ i, s.fp i → U i := fun i hi => hFU i ((hF.2 i).2 hi)
 refine ⟨fun i => U i ∧ ¬ F i, fun i hi => ⟨(hU i hi.1).1, Nat.lt_of_lt_of_le (hU i hi.1).2.1 hc.size, fun q => q.elim (hU i hi.1).2.2 (fun q => hi.2 ((hF.2 i).2 q))⟩, fun i hi => Nat.lt_of_lt_of_le (hi.elim (hN i) (fun q => (hU i (hlt i q)).2.1)) hc.size, hA.thenChg hc (fun i hi hs => ((hU i (hlt i hs)).1).elim id (fun q => absurd hi (by omega))), Sep.chg hc hR (fun i hi hs => hi.2 ((hF.2 i).2 hs)), fun z hz => ?_, Wat.chg (N := N) hW hc (fun i hi => (hU i (hlt i hi)).2.2)⟩
 obtain ⟨G, g, hG⟩ := hZ z hz
 refine ⟨G, z.loc g hc (fun i hi hs => hG i hi (.inl (hlt i hs))), fun i hi q => hG i hi ?_⟩
 rcases q with q | q | q
 ·exact .inl q.1
 ·exact .inr q
 ·exact .inl (hlt i q)
def NewZ (w w' : World) (Zs : List OA) : Prop := ∀ z ∈ Zs, ∃ F, z.holds w' F ∧ ∀ i, F i → w.heap.size ≤ i
theorem NewZ.nil : NewZ w w' [] := fun _ h => by simp at h
theorem NewZ.s {k : Nat} {α : Type} {C : α → List Value} {s : SlV} {l : List α} {Zs : List OA} (hr : Rd w' k s (l.map C)) (hl : l.length ≤ 140737488355328) (hf : ∀ i, s.fp i → w.heap.size ≤ i) (h : NewZ w w' Zs) : NewZ w w' (fS k C s l :: Zs) := fun z hz => by
 rcases List.mem_cons.1 hz with rfl | hz
 ·exact ⟨s.fp, ⟨⟨hr, hl⟩, fun _ => Iff.rfl⟩, hf⟩
 ·exact h z hz
theorem St.addZs (h : St A N w0 w L Z) (hc : Ext w w') {Zs Z' : List OA} (hz : NewZ w w' Zs) (e : Zs ++ Z = Z' := by rfl) : St A N w0 w' L Z' := by
 subst e
 obtain ⟨U, hU, hN, hA, hL, hZ, hW⟩ := h
 refine ⟨U, fun i hi => ⟨(hU i hi).1, Nat.lt_of_lt_of_le (hU i hi).2.1 hc.size, (hU i hi).2.2⟩, fun i hi => Nat.lt_of_lt_of_le (hN i hi) hc.size, hA.thenExt hc, Sep.chg hc hL (fun _ _ x => x), fun z hz' => ?_, hW.chg hc (fun _ x => x.elim)⟩
 rcases List.mem_append.1 hz' with hz' | hz'
 ·obtain ⟨F, g, hF⟩ := hz z hz'
  refine ⟨F, g, fun i hi q => ?_⟩
  have := hF i hi
  rcases q with q | q
  ·exact absurd (hU i q).2.1 (by omega)
  ·exact absurd (hN i q) (by omega)
 ·exact (hZ.chg hc (fun _ x => x.elim) (fun _ hi => .inl hi)) z hz'
theorem St.newAt (h : St A N w0 w L Z) (hc : Ext w w') {b t : Nat} {l : List Value} (hb : Blk w' b t l) (hl : w.heap.size ≤ b) : St A N w0 w' (oB b t l :: L) Z :=
 h.add (b := oB b t l) (G := (· = b)) hc ⟨hb, fun _ => Iff.rfl⟩ (fun i hi => by rw [hi]; exact hl)
end
end Gw
end Go.Proofs.YtjebgcoknpcadaaDoor
end
section
namespace Go.Proofs.YtjebgcoknpcadaaDoor
open Go.RowKit
namespace Gw
def ws (P : Program) (rd : Option Nat) (n : Nat) (dm : List Nat) (l : List Oper) (lo : Nat) (Q : Post) (f : Fr) (w : World) : Prop :=
 ∀ (a : Act) (listed : Array Bool), Is n dm a f → listed.size = l.length → Closed l.toArray listed → (∀ j, j < l.length → (listed.getD j false = true ↔ j < lo)) → wpAnyIn (fen rd) 0 P .any l.toArray (lift n Q) (l.length - lo) listed a w
def drawS (ops : Array Oper) (m : Nat) : Bool :=
 (ops.toList.take m).all (fun o => o.dst.isSome) &&
 decide (((ops.toList.take m).filterMap (·.dst)).Nodup) &&
 ops.toList.zipIdx.all (fun q => q.1.after.toList.all fun e => !Region.binds .any e || decide (e.on < q.2)) &&
 ops.toList.zipIdx.all (fun q => decide (q.2 < m) || (List.range m).all fun i => ((Region.before ops).getD q.2 0).testBit i) &&
 decide (m ≤ ops.size)
def chainS (ops : Array Oper) (lo hi : Nat) : Bool :=
 ops.toList.zipIdx.all (fun q => q.1.after.toList.all fun e => !Region.binds .any e || decide (e.on < q.2)) &&
 ops.toList.zipIdx.all (fun q => decide (q.2 < lo) || (List.range (min q.2 hi)).all fun i => ((Region.before ops).getD q.2 0).testBit i) &&
 decide (hi ≤ ops.size)
theorem cnt_pre (listed : Array Bool) (m n : Nat) (hmn : m ≤ n) (h1 : ∀ j, j < m → listed.getD j false = true) (h2 : ∀ j, m ≤ j → j < n → listed.getD j false = false) : cnt listed n = m := by
 have hz : ∀ k, m ≤ k → k ≤ n → cnt listed k = m := by
  intro k
  induction k with
  | zero => intro h _; rw [show m = 0 by omega]; rfl
  | succ k ihk =>
   intro h3 h4
   by_cases hk : m ≤ k
   ·rw [cnt_succ, ihk hk (by omega), h2 k hk (by omega)]; simp
   ·have : k + 1 = m := by omega
    rw [this]
    exact cnt_all listed m h1
 exact hz n hmn (Nat.le_refl _)
section
variable {P : Program} {rd : Option Nat} {n m : Nat} {dm : List Nat} {ops : Array Oper} {Q : Post} {f : Fr} {w : World}
theorem wc_ws {id : Nat} {l : List Oper} (hm : P.follows .mixedOrders = true) (h : ∀ w', Ext w w' → ws P rd n dm l 0 Q f w') : wc P rd n dm (.region id l.toArray true) Q f w := by
 intro a ha
 refine wpIn_region_any hm ?_
 have := h _ (Ext.drawn w) a (Array.replicate l.toArray.size false) ha (by simp) (by intro j o _ h; rw [repl_false] at h; cases h) (by intro j _; rw [repl_false]; simp)
 simpa using this
theorem back_of {l : List Oper} (hback : ∀ q ∈ l.toArray.toList.zipIdx, (q.1.after.toList.all fun e => !Region.binds .any e || decide (e.on < q.2)) = true) : Back l.toArray := by
 intro i o hi e he hbd
 have := List.all_eq_true.1 (hback (o, i) (by
  rw [List.mem_zipIdx_iff_getElem?]
  simpa using hi)) e (by simpa using he)
 simp only [hbd, Bool.not_true, Bool.false_or, decide_eq_true_eq] at this
 exact this
theorem ord_of {l : List Oper} {k j : Nat} (hk : k < l.length) (h2 : ((Region.before l.toArray).getD k 0).testBit j = true) {listed : Array Bool} (hr : k ∈ Region.ready .any l.toArray listed) (hc : Closed l.toArray listed) : listed.getD j false = true := by
 rw [mem_ready] at hr
 obtain ⟨_, o, ho', hall⟩ := hr
 refine before_sound hc [] #[] rfl (by simp) (by simp) l.toArray.toList (by simp) k (by simpa using hk) j ?_ ?_
 ·unfold Region.before at h2
  rw [← Array.foldl_toList] at h2
  exact h2
 ·rw [ho']
  simpa using hall
theorem ws_chain {l : List Oper} (lo hi : Nat) (hB : chainS l.toArray lo hi = true) (hlh : lo ≤ hi) (h : wl P rd n dm l.toArray ((l.take hi).drop lo) (fun dm' e f' w' => e = .normal ∧ ws P rd n dm' l hi Q f' w') f w) : ws P rd n dm l lo Q f w := by
 simp only [chainS, Bool.and_eq_true, decide_eq_true_eq] at hB
 obtain ⟨⟨hback, htail⟩, hhi⟩ := hB
 rw [List.all_eq_true] at hback htail
 simp only [List.size_toArray] at hhi
 have hb : Back l.toArray := back_of hback
 have hord : ∀ k, lo ≤ k → k < l.length → ∀ listed : Array Bool, k ∈ Region.ready .any l.toArray listed → Closed l.toArray listed → ∀ j, j < k → j < hi → listed.getD j false = true := by
  intro k hmk hk listed hr hc j hj hjh
  have h1 := htail (l[k], k) (by
   rw [List.mem_zipIdx_iff_getElem?]
   simp)
  simp only [Bool.or_eq_true, decide_eq_true_eq] at h1
  rcases h1 with h1 | h1
  ·omega
  ·rw [List.all_eq_true] at h1
   exact ord_of hk (h1 j (by simp; omega)) hr hc
 intro a listed ha hs hc hl
 have hR := h a ha
 clear h
 have main : ∀ (fuel k : Nat) (listed : Array Bool) (a : Act) (w : World), lo ≤ k → k ≤ hi → listed.size = l.length → Closed l.toArray listed → (∀ j, j < l.length → (listed.getD j false = true ↔ j < k)) → fuel + k = hi →
   wpListIn (fen rd) 0 P l.toArray (lift n (fun dm' e f' w' => e = .normal ∧ ws P rd n dm' l hi Q f' w')) ((l.take hi).drop k) a w → wpAnyIn (fen rd) 0 P .any l.toArray (lift n Q) (l.length - k) listed a w := by
  intro fuel
  induction fuel with
  | zero =>
   intro k listed a w hlk hkh hs hc hl hf h
   have : k = hi := by omega
   subst this
   rw [List.drop_eq_nil_of_le (by simp; omega)] at h
   obtain ⟨dm', f', ha', _, hws⟩ := h
   exact hws a listed ha' hs hc hl
  | succ fuel ih =>
   intro k listed a w hlk hkh hs hc hl hf h
   have hs' : listed.size = l.toArray.size := by simpa using hs
   have hkl : k < l.length := by omega
   have hd : (l.take hi).drop k = l[k] :: (l.take hi).drop (k + 1) := by
    rw [List.drop_eq_getElem_cons (by simp; omega)]
    simp
   rw [hd] at h
   rw [show l.length - k = (l.length - (k + 1)) + 1 by omega]
   refine ⟨fun hr => ?_, fun i hi' => ?_⟩
   ·have := ready_nil hb hs' hr k (by simpa using hkl)
    rw [hl k hkl] at this
    omega
   ·obtain ⟨h1, h2⟩ := ready_lt hs' hi'
    have h1' : i < l.length := by simpa using h1
    have hge : k ≤ i := by
     refine Nat.le_of_not_lt fun hlt => ?_
     rw [(hl i h1').2 hlt] at h2
     cases h2
    have hik : i = k := by
     by_cases hki : k < i
     ·have := hord i (by omega) h1' listed hi' hc k hki (by omega)
      rw [hl k hkl] at this
      omega
     ·omega
    subst hik
    have h' := wpOp_of_wpList (i := i) (o := l[i]) (by simp) h
    have hr' : ∀ e a w, lift n (fun dm' e f' w' => e = .normal ∧ ws P rd n dm' l hi Q f' w') e a w → e = .normal := by
     rintro e a w ⟨_, _, _, he, _⟩; exact he
    unfold wpOpIn at h' ⊢
    rw [show l.toArray[i]? = some l[i] by simp] at h' ⊢
    have hstep : ∀ a' w', wpListIn (fen rd) 0 P l.toArray (lift n (fun dm' e f' w' => e = .normal ∧ ws P rd n dm' l hi Q f' w')) ((l.take hi).drop (i + 1)) a' w' → wpAnyIn (fen rd) 0 P .any l.toArray (lift n Q) (l.length - (i + 1)) (listed.setIfInBounds i true) a' w' := by
     intro a' w' h''
     refine ih (i + 1) _ a' w' (by omega) (by omega) (by simpa using hs) (hc.set hs' hi') (fun j hj => ?_) (by omega) h''
     rw [getD_set _ _ _ (by omega)]
     by_cases hij : i = j
     ·subst hij; simp
     ·rw [if_neg hij, hl j hj]
      omega
    show if _ then _ else _
    have h' : if _ then _ else _ := h'
    split at h'
    ·rename_i hw
     rw [if_pos hw]
     exact upon_mono2 hstep (fun e a w he q => absurd (hr' e a w q) he) h'
    ·rename_i hw
     rw [if_neg hw]
     exact ⟨h'.1, hstep _ _ h'.2⟩
 exact main (hi - lo) lo listed a w (Nat.le_refl _) hlh hs hc hl (by omega) hR
theorem ws_tail {l : List Oper} (lo : Nat) (hB : chainS l.toArray lo l.length = true) (hlo : lo ≤ l.length) (h : wl P rd n dm l.toArray (l.drop lo) Q f w) : ws P rd n dm l lo Q f w := by
 simp only [chainS, Bool.and_eq_true, decide_eq_true_eq] at hB
 obtain ⟨⟨hback, htail⟩, hhi⟩ := hB
 rw [List.all_eq_true] at hback htail
 have hb : Back l.toArray := back_of hback
 have hord : ∀ k, lo ≤ k → k < l.toArray.size → ∀ listed : Array Bool, listed.size = l.toArray.size → k ∈ Region.ready .any l.toArray listed → Closed l.toArray listed → ∀ j, j < k → listed.getD j false = true := by
  intro k hmk hk listed _ hr hc j hj
  have hkl : k < l.length := by simpa using hk
  have h1 := htail (l[k], k) (by
   rw [List.mem_zipIdx_iff_getElem?]
   simp)
  simp only [Bool.or_eq_true, decide_eq_true_eq] at h1
  rcases h1 with h1 | h1
  ·omega
  ·rw [List.all_eq_true] at h1
   exact ord_of hkl (h1 j (by simp; omega)) hr hc
 intro a listed ha hs hc hl
 exact any_tail (rd := rd) (P := P) (m := lo) (R := lift n Q) hb hord (l.length - lo) lo listed a w (Nat.le_refl _) (by simpa using hs) hc (by simpa using hl) (by simp; omega) (h a ha)
theorem ws_draw {l : List Oper} (lo m : Nat) (D : Draw) (hB : drawS l.toArray m = true) (hlm : lo ≤ m)
  (hst : ∀ L i v w w', L i = true → D.Le L w w' → D.V i v w → D.V i v w') (hT : D.T (fun j => decide (j < lo)) w) (hV0 : ∀ j o, j < lo → l[j]? = some o → D.V j (f (o.dst.getD 0)) w)
  (ho : Owes P rd n dm l.toArray ((l.take m).filterMap (·.dst)) D f (l.take m) 0)
  (hq : ∀ L g w, (∀ j, L j = decide (j < m)) → D.T L w → allV D g w (l.take m) 0 (ws P rd n dm l m Q (mask ((l.take m).filterMap (·.dst)) g f) w)) : ws P rd n dm l lo Q f w := by
 intro a listed0 ha hs0 hc0 hl0
 simp only [drawS, Bool.and_eq_true, decide_eq_true_eq, List.all_eq_true] at hB
 obtain ⟨⟨⟨⟨hsome, hnd⟩, hback⟩, htail⟩, hml⟩ := hB
 simp only [List.size_toArray] at hml
 generalize hds : (l.take m).filterMap (·.dst) = ds at *
 have hb : Back l.toArray := by
  intro i o hi e he hbd
  have := hback (o, i) (by
   rw [List.mem_zipIdx_iff_getElem?]
   simpa using hi) e (by simpa using he)
  simp only [hbd, Bool.not_true, Bool.false_or, decide_eq_true_eq] at this
  exact this
 have hord : ∀ k, m ≤ k → k < l.toArray.size → ∀ listed : Array Bool, listed.size = l.toArray.size → k ∈ Region.ready .any l.toArray listed → Closed l.toArray listed → ∀ j, j < m → listed.getD j false = true := by
  intro k hmk hk listed hs hr hc j hj
  have hkl : k < l.length := by simpa using hk
  have h1 := htail (l[k], k) (by
   rw [List.mem_zipIdx_iff_getElem?]
   simp)
  simp only [Bool.or_eq_true, decide_eq_true_eq] at h1
  rcases h1 with h1 | h1
  ·omega
  ·rw [List.all_eq_true] at h1
   have h2 := h1 j (by simpa using hj)
   rw [mem_ready] at hr
   obtain ⟨_, o, ho', hall⟩ := hr
   refine before_sound hc [] #[] rfl (by simp) (by simp) l.toArray.toList (by simp) k hk j ?_ ?_
   ·unfold Region.before at h2
    rw [← Array.foldl_toList] at h2
    exact h2
   ·rw [ho']
    simpa using hall
 have hmd : ∀ j o, (l.take m)[j]? = some o → j < m ∧ l.toArray[j]? = some o ∧ ∃ d, o.dst = some d ∧ d ∈ ds := by
  intro j o hj
  have hjm : j < m := by
   have := (List.getElem?_eq_some_iff.1 hj).1
   simp at this; omega
  have hjo : l[j]? = some o := by rw [List.getElem?_take] at hj; simpa [hjm] using hj
  have hso := hsome o (List.mem_of_getElem? hj)
  cases hd : o.dst with
  | none => rw [hd] at hso; simp at hso
  | some d => exact ⟨hjm, by simpa using hjo, d, rfl, by rw [← hds]; exact List.mem_filterMap.2 ⟨o, List.mem_of_getElem? hj, hd⟩⟩
 have hinj : ∀ (i j : Nat) (oi oj : Oper) (d : Nat), (l.take m)[i]? = some oi → (l.take m)[j]? = some oj → oi.dst = some d → oj.dst = some d → i = j := by
  have hgen : ∀ (L : List Oper), (L.filterMap (·.dst)).Nodup → ∀ (i j : Nat) (oi oj : Oper) (d : Nat), L[i]? = some oi → L[j]? = some oj → oi.dst = some d → oj.dst = some d → i = j := by
   intro L
   induction L with
   | nil => intro _ i j oi oj d h; simp at h
   | cons o L ih =>
    intro hn i j oi oj d hi hj hdi hdj
    have hn' : (L.filterMap (·.dst)).Nodup := by
     rw [List.filterMap_cons] at hn
     split at hn
     ·exact hn
     ·exact (List.nodup_cons.1 hn).2
    have hno : ∀ (k : Nat) (ok : Oper) (dd : Nat), L[k]? = some ok → o.dst = some dd → ok.dst ≠ some dd := by
     intro k ok dd hk hod hkd
     rw [List.filterMap_cons, hod] at hn
     exact (List.nodup_cons.1 hn).1 (List.mem_filterMap.2 ⟨ok, List.mem_of_getElem? hk, hkd⟩)
    cases i with
    | zero =>
     cases j with
     | zero => rfl
     | succ j => simp at hi; subst hi; exact absurd hdj (hno j oj d (by simpa using hj) hdi)
    | succ i =>
     cases j with
     | zero => simp at hj; subst hj; exact absurd hdi (hno i oi d (by simpa using hi) hdj)
     | succ j => rw [ih hn' i j oi oj d (by simpa using hi) (by simpa using hj) hdi hdj]
  exact hgen _ (by rw [hds]; exact hnd)
 have main : ∀ (fuel : Nat) (listed : Array Bool) (g : Fr) (a : Act) (w : World), listed.size = l.length → fuel + cnt listed l.length = l.length → Closed l.toArray listed → (∀ j, m ≤ j → j < l.length → listed.getD j false = false) →
   Is n dm a (mask ds g f) → D.T (fun j => listed.getD j false) w → (∀ j o, (l.take m)[j]? = some o → listed.getD j false = true → D.V j (g (o.dst.getD 0)) w) → wpAnyIn (fen rd) 0 P .any l.toArray (lift n Q) fuel listed a w := by
  intro fuel
  induction fuel with
  | zero =>
   intro listed g a w hs hcnt hc hno ha hT hV
   have hall := cnt_full listed l.length (by omega)
   have hm' : m = l.length := by
    by_cases h : m < l.length
    ·have := hno m (Nat.le_refl _) h
     rw [hall m h] at this
     cases this
    ·omega
   have hfin := allV_elim (l.take m) 0 (fun j o hj => by rw [Nat.zero_add]; exact hV j o hj (hall j (by have := (hmd j o hj).1; omega))) (hq _ g w (fun j => by
    by_cases hj : j < l.length
    ·rw [hall j hj, decide_eq_true (by omega)]
    ·rw [out_false listed j (by omega), decide_eq_false (by omega)]) hT)
   have hf0 := hfin a listed ha hs hc (fun j hj => ⟨fun _ => by omega, fun _ => hall j hj⟩)
   rw [show l.length - m = 0 by omega] at hf0
   exact hf0
  | succ fuel ih =>
   intro listed g a w hs hcnt hc hno ha hT hV
   have hs' : listed.size = l.toArray.size := by simpa using hs
   refine ⟨fun hr => ?_, fun i hi => ?_⟩
   ·have hall := ready_nil hb hs' hr
    have := cnt_all listed l.length (fun j hj => hall j (by simpa using hj))
    omega
   ·obtain ⟨h1, h2⟩ := ready_lt hs' hi
    have h1' : i < l.length := by simpa using h1
    by_cases him : i < m
    ·have hio : (l.take m)[i]? = some l[i] := by
      rw [List.getElem?_take, if_pos him]
      exact List.getElem?_eq_getElem h1'
     obtain ⟨_, hio', d, hd, hdds⟩ := hmd i _ hio
     have howe := owes_at _ 0 ho i _ hio (fun j => listed.getD j false) g w (by rw [Nat.zero_add]; exact h2) hT
     rw [Nat.zero_add] at howe
     have hready := hi
     rw [mem_ready] at hready
     obtain ⟨_, o, hoo, hall⟩ := hready
     rw [hio'] at hoo
     cases hoo
     have hwl := givens_elim (ops := l.toArray) (needs l[i]) (fun j hj => by
      unfold needs at hj
      obtain ⟨e, he, rfl⟩ := List.mem_map.1 hj
      obtain ⟨he1, he2⟩ := List.mem_filter.1 he
      have hbd : Region.binds .any e = true := by
       unfold Region.binds
       cases hg : e.ground <;> rw [hg] at he2 <;> simp at he2 ⊢
      have hlt := hb i _ hio' e (by simpa using he1) hbd
      have hlst := hall e (by simpa using he1) hbd
      have hjm : e.on < m := by omega
      have hjo : (l.take m)[e.on]? = some l[e.on] := by
       rw [List.getElem?_take, if_pos hjm]
       exact List.getElem?_eq_getElem (by omega)
      have := hV e.on _ hjo hlst
      unfold dstAt
      obtain ⟨_, hj2, dj, hdj, _⟩ := hmd _ _ hjo
      rw [hj2]
      simp only [Option.bind_some]
      exact this) howe
     rw [hd] at hwl
     refine wpOp_of_wl hio' hwl (fun dm e f' w' q => q.1) ?_ ha
     rintro dm' a' f' w' ha' ⟨_, rfl, hT', hL', v, rfl, hV'⟩
     have hmask : upd (mask ds g f) d v = mask ds (upd g d v) f := by
      funext k
      by_cases hk : k = d
      ·subst hk
       rw [upd_same, mask_in hdds, upd_same]
      ·rw [upd_other _ _ _ _ hk]
       by_cases hkd : k ∈ ds
       ·rw [mask_in hkd, mask_in hkd, upd_other _ _ _ _ hk]
       ·rw [mask_out hkd, mask_out hkd]
     simp only [Option.getD_some] at ha'
     rw [hmask] at ha'
     rw [plus_set listed i (by omega)] at hT'
     refine ih _ (upd g d v) a' w' (by simpa using hs) ?_ (hc.set hs' hi) ?_ ha' hT' ?_
     ·rw [cnt_set listed i (by omega) h2, if_pos h1']; omega
     ·intro j hmj hjl
      rw [getD_set _ _ _ (by omega), if_neg (by omega)]
      exact hno j hmj hjl
     ·intro j oj hj hlj
      obtain ⟨_, _, dj, hdj, _⟩ := hmd j oj hj
      rw [getD_set _ _ _ (by omega)] at hlj
      by_cases hij : i = j
      ·subst hij
       rw [hio] at hj
       cases hj
       rw [hd]
       simp only [Option.getD_some, upd_same]
       exact hV'
      ·rw [if_neg hij] at hlj
       have hne : dj ≠ d := fun e => hij (hinj i j _ oj d hio hj hd (by rw [hdj, e]))
       have := hst _ j _ _ _ hlj hL' (hV j oj hj hlj)
       rw [hdj] at this ⊢
       simp only [Option.getD_some] at this ⊢
       rw [upd_other _ _ _ _ hne]
       exact this
    ·have hallj := hord i (by omega) h1 listed hs' hi hc
     have hfin := allV_elim (l.take m) 0 (fun j o hj => by rw [Nat.zero_add]; exact hV j o hj (hallj j (by have := (hmd j o hj).1; omega))) (hq _ g w (fun j => by
      by_cases hj : j < m
      ·rw [hallj j hj, decide_eq_true hj]
      ·rw [decide_eq_false hj]
       by_cases hjl : j < l.length
       ·exact hno j (by omega) hjl
       ·exact out_false listed j (by omega)) hT)
     have hf0 := hfin a listed ha hs hc (fun j hj => ⟨(fun h => by
      refine Nat.lt_of_not_le fun hij => ?_
      rw [hno j hij hj] at h
      cases h), hallj j⟩)
     have hcn := cnt_pre listed m l.length (by omega) hallj hno
     rw [show l.length - m = fuel + 1 by omega] at hf0
     exact hf0.2 i hi
 have h0 : Is n dm a (mask ds f f) := by
  have : mask ds f f = f := by funext k; unfold mask; cases ds.elem k <;> rfl
  rw [this]; exact ha
 have hlm' : lo ≤ l.length := by omega
 have hz := cnt_pre listed0 lo l.length hlm' (fun j hj => (hl0 j (by omega)).2 hj) (fun j h1 h2 => by
  cases h : listed0.getD j false with
  | false => rfl
  | true => have := (hl0 j h2).1 h; omega)
 refine main _ listed0 f a w hs0 (by rw [hz]; omega) hc0 (fun j h1 h2 => ?_) h0 ?_ ?_
 ·cases h : listed0.getD j false with
  | false => rfl
  | true => have := (hl0 j h2).1 h; omega
 ·have he : (fun j => listed0.getD j false) = fun j => decide (j < lo) := by
   funext j
   by_cases hj : j < l.length
   ·cases h : listed0.getD j false with
    | true => rw [decide_eq_true ((hl0 j hj).1 h)]
    | false =>
     refine (decide_eq_false fun h' => ?_).symm
     rw [(hl0 j hj).2 h'] at h; cases h
   ·rw [out_false _ _ (by omega), decide_eq_false (by omega)]
  rw [he]; exact hT
 ·intro j o hj hlj
  obtain ⟨hjm, hjo, _⟩ := hmd j o hj
  exact hV0 j o ((hl0 j (by omega)).1 hlj) (by simpa using hjo)
def needsS (ops : Array Oper) (lo m n : Nat) (sm : List Nat) : Bool :=
 let ds := (ops.toList.take m).filterMap (·.dst)
 sm.all (fun k => decide (lo ≤ k) && decide (k < m)) && (ops.toList.take m).zipIdx.all fun q => decide (q.2 < lo) || (let o := q.1
  (o.op.operands.toList.all fun x => match x with
   | .tmp t => !ds.elem t || (needs o).any fun j => (((ops[j]?).bind (·.dst)) == some t) && (sm.elem q.2 || !sm.elem j)
   | _ => true) &&
  (match o.guard with
   | none => true
   | some (j, _) => (needs o).elem j && (((ops[j]?).bind (·.dst)).any fun t => decide (t < n)) && !sm.elem j) &&
  (match o.op with | .select .. => false | _ => true) &&
  (match o.dst with | some d => decide (d < n) | none => false))
theorem ws_semi {l : List Oper} {V : Veil} (lo m : Nat) (sm : List Nat) (hB : drawS l.toArray m = true) (hlm : lo ≤ m) (hN : needsS l.toArray lo m n sm = true)
  (hst : ∀ i v w w', sm.elem i = true → Ext w w' → V i v w → V i v w')
  (h : wm P l.toArray w V sm (slotsM l.toArray sm) ((l.take m).drop lo) lo (fun f' => ∀ g w', Ext w w' → (∀ i, sm.elem i = true → i < m → V i (g (dstAt l.toArray i)) w') → ws P rd n dm l m Q (mask (slotsM l.toArray sm) g f') w') f) : ws P rd n dm l lo Q f w := by
 obtain ⟨F0, hF0', hFK, hF'⟩ := wm_vals _ _ _ h
 simp only [needsS, Bool.and_eq_true] at hN
 obtain ⟨hsm, hN⟩ := hN
 have hB' := hB
 simp only [drawS, Bool.and_eq_true, decide_eq_true_eq, List.all_eq_true] at hB
 obtain ⟨⟨⟨⟨hsome, hnd⟩, hback⟩, htail⟩, hml⟩ := hB
 simp only [List.size_toArray] at hml
 have hlen : (l.take m).length = m := by simp; omega
 have hlen' : lo + ((l.take m).drop lo).length = m := by rw [List.length_drop, hlen]; omega
 rw [hlen'] at hFK
 obtain ⟨F, hF0, hFm, hF, hFlo⟩ : ∃ F : Nat → Fr, F 0 = f ∧ F m = F0 m ∧ (∀ (k : Nat) (o : Oper), lo ≤ k → (l.take m)[k]? = some o →
   (sm.elem k = true → (∀ g, SOp P l.toArray w o (mask (slotsM l.toArray sm) g (F k)) (fun w => givs l.toArray V sm g w o) (V k)) ∧ F (k + 1) = F k) ∧ (sm.elem k = false → ∃ v, SOp P l.toArray w o (F k) (fun _ => True) (fun v' _ => v' = v) ∧ F (k + 1) = upd (F k) (o.dst.getD 0) v)) ∧ ∀ k, k ≤ lo → F k = f := by
  refine ⟨fun k => if k ≤ lo then f else F0 k, by simp, ?_, ?_, fun k hk => if_pos hk⟩
  ·show (if m ≤ lo then f else F0 m) = F0 m
   split
   ·rw [show m = lo by omega, hF0']
   ·rfl
  ·intro k o hlk hk
   have hk0 : (if k ≤ lo then f else F0 k) = F0 k := by
    split
    ·rw [show k = lo by omega, hF0']
    ·rfl
   have hk1 : (if k + 1 ≤ lo then f else F0 (k + 1)) = F0 (k + 1) := if_neg (by omega)
   simp only [hk0, hk1]
   have := hF' (k - lo) o (by rw [List.getElem?_drop, show lo + (k - lo) = k by omega]; exact hk)
   rw [show lo + (k - lo) = k by omega] at this
   exact this
 rw [← hFm] at hFK
 generalize hss : slotsM l.toArray sm = ss at *
 let U : Veil := fun i v w => if sm.elem i = true then V i v w else ∀ o, (l.take m)[i]? = some o → v = F (i + 1) (o.dst.getD 0)
 have hdist : ∀ (i j : Nat) (oi oj : Oper) (d : Nat), (l.take m)[i]? = some oi → (l.take m)[j]? = some oj → oi.dst = some d → oj.dst = some d → i = j := by
  have hgen : ∀ (L : List Oper), (L.filterMap (·.dst)).Nodup → ∀ (i j : Nat) (oi oj : Oper) (d : Nat), L[i]? = some oi → L[j]? = some oj → oi.dst = some d → oj.dst = some d → i = j := by
   intro L
   induction L with
   | nil => intro _ i j oi oj d h; simp at h
   | cons o L ih =>
    intro hn i j oi oj d hi hj hdi hdj
    have hn' : (L.filterMap (·.dst)).Nodup := by
     rw [List.filterMap_cons] at hn
     split at hn
     ·exact hn
     ·exact (List.nodup_cons.1 hn).2
    have hno : ∀ (k : Nat) (ok : Oper) (dd : Nat), L[k]? = some ok → o.dst = some dd → ok.dst ≠ some dd := by
     intro k ok dd hk hod hkd
     rw [List.filterMap_cons, hod] at hn
     exact (List.nodup_cons.1 hn).1 (List.mem_filterMap.2 ⟨ok, List.mem_of_getElem? hk, hkd⟩)
    cases i with
    | zero =>
     cases j with
     | zero => rfl
     | succ j => simp at hi; subst hi; exact absurd hdj (hno j oj d (by simpa using hj) hdi)
    | succ i =>
     cases j with
     | zero => simp at hj; subst hj; exact absurd hdi (hno i oi d (by simpa using hi) hdj)
     | succ j => rw [ih hn' i j oi oj d (by simpa using hi) (by simpa using hj) hdi hdj]
  exact hgen _ hnd
 have hdst : ∀ (i : Nat) (o : Oper), (l.take m)[i]? = some o → ∃ d, o.dst = some d := by
  intro i o hi
  have := hsome o (List.mem_of_getElem? hi)
  cases hd : o.dst with
  | none => rw [hd] at this; simp at this
  | some d => exact ⟨d, rfl⟩
 have hat : ∀ (i : Nat) (o : Oper), (l.take m)[i]? = some o → i < m ∧ l.toArray[i]? = some o := by
  intro i o hi
  have him : i < m := by have := (List.getElem?_eq_some_iff.1 hi).1; omega
  exact ⟨him, by rw [List.getElem?_take, if_pos him] at hi; simpa using hi⟩
 have hsmd : ∀ k ∈ sm, ∃ o, (l.take m)[k]? = some o ∧ o.dst = some (dstAt l.toArray k) := by
  intro k hk
  have hkm : k < m := by have := List.all_eq_true.1 hsm k hk; simp only [Bool.and_eq_true, decide_eq_true_eq] at this; omega
  have hkl : k < (l.take m).length := by omega
  obtain ⟨d, hd⟩ := hdst k _ (List.getElem?_eq_getElem hkl)
  refine ⟨_, List.getElem?_eq_getElem hkl, ?_⟩
  have := (hat k _ (List.getElem?_eq_getElem hkl)).2
  unfold dstAt
  rw [this, Option.bind_some, hd]; rfl
 -- one step of the run keeps the slots of other operations
 have hstep : ∀ (k : Nat) (o : Oper) (d : Nat), (l.take m)[k]? = some o → (∀ dk, o.dst = some dk → d ≠ dk) → F (k + 1) d = F k d := by
  intro k o d hk hne
  obtain ⟨dk, hdk⟩ := hdst k o hk
  by_cases hlk : k < lo
  ·rw [hFlo (k + 1) (by omega), hFlo k (by omega)]
  replace hlk : lo ≤ k := by omega
  cases hs : sm.elem k with
  | true => rw [((hF k o hlk hk).1 hs).2]
  | false =>
   obtain ⟨v, _, hFk⟩ := (hF k o hlk hk).2 hs
   rw [hFk, hdk]
   exact upd_other _ _ _ _ (hne dk hdk)
 have hkeep : ∀ (k i : Nat) (o : Oper) (d : Nat), (l.take m)[i]? = some o → o.dst = some d → i < k → k ≤ m → F k d = F (i + 1) d := by
  intro k
  induction k with
  | zero => intro i o d _ _ h; omega
  | succ k ih =>
   intro i o d hi hd hik hkm
   by_cases hik' : i = k
   ·subst hik'; rfl
   ·have hkl : k < (l.take m).length := by omega
    rw [hstep k _ d (List.getElem?_eq_getElem hkl) (fun dk hdk e => by subst e; exact hik' (hdist i k o _ d hi (List.getElem?_eq_getElem hkl) hd hdk))]
    exact ih i o d hi hd (by omega) (by omega)
 have hout : ∀ (k d : Nat), k ≤ m → d ∉ (l.take m).filterMap (·.dst) → F k d = f d := by
  intro k
  induction k with
  | zero => intro d _ _; rw [hF0]
  | succ k ih =>
   intro d hkm hd
   have hkl : k < (l.take m).length := by omega
   rw [hstep k _ d (List.getElem?_eq_getElem hkl) (fun dk hdk e => by subst e; exact hd (List.mem_filterMap.2 ⟨_, List.getElem_mem hkl, hdk⟩))]
   exact ih d (by omega) hd
 have hssd : ∀ (j : Nat) (oj : Oper) (t : Nat), (l.take m)[j]? = some oj → oj.dst = some t → (t ∈ ss ↔ ∃ k, sm.elem k = true ∧ dstAt l.toArray k = t) := by
  intro j oj t _ _
  rw [← hss]
  unfold slotsM
  simp
 -- in the frame of a run, a slot that an operation of V's makes is g's; a quiet one's is the run's
 have hslot : ∀ (i : Nat) (o : Oper) (g : Fr) (w' : World), (l.take m)[i]? = some o → (∀ j ∈ needs o, U j (g (dstAt l.toArray j)) w') → ∀ (j : Nat) (oj : Oper) (t : Nat), j ∈ needs o → l.toArray[j]? = some oj → oj.dst = some t →
   (sm.elem j = false → mask ((l.take m).filterMap (·.dst)) g f t = F i t) ∧ mask ((l.take m).filterMap (·.dst)) g f t = g t ∧ j < i := by
  intro i o g w' hi hneed j oj t hj hoj hdj
  have hji : j < i := by
   unfold needs at hj
   obtain ⟨e, he, rfl⟩ := List.mem_map.1 hj
   obtain ⟨he1, he2⟩ := List.mem_filter.1 he
   have hbd : Region.binds .any e = true := by
    unfold Region.binds
    cases hg : e.ground <;> rw [hg] at he2 <;> simp at he2 ⊢
   have := hback (o, i) (by rw [List.mem_zipIdx_iff_getElem?]; simpa using (hat i o hi).2) e (by simpa using he1)
   simp only [hbd, Bool.not_true, Bool.false_or, decide_eq_true_eq] at this
   exact this
  have him := (hat i o hi).1
  have hjm : (l.take m)[j]? = some oj := by
   rw [List.getElem?_take, if_pos (by omega)]
   simpa using hoj
  have ht : t ∈ (l.take m).filterMap (·.dst) := List.mem_filterMap.2 ⟨oj, List.mem_of_getElem? hjm, hdj⟩
  have hda : dstAt l.toArray j = t := by simp [dstAt, hoj, hdj]
  refine ⟨fun hs => ?_, mask_in ht, hji⟩
  rw [mask_in ht, hkeep i j oj t hjm hdj hji (by omega)]
  have := hneed j hj
  simp only [U, hs, Bool.false_eq_true, if_false] at this
  have := this oj hjm
  rw [hda, hdj] at this
  exact this
 have hsmlo : ∀ k, k < lo → sm.elem k = false := fun k hk => by
  cases h : sm.elem k with
  | false => rfl
  | true =>
   have := List.all_eq_true.1 hsm k (by simpa using h)
   simp only [Bool.and_eq_true, decide_eq_true_eq] at this
   omega
 refine ws_draw lo m ⟨fun L w' => Ext w w' ∧ ∀ i, i < lo → L i = true, fun _ => Ext, U⟩ hB' hlm (fun L i v w1 w2 _ hl hv => ?_) ⟨Ext.refl w, fun i hi => by simpa using hi⟩ (fun j o hj ho => ?_) ?_ ?_
 ·simp only [U] at hv ⊢
  split
  ·rename_i hs; rw [if_pos hs] at hv; exact hst i v w1 w2 hs hl hv
  ·rename_i hs; rw [if_neg hs] at hv; exact hv
 ·simp only [U, hsmlo j hj, Bool.false_eq_true, if_false]
  intro o' ho'
  rw [hFlo (j + 1) (by omega)]
  have := (hat j o' ho').2
  rw [List.getElem?_toArray] at this
  rw [ho] at this; cases this; rfl
 ·-- each operation
  have howe : ∀ (L : List Oper) (k : Nat), (∀ j o, L[j]? = some o → (l.take m)[k + j]? = some o) → Owes P rd n dm l.toArray ((l.take m).filterMap (·.dst)) ⟨fun L w' => Ext w w' ∧ ∀ i, i < lo → L i = true, fun _ => Ext, U⟩ f L k := by
   intro L
   induction L with
   | nil => intro k _; trivial
   | cons o L ih =>
    intro k hL
    refine ⟨?_, ih (k + 1) (fun j o' hj => by
     have := hL (j + 1) o' (by simpa using hj)
     rwa [show k + (j + 1) = k + 1 + j by omega] at this)⟩
    have hk : (l.take m)[k]? = some o := hL 0 o rfl
    obtain ⟨hkm, hko⟩ := hat k o hk
    obtain ⟨d, hd⟩ := hdst k o hk
    intro Ls g w1 hLi hTw
    have hlk : lo ≤ k := by
     refine Nat.le_of_not_lt fun h => ?_
     rw [hTw.2 k h] at hLi; cases hLi
    refine (show ∀ (p : Prop), ((∀ j ∈ needs o, U j (g (dstAt l.toArray j)) w1) → p) → givens l.toArray ⟨fun L w' => Ext w w' ∧ ∀ i, i < lo → L i = true, fun _ => Ext, U⟩ g w1 (needs o) p from ?_) _ ?_
    ·intro p
     generalize needs o = nl
     induction nl with
     | nil => intro hp; exact hp (by simp)
     | cons j nl ihn =>
      intro hp hj
      exact ihn (fun h' => hp (fun j' hj' => by
       rcases List.mem_cons.1 hj' with rfl | hj'
       ·exact hj
       ·exact h' j' hj'))
    intro hneed
    have hNo := List.all_eq_true.1 hN (o, k) (by rw [List.mem_zipIdx_iff_getElem?]; simpa using hk)
    simp only [Bool.or_eq_true, decide_eq_true_eq] at hNo
    replace hNo := hNo.resolve_left (by omega)
    simp only [Bool.and_eq_true] at hNo
    obtain ⟨⟨⟨hops, hgd⟩, hsel⟩, hdn⟩ := hNo
    rw [hd] at hdn
    simp only [decide_eq_true_eq] at hdn
    have hsel' : ∀ cs b, o.op ≠ .select cs b := by
     intro cs b e
     rw [e] at hsel
     cases hsel
    have hsl := hslot k o g w1 hk hneed
    -- the frame that the proof of this operation has seen
    have hfr : ∀ fr : Fr, (fr = F k ∧ sm.elem k = false ∨ fr = mask ss g (F k) ∧ sm.elem k = true) → ∀ x ∈ o.op.operands, evF fr x = evF (mask ((l.take m).filterMap (·.dst)) g f) x := by
     intro fr hfr x hx
     cases x with
     | tmp t =>
      have h0 := List.all_eq_true.1 hops (.tmp t) (by simpa using hx)
      simp only [Bool.or_eq_true] at h0
      show fr t = mask _ g f t
      by_cases ht : t ∈ (l.take m).filterMap (·.dst)
      ·rcases h0 with h1 | h1
       ·simp at h1
        obtain ⟨x, hx1, hx2⟩ := List.mem_filterMap.1 ht
        exact absurd hx2 (h1 x hx1)
       ·obtain ⟨j, hj, hjt⟩ := List.any_eq_true.1 h1
        simp only [Bool.and_eq_true, beq_iff_eq] at hjt
        obtain ⟨hjt, hjq⟩ := hjt
        cases hoj : l.toArray[j]? with
        | none => rw [hoj] at hjt; simp at hjt
        | some oj =>
         rw [hoj] at hjt
         have hdj : oj.dst = some t := by simpa using hjt
         obtain ⟨q1, q2, q3⟩ := hsl j oj t hj hoj hdj
         rcases hfr with ⟨rfl, hs⟩ | ⟨rfl, hs⟩
         ·rw [hs] at hjq
          simp only [Bool.false_or, Bool.not_eq_true'] at hjq
          exact (q1 hjq).symm
         ·have hda : dstAt l.toArray j = t := by simp [dstAt, hoj, hdj]
          by_cases hjs : sm.elem j = true
          ·rw [q2]
           refine mask_in ?_
           rw [← hss]; unfold slotsM
           exact List.mem_map.2 ⟨j, by simpa using hjs, hda⟩
          ·have hjs' : sm.elem j = false := by simpa using hjs
           rw [q1 hjs']
           refine mask_out ?_
           rw [← hss]; unfold slotsM
           intro hmem
           obtain ⟨k', hk', hdk'⟩ := List.mem_map.1 hmem
           have hjm : (l.take m)[j]? = some oj := by
            rw [List.getElem?_take, if_pos (by omega)]
            simpa using hoj
           obtain ⟨ok, hok, hdk⟩ := hsmd k' hk'
           rw [hdk'] at hdk
           have := hdist k' j ok oj t hok hjm hdk hdj
           subst this
           rw [show sm.elem k' = true by simpa using hk'] at hjs'
           cases hjs' 
      ·rw [mask_out ht]
       rcases hfr with ⟨rfl, hs⟩ | ⟨rfl, hs⟩
       ·exact hout k t (by omega) ht
       ·rw [mask_out, hout k t (by omega) ht]
        rw [← hss]; unfold slotsM
        intro hmem
        obtain ⟨k', hk', hdk'⟩ := List.mem_map.1 hmem
        obtain ⟨ok, hok, hdk⟩ := hsmd k' hk'
        rw [hdk'] at hdk
        exact ht (List.mem_filterMap.2 ⟨ok, List.mem_of_getElem? hok, hdk⟩)
     | _ => rfl
    -- the operation, on the frame at hand
    have hgiv : givs l.toArray V sm g w1 o := fun j hj hs => by
     have := hneed j hj
     simp only [U, hs, if_true] at this
     exact this
    obtain ⟨fr, H, R, hso, hfrx, hH, hR⟩ : ∃ (fr : Fr) (H : World → Prop) (R : Value → World → Prop), SOp P l.toArray w o fr H R ∧ (fr = F k ∧ sm.elem k = false ∨ fr = mask ss g (F k) ∧ sm.elem k = true) ∧ H w1 ∧ (∀ v w', R v w' → U k v w') := by
     cases hs : sm.elem k with
     | true => exact ⟨_, _, _, ((hF k o hlk hk).1 hs).1 g, .inr ⟨rfl, rfl⟩, hgiv, fun v w' hv => by simp only [U, hs, if_true]; exact hv⟩
     | false =>
      obtain ⟨v, hv, hFk⟩ := (hF k o hlk hk).2 hs
      refine ⟨_, _, _, hv, .inl ⟨rfl, rfl⟩, trivial, fun v' w' e => ?_⟩
      simp only [U, hs, Bool.false_eq_true, if_false]
      intro o' ho'
      rw [hk] at ho'
      cases ho'
      rw [hFk, e, upd_same]
    have hoper := hfr fr hfrx
    have hfin : ∀ v w', Ext w1 w' → R v w' → obPost dm ⟨fun L w' => Ext w w' ∧ ∀ i, i < lo → L i = true, fun _ => Ext, U⟩ Ls k (o.dst.getD 0) (mask ((l.take m).filterMap (·.dst)) g f) w1 dm .normal (upd (mask ((l.take m).filterMap (·.dst)) g f) (o.dst.getD 0) v) w' :=
     fun v w' hx hv => ob (D := ⟨fun L w' => Ext w w' ∧ ∀ i, i < lo → L i = true, fun _ => Ext, U⟩) ⟨hTw.1.trans hx, fun i hi => by unfold plus; rw [hTw.2 i hi]; simp⟩ hx (hR v w' hv)
    obtain ⟨od, oop, oty, opos, oaf, ogd⟩ := o
    simp only at hd
    subst hd
    simp only [Option.getD_some] at hfin
    intro a ha
    cases ogd with
    | none =>
     have q := srun_congr hsel' hoper (show SRun P w _ fr H R from hso)
     refine wpListIn_plain rfl fun K' hK => ?_
     refine wl_of_srun q hTw.1 hH ha _ _ fun v w' hx hv => hK _ _ ?_
     exact ⟨_, _, ha.put hdn v, hfin v w' hx hv⟩
    | some gp =>
     obtain ⟨j, pol⟩ := gp
     obtain ⟨c, t, ht, hjs, hqy, hqn⟩ := hso
     simp only [Bool.and_eq_true, Bool.not_eq_true'] at hgd
     obtain ⟨⟨hjn, hjd⟩, hjq⟩ := hgd
     cases hoj : l.toArray[j]? with
     | none => rw [hoj] at hjs; simp at hjs
     | some oj =>
      rw [hoj] at hjd
      simp only [Option.bind_some, Option.any_eq_true] at hjd
      obtain ⟨dj, hdj, hdjn⟩ := hjd
      obtain ⟨q1, q2, q3⟩ := hsl j oj dj (by simpa using hjn) hoj hdj
      have hda : dstAt l.toArray j = dj := by simp [dstAt, hoj, hdj]
      have hfd : fr dj = mask ((l.take m).filterMap (·.dst)) g f dj := by
       rcases hfrx with ⟨rfl, _⟩ | ⟨rfl, _⟩
       ·exact (q1 hjq).symm
       ·rw [q1 hjq]
        refine mask_out ?_
        rw [← hss]; unfold slotsM
        intro hmem
        obtain ⟨k', hk', hdk'⟩ := List.mem_map.1 hmem
        obtain ⟨ok, hok, hdk⟩ := hsmd k' hk'
        rw [hdk'] at hdk
        have hjm : (l.take m)[j]? = some oj := by
         rw [List.getElem?_take, if_pos (by omega)]
         simpa using hoj
        have := hdist k' j ok oj dj hok hjm hdk hdj
        subst this
        rw [show sm.elem k' = true by simpa using hk'] at hjq
        cases hjq
      rw [hda, hfd] at ht
      refine wpListIn_step fun K' hK => ?_
      rw [wanted_gv ha rfl hoj hdj ht (by simpa using hdjn)]
      cases hc : (c && (t == pol)) with
      | true =>
       rw [if_pos rfl]
       have q := srun_congr hsel' hoper (hqy hc)
       refine wl_of_srun q hTw.1 hH ha _ _ fun v w' hx hv => hK _ _ ?_
       exact ⟨_, _, ha.put hdn v, hfin v w' hx hv⟩
      | false =>
       rw [if_neg (by simp)]
       have := hfin undef w1 (Ext.refl w1) (hqn hc w1)
       exact ⟨fun _ _ => trivial, hK _ _ ⟨_, _, ha.put hdn undef, this⟩⟩
  exact howe _ 0 (fun j o hj => by rw [Nat.zero_add]; exact hj)
 ·-- the tail
  intro Ls g w1 _ hTw
  have hall : ∀ (L : List Oper) (k : Nat) (p : Prop), ((∀ j o, L[j]? = some o → U (k + j) (g (o.dst.getD 0)) w1) → p) → allV ⟨fun L w' => Ext w w' ∧ ∀ i, i < lo → L i = true, fun _ => Ext, U⟩ g w1 L k p := by
   intro L
   induction L with
   | nil => intro k p hp; exact hp (by intro j o h; simp at h)
   | cons o L ih =>
    intro k p hp hv
    refine ih (k + 1) p fun h' => hp fun j o' hj => ?_
    cases j with
    | zero => simp at hj; subst hj; exact hv
    | succ j =>
     have := h' j o' (by simpa using hj)
     rwa [show k + 1 + j = k + (j + 1) by omega] at this
  refine hall _ 0 _ fun hv => ?_
  have heq : mask ((l.take m).filterMap (·.dst)) g f = mask ss g (F m) := by
   funext t
   by_cases ht : t ∈ (l.take m).filterMap (·.dst)
   ·rw [mask_in ht]
    obtain ⟨o, ho, hd⟩ := List.mem_filterMap.1 ht
    obtain ⟨i, hi⟩ := List.getElem?_of_mem ho
    have hiv := hv i o hi
    rw [Nat.zero_add, hd] at hiv
    simp only [Option.getD_some] at hiv
    cases hs : sm.elem i with
    | true =>
     refine (mask_in ?_).symm
     rw [← hss]; unfold slotsM
     refine List.mem_map.2 ⟨i, by simpa using hs, ?_⟩
     unfold dstAt
     rw [(hat i o hi).2, Option.bind_some, hd]; rfl
    | false =>
     simp only [U, hs, Bool.false_eq_true, if_false] at hiv
     have := hiv o hi
     rw [hd] at this
     simp only [Option.getD_some] at this
     rw [this, mask_out, ← hkeep m i o t hi hd (hat i o hi).1 (Nat.le_refl _)]
     rw [← hss]; unfold slotsM
     intro hmem
     obtain ⟨k', hk', hdk'⟩ := List.mem_map.1 hmem
     obtain ⟨ok, hok, hdk⟩ := hsmd k' hk'
     rw [hdk'] at hdk
     have := hdist k' i ok o t hok hi hdk hd
     subst this
     rw [show sm.elem k' = true by simpa using hk'] at hs
     cases hs
   ·rw [mask_out ht, mask_out, hout m t (Nat.le_refl _) ht]
    rw [← hss]; unfold slotsM
    intro hmem
    obtain ⟨k', hk', hdk'⟩ := List.mem_map.1 hmem
    obtain ⟨ok, hok, hdk⟩ := hsmd k' hk'
    rw [hdk'] at hdk
    exact ht (List.mem_filterMap.2 ⟨ok, List.mem_of_getElem? hok, hdk⟩)
  rw [heq]
  refine hFK g w1 hTw.1 fun i hs him => ?_
  obtain ⟨o, ho, hd⟩ := hsmd i (by simpa using hs)
  have := hv i o ho
  rw [Nat.zero_add, hd] at this
  simp only [Option.getD_some, U, hs, if_true] at this
  exact this
end
end Gw
end Go.Proofs.YtjebgcoknpcadaaDoor
end
section
namespace Go.Proofs.YtjebgcoknpcadaaDoor
open Go.RowKit
namespace Gw
section
variable {A : Nat → Prop} {N : Oth} {w0 w w' : World} {L Z : List OA}
end
section
variable {P : Program} {n : Nat} {dm : List Nat} {Q : Post} {f : Fr} {w : World}
end
section
variable {P : Program} {g : FuncId} {args : Array Value} {A : Nat → Prop} {N : Oth} {w : World} {L Z : List OA}
theorem calls_mono {R R' : Value → World → Prop} (h : Calls P g args w fun e w' => ∃ v, e = .returned v ∧ R v w') (hR : ∀ v w', R v w' → R' v w') : Calls P g args w fun e w' => ∃ v, e = .returned v ∧ R' v w' :=
 CallsIn.mono (F := fen none) (n := 0) (callsIn_wide.2 h) (by rintro e w' ⟨v, rfl, hv⟩; exact ⟨v, rfl, hR v w' hv⟩) |> callsIn_wide.1
theorem toSt {v0 : Value} (h : Calls P g args w fun e w' => ∃ v, e = .returned v ∧ (v = v0 ∧ Ext w w')) (S : St A N w w L Z) : Calls P g args w fun e w' => ∃ v, e = .returned v ∧ (v = v0 ∧ St A N w w' L []) :=
 calls_mono h fun _ _ h => ⟨h.1, (S.ext h.2).pickZ (by simp)⟩
end
end Gw
end Go.Proofs.YtjebgcoknpcadaaDoor
end
section
namespace Go.Proofs.YtjebgcoknpcadaaDoor
open Gw Go.RowKit
abbrev Tb := Option (List Nd)
def oT (a : Option Addr) (t : Tb) : OA where
 holds := fun w F => match t with
  | none => (a = none ∧ ∀ i, ¬ F i) ∨ ∃ p, a = some ⟨p, 0, none⟩ ∧ Blk w p T_Tab (Tab.C Tab.z) ∧ ∀ i, F i ↔ i = p
  | some N => ∃ p, a = some ⟨p, 0, none⟩ ∧ TabAt w p N F ∧ N.length ≤ 1024
 loc := fun {S w w' F} h hc hs => by
  cases t with
  | none =>
   rcases h with h | ⟨p, h1, h2, h3⟩
   ·exact .inl h
   ·exact .inr ⟨p, h1, h2.chg hc (hs p ((h3 p).2 rfl)), h3⟩
  | some N => obtain ⟨p, h1, h2, h3⟩ := h; exact ⟨p, h1, h2.keep hc hs, h3⟩
 lt := fun {w F} h i hi => by
  cases t with
  | none =>
   rcases h with h | ⟨p, h1, h2, h3⟩
   ·exact absurd hi (h.2 i)
   ·rw [(h3 i).1 hi]; exact h2.lt
  | some N => obtain ⟨p, h1, h2, h3⟩ := h; exact h2.lt i hi
theorem oT.nil (w : World) : (oT none none).holds w (fun _ => False) := .inl ⟨rfl, fun _ x => x⟩
theorem oT.dead {w : World} {a : Option Addr} {F : Nat → Prop} (h : (oT a none).holds w F) : Dead w a := by
 rcases h with h | ⟨p, h1, h2, _⟩
 ·exact .inl h.1
 ·exact .inr ⟨p, h1, h2⟩
def oR (a : Option Addr) (t : Tb) : OA where
 holds := fun w F => match t with
  | none => a = none ∧ ∀ i, ¬ F i
  | some N => ∃ p s, a = some ⟨p, 0, none⟩ ∧ Blk w p T_RTab (RTab.C ⟨s⟩) ∧ Own w 0 T_Nd 4 s (N.map Nd.C) ∧ N.length ≤ 140737488355328 ∧ ¬ s.fp p ∧ ∀ i, F i ↔ (i = p ∨ s.fp i)
 loc := fun {S w w' F} h hc hs => by
  cases t with
  | none => exact h
  | some N =>
   obtain ⟨p, s, h1, h2, h3, h4, h5, h6⟩ := h
   exact ⟨p, s, h1, h2.chg hc (hs p ((h6 p).2 (.inl rfl))), h3.keep hc (fun i hi => hs i ((h6 i).2 (.inr hi))), h4, h5, h6⟩
 lt := fun {w F} h i hi => by
  cases t with
  | none => exact absurd hi (h.2 i)
  | some N =>
   obtain ⟨p, s, h1, h2, h3, h4, h5, h6⟩ := h
   rcases (h6 i).1 hi with rfl | hi
   ·exact h2.lt
   ·exact h3.lt i hi
theorem oR.nil (w : World) : (oR none none).holds w (fun _ => False) := ⟨rfl, fun _ x => x⟩
section
variable {A : Nat → Prop} {N : Oth} {w0 w w' : World} {L Z : List OA}
theorem Gw.St.openR (h : St A N w0 w L Z) (k : Nat) {a : Option Addr} {t : Tb} {L' : List OA} (ht : t.isSome = true) (e : L[k]? = some (oR a t) := by rfl) (e' : L.eraseIdx k = L' := by rfl) : ∃ p s, a = some ⟨p, 0, none⟩ ∧ St A N w0 w (oB p T_RTab (RTab.C ⟨s⟩) :: oS T_Nd 4 Nd.C s (t.getD []) :: L') Z := by
 subst e'
 obtain ⟨M, rfl⟩ := Option.isSome_iff_exists.1 ht
 obtain ⟨U, hU, hN, hA, hL, hZ, hW⟩ := h
 obtain ⟨F, ⟨p, s, h1, h2, h3, h4, h5, h6⟩, hF, hR⟩ := hL.front k e
 refine ⟨p, s, h1, U, hU, hN, hA, ⟨fun i => i = p, ⟨h2, fun _ => Iff.rfl⟩, fun i hi => hF i ((h6 i).2 (.inl hi)), s.fp, ⟨⟨h3, h4⟩, fun _ => Iff.rfl⟩, fun i hi => ⟨hF i ((h6 i).2 (.inr hi)), fun q => h5 (q ▸ hi)⟩, ?_⟩, hZ, hW⟩
 exact hR.mono fun i hi => ⟨⟨hi.1, fun q => hi.2 ((h6 i).2 (.inl q))⟩, fun q => hi.2 ((h6 i).2 (.inr q))⟩
theorem Gw.St.shutR {p : Nat} {s : SlV} {M : List Nd} (h : St A N w0 w (oB p T_RTab (RTab.C ⟨s⟩) :: oS T_Nd 4 Nd.C s M :: L) Z) {a : Option Addr} (ha : a = some ⟨p, 0, none⟩) : St A N w0 w (oR a (some M) :: L) Z := by
 obtain ⟨U, hU, hN, hA, ⟨F, h1, hF, G, h2, hG, hR⟩, hZ, hW⟩ := h
 refine ⟨U, hU, hN, hA, ⟨fun i => F i ∨ G i, ⟨p, s, ha, h1.1, h2.1.1, h2.1.2, fun q => (hG p ((h2.2 p).2 q)).2 ((h1.2 p).2 rfl), fun i => or_congr (h1.2 i) (h2.2 i)⟩, fun i hi => hi.elim (hF i) (fun q => (hG i q).1), ?_⟩, hZ, hW⟩
 exact hR.mono fun i hi => ⟨hi.1.1, fun q => q.elim hi.1.2 hi.2⟩
theorem Gw.St.seeR (h : St A N w0 w L Z) (k : Nat) {a : Option Addr} {t : Tb} (ht : t.isSome = true) (e : Z[k]? = some (oR a t) := by rfl) : ∃ p s, a = some ⟨p, 0, none⟩ ∧ St A N w0 w L (oB p T_RTab (RTab.C ⟨s⟩) :: fS 4 Nd.C s (t.getD []) :: Z) := by
 obtain ⟨M, rfl⟩ := Option.isSome_iff_exists.1 ht
 obtain ⟨F, p, s, h1, _⟩ := h.frz k e
 have key : ∀ F, (oR a (some M)).holds w F → ∃ p' s', a = some ⟨p', 0, none⟩ ∧ Blk w p' T_RTab (RTab.C ⟨s'⟩) ∧ Own w 0 T_Nd 4 s' (M.map Nd.C) ∧ M.length ≤ 140737488355328 ∧ F p' ∧ ∀ i, s'.fp i → F i := by
  rintro F ⟨p, s, h1, h2, h3, h4, h5, h6⟩
  exact ⟨p, s, h1, h2, h3, h4, (h6 p).2 (.inl rfl), fun i hi => (h6 i).2 (.inr hi)⟩
 obtain ⟨U, hU, hN, hA, hL, hZ, hW⟩ := h
 obtain ⟨F, hF, hFU⟩ := hZ _ (List.mem_of_getElem? e)
 obtain ⟨p', s', e1, e2, e3, e4, e5, e6⟩ := key F hF
 refine ⟨p', s', e1, U, hU, hN, hA, hL, fun z hz => ?_, hW⟩
 rcases List.mem_cons.1 hz with rfl | hz
 ·exact ⟨fun i => i = p', ⟨e2, fun _ => Iff.rfl⟩, fun i hi => by rw [hi]; exact hFU p' e5⟩
 rcases List.mem_cons.1 hz with rfl | hz
 ·exact ⟨s'.fp, ⟨⟨e3.toRd, e4⟩, fun _ => Iff.rfl⟩, fun i hi => hFU i (e6 i hi)⟩
 ·exact hZ z hz
theorem oR.len {a : Option Addr} {t : Tb} {w : World} {F : Nat → Prop} (h : (oR a t).holds w F) : (t.getD []).length ≤ 140737488355328 := by
 cases t with
 | none => simp
 | some M => obtain ⟨p, s, _, _, _, h4, _⟩ := h; exact h4
theorem Gw.St.lenRZ (h : St A N w0 w L Z) (k : Nat) {a : Option Addr} {t : Tb} (e : Z[k]? = some (oR a t) := by rfl) : (t.getD []).length ≤ 140737488355328 := (h.frz k e).elim fun _ h => oR.len h
end
section
variable {A : Nat → Prop} {N : Oth} {w : World}
def formula_Table_Node.f (t : Tb) (i : Int) : Option (Nd × Bool) := t.map fun N => nodeS N i
theorem formula_Table_Node_st {a : Option Addr} {t : Tb} {i : Int} (S : St A N w w [] [oT a t]) {r : Nd × Bool} (H : formula_Table_Node.f t i = some r) : Calls PP F_formula_Table_Node #[.pointer a, .int .i64 i] w fun e w' => ∃ v, e = .returned v ∧ (v = .tuple #[.agg (Nd.C r.1).toArray, .bool r.2] ∧ St A N w w' [] []) := by
 cases t with
 | none => cases H
 | some M =>
  cases H
  obtain ⟨F, p, rfl, T, hN⟩ := S.frz 0 rfl
  exact toSt (formula_Table_Node_ok w i T) S
def formula_Table_Len.f (t : Tb) : Option Int := t.map fun N => (N.length : Int)
theorem formula_Table_Len_st {a : Option Addr} {t : Tb} (S : St A N w w [] [oT a t]) {r : Int} (H : formula_Table_Len.f t = some r) : Calls PP F_formula_Table_Len #[.pointer a] w fun e w' => ∃ v, e = .returned v ∧ (v = .int .i64 r ∧ St A N w w' [] []) := by
 cases t with
 | none => cases H
 | some M =>
  cases H
  obtain ⟨F, p, rfl, T, hN⟩ := S.frz 0 rfl
  exact toSt (formula_Table_Len_ok w T) S
theorem mutT {P : Program} {g : FuncId} {args : Array Value} {p : Nat} {M M' : List Nd} {v0 : Value} (S : St A N w w [oT (some ⟨p, 0, none⟩) (some M)] []) (hM : M'.length ≤ 1024)
  (h : ∀ F, TabAt w p M F → M.length ≤ 1024 → Calls P g args w fun e w' => ∃ v, e = .returned v ∧ (∃ A', v = v0 ∧ TabAt w' p M' A' ∧ Chg F w w' ∧ (∀ i, A' i → F i ∨ w.heap.size ≤ i))) :
  Calls P g args w fun e w' => ∃ v, e = .returned v ∧ (v = v0 ∧ St A N w w' [oT (some ⟨p, 0, none⟩) (some M')] []) := by
 obtain ⟨U, hU, hN, hA, ⟨F, hF, hFU, _⟩, hZ, hW⟩ := S
 obtain ⟨p', hp, T, hl⟩ := hF
 cases hp
 refine calls_mono (h F T hl) ?_
 rintro v w' ⟨A', rfl, T', hc, hg⟩
 refine ⟨rfl, fun i => F i ∨ A' i, fun i hi => ⟨?_, ?_, ?_⟩, fun i hi => Nat.lt_of_lt_of_le (hN i hi) hc.size, hc.mono fun i hi hf => ((hU i (hFU i hf)).1).elim id (fun q => absurd hi (by omega)), ⟨A', ⟨p, rfl, T', hM⟩, fun i hi => .inr hi, trivial⟩, fun z hz => by simp at hz, hW.chg hc (fun i hi => (hU i (hFU i hi)).2.2)⟩
 ·rcases hi with hi | hi
  ·exact (hU i (hFU i hi)).1
  ·exact (hg i hi).elim (fun q => (hU i (hFU i q)).1) .inr
 ·rcases hi with hi | hi
  ·exact Nat.lt_of_lt_of_le (hU i (hFU i hi)).2.1 hc.size
  ·exact T'.lt i hi
 ·rcases hi with hi | hi
  ·exact (hU i (hFU i hi)).2.2
  ·exact (hg i hi).elim (fun q => (hU i (hFU i q)).2.2) (fun q hn => absurd (hN i hn) (by omega))
def formula_Table_Not_neg.f (t : Tb) (_ : Int) : Option (Int × Int) := some (match t with | none => (0, 1) | some _ => (0, 31))
theorem formula_Table_Not_neg_st {a : Option Addr} {t : Tb} {i : Int} (S : St A N w w [] [oT a t]) (hi : i = -1) {r : Int × Int} (H : formula_Table_Not_neg.f t i = some r) : Calls PP F_formula_Table_Not #[.pointer a, .int .i64 i] w fun e w' => ∃ v, e = .returned v ∧ (v = .tuple #[.int .i64 r.1, .int .i64 r.2] ∧ St A N w w' [] []) := by
 subst hi
 cases t with
 | none =>
  cases H
  obtain ⟨F, hF⟩ := S.frz 0 rfl
  exact toSt (formula_Table_Not_dead w _ (oT.dead hF)) S
 | some M =>
  cases H
  obtain ⟨F, p, rfl, T, hN⟩ := S.frz 0 rfl
  exact toSt (formula_Table_Not_neg_ok w T) S
def formula_Table_Put.f (t : Tb) (n : Nd) : Option (Tb × Int × Int) := chk (decide (n.name.size < 9223372036854775808)) (t.map fun N => (some (putS N n).1, (putS N n).2))
theorem formula_Table_Put_st {p : Option Addr} {t : Tb} {n : Nd} (S : St A N w w [oT p t] []) {r : Tb × Int × Int} (H : formula_Table_Put.f t n = some r) : Calls PP F_formula_Table_Put #[.pointer p, .agg (Nd.C n).toArray] w fun e w' => ∃ v, e = .returned v ∧ (v = .tuple #[.int .i64 r.2.1, .int .i64 r.2.2] ∧ St A N w w' [oT p r.1] []) := by
 obtain ⟨hs, H⟩ := chk_ex H
 cases t with
 | none => cases H
 | some M =>
  cases H
  obtain ⟨F, p, rfl, T, hN⟩ := S.own 0 rfl
  exact mutT S (put_len hN) fun F T hl => formula_Table_Put_ok w n T (of_decide_eq_true hs) hl
def formula_Word.f (s : ByteArray) : Option Bool := chk (decide (s.size < 9223372036854775808)) (some (decide (isWord s)))
theorem formula_Word_st {s : ByteArray} (S : St A N w w [] []) {r : Bool} (H : formula_Word.f s = some r) : Calls PP F_formula_Word #[.string s] w fun e w' => ∃ v, e = .returned v ∧ (v = .bool r ∧ St A N w w' [] []) := by
 obtain ⟨hs, H⟩ := chk_ex H
 cases H
 exact toSt (formula_Word_ok w s (of_decide_eq_true hs)) S
def ref03_Word.f (s : ByteArray) : Option Bool := chk (decide (s.size < 9223372036854775808)) (some (decide (isWord s)))
theorem ref03_Word_st {s : ByteArray} (S : St A N w w [] []) {r : Bool} (H : ref03_Word.f s = some r) : Calls PP F_ref03_Word #[.string s] w fun e w' => ∃ v, e = .returned v ∧ (v = .bool r ∧ St A N w w' [] []) := by
 obtain ⟨hs, H⟩ := chk_ex H
 cases H
 exact toSt (ref03_Word_ok w s (of_decide_eq_true hs)) S
end
end Go.Proofs.YtjebgcoknpcadaaDoor
end
section
namespace Go.Proofs.YtjebgcoknpcadaaDoor
open Gw Go.RowKit
section
variable {A : Nat → Prop} {N : Oth} {w0 w w' : World} {L Z : List OA}
theorem Gw.Sep.fam {w : World} : ∀ {L : List OA} {U : Nat → Prop}, Sep w U L → ∃ F : Nat → Nat → Prop, (∀ k a, L[k]? = some a → a.holds w (F k) ∧ ∀ i, F k i → U i) ∧ ∀ j k i, j ≠ k → j < L.length → k < L.length → F j i → ¬ F k i
 | [], _, _ => ⟨fun _ _ => False, by simp, by simp⟩
 | a :: L, U, ⟨G, h, hG, hL⟩ => by
  obtain ⟨F, h1, h2⟩ := Sep.fam hL
  refine ⟨fun k => match k with | 0 => G | k + 1 => F k, fun k b hb => ?_, fun j k i hjk hj hk => ?_⟩
  ·cases k with
   | zero => simp at hb; subst hb; exact ⟨h, hG⟩
   | succ k => have := h1 k b (by simpa using hb); exact ⟨this.1, fun i hi => (this.2 i hi).1⟩
  ·have hin : ∀ k, k < L.length → ∀ i, F k i → ¬ G i := fun k hk i hi => ((h1 k _ (List.getElem?_eq_getElem hk)).2 i hi).2
   cases j with
   | zero =>
    cases k with
    | zero => exact absurd rfl hjk
    | succ k => exact fun hi q => hin k (by simpa using hk) i q hi
   | succ j =>
    cases k with
    | zero => exact fun hi q => hin j (by simpa using hj) i hi q
    | succ k => exact h2 j k i (by omega) (by simpa using hj) (by simpa using hk)
theorem Gw.Sep.of_fam {w : World} {L : List OA} {U : Nat → Prop} {F : Nat → Nat → Prop} (h1 : ∀ k a, L[k]? = some a → a.holds w (F k) ∧ ∀ i, F k i → U i) (h2 : ∀ j k i, j ≠ k → j < L.length → k < L.length → F j i → ¬ F k i) :
  ∀ (ks : List Nat) (V : Nat → Prop), ks.Nodup → (∀ k ∈ ks, k < L.length → ∀ i, F k i → V i) → Sep w V (sel L ks)
 | [], _, _, _ => trivial
 | k :: ks, V, hn, hV => by
  have hn' := List.nodup_cons.1 hn
  cases hk : L[k]? with
  | none =>
   rw [show sel L (k :: ks) = sel L ks by simp [sel, hk]]
   exact Sep.of_fam h1 h2 ks V hn'.2 fun k' hk' => hV k' (by simp [hk'])
  | some a =>
   have hkl := (List.getElem?_eq_some_iff.1 hk).1
   rw [show sel L (k :: ks) = a :: sel L ks by simp [sel, hk]]
   refine ⟨F k, (h1 k a hk).1, hV k (by simp) hkl, Sep.of_fam h1 h2 ks _ hn'.2 fun k' hk' hl i hi => ⟨hV k' (by simp [hk']) hl i hi, ?_⟩⟩
   exact h2 k' k i (fun e => hn'.1 (e ▸ hk')) hl hkl hi
theorem Gw.St.arr (h : St A N w0 w L Z) (ks zs : List Nat) {L' Z' : List OA} (hk : ks.Nodup := by decide) (e : sel L ks = L' := by rfl) (ez : sel Z zs = Z' := by rfl) : St A N w0 w L' Z' := by
 subst e
 refine St.zs ?_ zs ez
 obtain ⟨U, hU, hN, hA, hL, hZ, hW⟩ := h
 obtain ⟨F, h1, h2⟩ := hL.fam
 exact ⟨U, hU, hN, hA, Sep.of_fam h1 h2 ks U hk fun k _ hl i hi => (h1 k _ (List.getElem?_eq_getElem hl)).2 i hi, hZ, hW⟩
theorem Gw.St.calln (h : St A N w0 w L Z) (n : Nat) {Zc : List OA} (hl : Lend (L.drop n) Z Zc) : ∃ B M, St B M w w (L.take n) Zc ∧ ∀ w' P' Z' L', St B M w w' P' Z' → P' ++ L.drop n = L' → St A N w0 w' L' Z :=
 h.call (L.take n) (L.drop n) hl (List.take_append_drop n L).symm
abbrev zipT (M : List Nd) : List (Nd × Int) := M.zipIdx.map fun q => (q.1, (q.2 : Int))
theorem Gw.St.shutT {p m : Nat} {s : SlV} {M : List Nd} (h : St A N w0 w (oB p T_Tab (Tab.C ⟨s, some m⟩) :: oM m ndV (Value.int .i64) (zipT M) :: oS T_Nd 4 Nd.C s M :: L) Z) (hl : M.length ≤ 1024) {a : Option Addr} (ha : a = some ⟨p, 0, none⟩) : St A N w0 w (oT a (some M) :: L) Z := by
 obtain ⟨U, hU, hN, hA, ⟨F, h1, hF, G, h2, hG, K, h3, hK, hR⟩, hZ, hW⟩ := h
 have p1 : F p := (h1.2 p).2 rfl
 have p2 : G m := (h2.2 m).2 rfl
 refine ⟨U, hU, hN, hA, ⟨fun i => i = p ∨ i = m ∨ s.fp i, ⟨p, ha, ⟨s, m, h1.1, h3.1.1, h2.1, fun q => (hG m p2).2 (q ▸ p1), fun q => (hK p ((h3.2 p).2 q)).1.2 p1, fun q => (hK m ((h3.2 m).2 q)).2 p2, fun i => Iff.rfl⟩, hl⟩, ?_, ?_⟩, hZ, hW⟩
 ·rintro i (rfl | rfl | hi)
  ·exact hF _ p1
  ·exact (hG _ p2).1
  ·exact (hK _ ((h3.2 i).2 hi)).1.1
 ·refine hR.mono fun i hi => ⟨hi.1.1.1, ?_⟩
  rintro (rfl | rfl | q)
  ·exact hi.1.1.2 p1
  ·exact hi.1.2 p2
  ·exact hi.2 ((h3.2 i).2 q)
end
section
variable {P : Program} {rd : Option Nat} {n : Nat} {dm : List Nat} {ops : Array Oper} {Q : Post} {f : Fr} {w w' : World} {rest : List Oper} {ty : TypeId} {pos : String} {af : Array Edge} {d : Option Tmp} {gd : Option (Nat × Bool)}
theorem Gw.wd {d : Tmp} {op : Op} {v : Value} (hr : Does P ⟨some d, op, ty, pos, af, none⟩ f w v w') (h : wl P rd n dm ops rest Q (upd f d v) w') (hd : d < n := by decide) : wl P rd n dm ops (⟨some d, op, ty, pos, af, none⟩ :: rest) Q f w := wl_does hr hd h
theorem wl_gon2 {op : Op} {j : Nat} {pol c t : Bool} {oj : Oper} {dj : Tmp} (hj : ops[j]? = some oj) (hdj : oj.dst = some dj) (ht : f dj = gv c (.bool t)) (hdn : dj < n) (hg : (c && (t == pol)) = true)
  (h : wl P rd n dm ops (⟨d, op, ty, pos, af, none⟩ :: rest) Q f w) : wl P rd n dm ops (⟨d, op, ty, pos, af, some (j, pol)⟩ :: rest) Q f w := fun a ha => by
 have h1 := h a ha
 simp only [wpListIn] at h1 ⊢
 rw [wanted_gv ha rfl hj hdj ht hdn, hg]
 exact h1
theorem wl_gon {op : Op} {j : Nat} {pol t : Bool} {oj : Oper} {dj : Tmp} (hj : ops[j]? = some oj) (hdj : oj.dst = some dj) (ht : f dj = .bool t) (hdn : dj < n) (hg : (t == pol) = true)
  (h : wl P rd n dm ops (⟨d, op, ty, pos, af, none⟩ :: rest) Q f w) : wl P rd n dm ops (⟨d, op, ty, pos, af, some (j, pol)⟩ :: rest) Q f w :=
 wl_gon2 (c := true) hj hdj (by rw [ht]; exact gv_t _) hdn hg h
theorem run_eqGuard_sl (op : BinOp) (t : TypeId) (x y : Operand) (a b : Option Addr) (i j k l : Nat) : (eqGuard op t x y (.slice a i j) (.slice b k l)).run P w = .ok () w := by
 unfold eqGuard
 split <;> rfl
theorem does_isnil {t u e k : TypeId} {x y : Operand} {s : SlV} (ht : SliceT P t e k) (hx : evF f x = s.v) (hy : evF f y = .slice none 0 0) : Does P ⟨d, .binOp .eql t x y u, ty, pos, af, gd⟩ f w (.bool s.p.isNone) w := by
 rw [SlV.eq] at hx
 simp only [Does, execOp, hx, hy, Sem.run_bind, run_eqGuard_sl, Result.andThen_ok, Lib.run_eql_slice_nil w t e s.p s.n s.c 0 0 ht.1, Sem.run_pure]
theorem does_makeMap {t : TypeId} : Does P ⟨d, .makeMap t none, ty, pos, af, gd⟩ f w (.map (some w.heap.size)) (w.alloc (.map #[] 0)) := by
 simp [Does, execOp, run_makeMap]
end
section
variable {A : Nat → Prop} {N : Oth} {w : World}
def slices_Clone_api_Node_api_Node.f (l : List Nd) : Option (List Nd) := chk (decide (l.length ≤ 1000000000)) (some l)
theorem slices_Clone_api_Node_api_Node_st {l : List Nd} {s : SlV} (S : St A N w w [] [fS 4 Nd.C s l]) {r : List Nd} (H : slices_Clone_api_Node_api_Node.f l = some r) : Calls PP F_slices_Clone_api_Node_api_Node #[s.v] w fun e w' => ∃ v, e = .returned v ∧ ∃ s' : SlV, (v = s'.v ∧ St A N w w' [oS T_Nd 4 Nd.C s' r] []) := by
 obtain ⟨hl, H⟩ := chk_ex H
 obtain rfl := Option.some.inj H
 replace hl := of_decide_eq_true hl
 refine calls_of_wc (n := 8) fn_slices_Clone_api_Node_api_Node rfl rfl (by simp) ?_
 repeat (first | refine wc_seq ?_ | refine wc_region ?_ | refine wc_block ?_)
 repeat (first | refine wl_does (does_as_i rfl) (by decide) ?_ | refine wl_does (does_mv_i rfl) (by decide) ?_ | refine wl_does (does_mv_p rfl) (by decide) ?_ | refine wl_does (does_mv_l rfl) (by decide) ?_ | refine wl_does (does_as_b rfl) (by decide) ?_ | refine wl_does (does_as_nil) (by decide) ?_)
 refine wl_nil ?_
 repeat (first | refine wc_seq ?_ | refine wc_region ?_ | refine wc_block ?_)
 repeat (first | refine wl_does (does_as_i rfl) (by decide) ?_ | refine wl_does (does_mv_i rfl) (by decide) ?_ | refine wl_does (does_mv_p rfl) (by decide) ?_ | refine wl_does (does_mv_l rfl) (by decide) ?_ | refine wl_does (does_as_b rfl) (by decide) ?_ | refine wl_does (does_as_nil) (by decide) ?_)
 refine wl_does (does_isnil sl_L_api_Node rfl rfl) (by decide) ?_
 refine wl_nil ?_
 refine wc_if rfl (fun hc => ?_) (fun hc => ?_)
 ·repeat (first | refine wc_seq ?_ | refine wc_region ?_ | refine wc_block ?_)
  repeat (first | refine wl_does (does_as_i rfl) (by decide) ?_ | refine wl_does (does_mv_i rfl) (by decide) ?_ | refine wl_does (does_mv_p rfl) (by decide) ?_ | refine wl_does (does_mv_l rfl) (by decide) ?_ | refine wl_does (does_as_b rfl) (by decide) ?_ | refine wl_does (does_as_nil) (by decide) ?_)
  refine wl_nil ?_
  refine wc_ret ?_
  refine ⟨_, (rets1 (retOne_tmp rfl)), SlV.nil, rfl, ?_⟩
  have hr := (S.rd 0).sl
  obtain rfl : l = [] := by
   cases l with
   | nil => rfl
   | cons a l =>
    have := (hr.cells 0 (Nd.C a) rfl).1
    rw [this] at hc; cases hc
  exact (S.zs (Z' := []) []).nil T_Nd 4 Nd.C
 ·refine wc_skip ?_
  repeat (first | refine wc_seq ?_ | refine wc_region ?_ | refine wc_block ?_)
  refine wl_lits (C := Nd.C) (l := []) (vs := []) sl_L_api_Node el_Nd.zero rfl rfl (by simp) (by decide) rfl (by decide) fun b w1 s1 hB h1 => ?_
  replace S : St A N w w1 [oS T_Nd 4 Nd.C s1 []] [fS 4 Nd.C s l] := S.lit hB h1 (by simp)
  repeat (first | refine wl_does (does_as_i rfl) (by decide) ?_ | refine wl_does (does_mv_i rfl) (by decide) ?_ | refine wl_does (does_mv_p rfl) (by decide) ?_ | refine wl_does (does_mv_l rfl) (by decide) ?_ | refine wl_does (does_as_b rfl) (by decide) ?_ | refine wl_does (does_as_nil) (by decide) ?_)
  refine wl_appendm (C := Nd.C) sl_L_api_Node el_Nd rfl rfl (S.sl 0) (S.rd 0) Nd.one (by simp; omega) (by simp; omega) (by decide) fun s2 w2 O h2 g2 => ?_
  replace S : St A N w w2 [oS T_Nd 4 Nd.C s2 l] [fS 4 Nd.C s l] := S.push 0 (l' := [] ++ l) O (by simp; omega) h2 g2
  refine wl_does (does_as_l rfl) (by decide) ?_
  refine wl_nil ?_
  refine wc_ret ?_
  exact ⟨_, (rets1 (retOne_tmp rfl)), s2, rfl, S.zs (Z' := []) []⟩
def formula_New.f : Option Tb := some (some [])
theorem formula_New_st (S : St A N w w [] []) {r : Tb} (H : formula_New.f = some r) : Calls PP F_formula_New #[] w fun e w' => ∃ v, e = .returned v ∧ ∃ a : Option Addr, (v = .pointer a ∧ St A N w w' [oT a r] []) := by
 obtain rfl := Option.some.inj H
 refine calls_of_wc (n := 4) fn_formula_New rfl rfl (by simp) ?_
 repeat (first | refine wc_seq ?_ | refine wc_region ?_ | refine wc_block ?_)
 refine wl_does (does_as_p rfl) (by decide) ?_
 refine wl_nil ?_
 repeat (first | refine wc_seq ?_ | refine wc_region ?_ | refine wc_block ?_)
 refine wl_does does_makeMap (by decide) ?_
 replace S := S.nil T_Nd 4 Nd.C
 replace S : St A N w (w.alloc (.map #[] 0)) [oM w.heap.size ndV (Value.int .i64) (zipT []), oS T_Nd 4 Nd.C SlV.nil []] [] :=
  S.add (b := oM w.heap.size ndV (Value.int .i64) (zipT [])) (G := (· = w.heap.size)) (Ext.alloc _ _) ⟨⟨#[], 0, heap_alloc_new w _, rfl⟩, fun _ => Iff.rfl⟩ (fun i hi => by rw [hi]; exact Nat.le_refl _)
 refine wl_does (does_build bu_Tab (Bld.one rfl rfl (by rw [Tab.len]; decide) (Tab.set_at_ _ _) Bld.nil)) (by decide) ?_
 refine wl_box_agg rfl (by decide) fun b w2 hw2 => ?_
 replace S := S.new hw2
 refine wl_does (does_as_p rfl) (by decide) ?_
 refine wl_nil ?_
 refine wc_ret ?_
 exact ⟨_, (rets1 (retOne_tmp rfl)), _, rfl, S.shutT (by simp) rfl⟩
end
section
variable {A : Nat → Prop} {N : Oth} {w0 w w' : World} {L Z : List OA}
theorem Gw.St.seeT (h : St A N w0 w L Z) (k : Nat) {a : Option Addr} {M : List Nd} (e : Z[k]? = some (oT a (some M)) := by rfl) : ∃ p s m, a = some ⟨p, 0, none⟩ ∧ M.length ≤ 1024 ∧ St A N w0 w L (oB p T_Tab (Tab.C ⟨s, some m⟩) :: fS 4 Nd.C s M :: Z) := by
 have key : ∀ F, (oT a (some M)).holds w F → ∃ p s m, a = some ⟨p, 0, none⟩ ∧ Blk w p T_Tab (Tab.C ⟨s, some m⟩) ∧ Own w 0 T_Nd 4 s (M.map Nd.C) ∧ M.length ≤ 1024 ∧ F p ∧ ∀ i, s.fp i → F i := by
  rintro F ⟨p, h1, ⟨s, m, b, o, mm, h2, h3, h4, hF⟩, hl⟩
  exact ⟨p, s, m, h1, b, o, hl, (hF p).2 (.inl rfl), fun i hi => (hF i).2 (.inr (.inr hi))⟩
 obtain ⟨U, hU, hN, hA, hL, hZ, hW⟩ := h
 obtain ⟨F, hF, hFU⟩ := hZ _ (List.mem_of_getElem? e)
 obtain ⟨p, s, m, e1, e2, e3, e4, e5, e6⟩ := key F hF
 refine ⟨p, s, m, e1, e4, U, hU, hN, hA, hL, fun z hz => ?_, hW⟩
 rcases List.mem_cons.1 hz with rfl | hz
 ·exact ⟨fun i => i = p, ⟨e2, fun _ => Iff.rfl⟩, fun i hi => by rw [hi]; exact hFU p e5⟩
 rcases List.mem_cons.1 hz with rfl | hz
 ·exact ⟨s.fp, ⟨⟨e3.toRd, by omega⟩, fun _ => Iff.rfl⟩, fun i hi => hFU i (e6 i hi)⟩
 ·exact hZ z hz
end
section
variable {A : Nat → Prop} {N : Oth} {w : World}
def formula_Table_Rows.f (t : Tb) : Option (List Nd) := some (t.getD [])
theorem formula_Table_Rows_st {a : Option Addr} {t : Tb} (S : St A N w w [] [oT a t]) {r : List Nd} (H : formula_Table_Rows.f t = some r) : Calls PP F_formula_Table_Rows #[.pointer a] w fun e w' => ∃ v, e = .returned v ∧ ∃ s' : SlV, (v = s'.v ∧ St A N w w' [oS T_Nd 4 Nd.C s' r] []) := by
 obtain rfl := Option.some.inj H
 refine calls_of_wc (n := 11) fn_formula_Table_Rows rfl rfl (by simp) ?_
 repeat (first | refine wc_seq ?_ | refine wc_region ?_ | refine wc_block ?_)
 refine wl_does (does_as_nil) (by decide) ?_
 refine wl_nil ?_
 repeat (first | refine wc_seq ?_ | refine wc_region ?_ | refine wc_block ?_)
 refine wl_does (does_mv_p rfl) (by decide) ?_
 cases t with
 | none =>
  obtain ⟨F, hF⟩ := S.frz 0 rfl
  refine wl_call (does_call ca_formula_Table_alive) (by decide) (formula_Table_alive_dead _ (oT.dead hF)) ?_
  rintro _ w1 ⟨rfl, h1⟩
  replace S := S.ext h1
  refine wl_does (does_not rfl) (by decide) ?_
  refine wl_nil ?_
  refine wc_true rfl ?_
  repeat (first | refine wc_seq ?_ | refine wc_region ?_ | refine wc_block ?_)
  repeat (first | refine wl_does (does_as_i rfl) (by decide) ?_ | refine wl_does (does_mv_i rfl) (by decide) ?_ | refine wl_does (does_mv_p rfl) (by decide) ?_ | refine wl_does (does_mv_l rfl) (by decide) ?_ | refine wl_does (does_as_b rfl) (by decide) ?_ | refine wl_does (does_as_nil) (by decide) ?_)
  refine wl_nil ?_
  refine wc_ret ?_
  exact ⟨_, (rets1 (retOne_tmp rfl)), SlV.nil, rfl, (S.zs (Z' := []) []).nil T_Nd 4 Nd.C⟩
 | some M =>
  obtain ⟨F, p, rfl, T, hN⟩ := S.frz 0 rfl
  refine wl_call (does_call ca_formula_Table_alive) (by decide) (formula_Table_alive_ok _ T) ?_
  rintro _ w1 ⟨rfl, h1⟩
  replace S := S.ext h1
  refine wl_does (does_not rfl) (by decide) ?_
  refine wl_nil ?_
  refine wc_false rfl ?_
  refine wc_skip ?_
  repeat (first | refine wc_seq ?_ | refine wc_region ?_ | refine wc_block ?_)
  obtain ⟨p', s, m, hp, _, S⟩ := S.seeT 0
  cases hp
  refine wl_does (does_mv_p rfl) (by decide) ?_
  refine wl_does (does_nilCheck rfl) (by decide) ?_
  refine wl_does (does_fieldAddr fl_Tab_rows rfl (o' := 0) rfl) (by decide) ?_
  refine wl_does (does_load on_L_api_Node rfl ((S.blkZ 0).cell (Tab.get_rows _))) (by decide) ?_
  obtain ⟨B, MB, SB, back⟩ := S.call [] [] ((.z 1 rfl .nil))
  refine wl_call (does_call ca_slices_Clone_api_Node_api_Node) (by decide) (slices_Clone_api_Node_api_Node_st (r := M) SB (by unfold slices_Clone_api_Node_api_Node.f chk; rw [if_pos (by simpa using (by omega : M.length ≤ 1000000000))])) ?_
  rintro _ w2 ⟨s2, rfl, S2⟩
  replace S := back _ _ _ _ S2 rfl
  refine wl_does (does_as_l rfl) (by decide) ?_
  refine wl_nil ?_
  refine wc_ret ?_
  exact ⟨_, (rets1 (retOne_tmp rfl)), s2, rfl, S.zs (Z' := []) []⟩
end
section
variable {A : Nat → Prop} {N : Oth} {w0 w : World} {L Z : List OA}
theorem Gw.St.newS {M : Oth} {e k : Nat} {α : Type} {C : α → List Value} {s : SlV} {l : List α} (h : St (fun _ => False) M w0 w (oS e k C s l :: L) Z) : (Rd w k s (l.map C) ∧ l.length ≤ 140737488355328) ∧ ∀ i, s.fp i → w0.heap.size ≤ i := by
 obtain ⟨U, hU, _, _, ⟨F, h1, hF, _⟩, _⟩ := h
 exact ⟨⟨h1.1.1.toRd, h1.1.2⟩, fun i hi => (hU i (hF i ((h1.2 i).2 hi))).1.elim (fun x => x.elim) id⟩
end
end Go.Proofs.YtjebgcoknpcadaaDoor
end
section
namespace Go.Proofs.YtjebgcoknpcadaaDoor
open Go.RowKit
namespace Gw
def OA.star (a b : OA) : OA where
 holds := fun w F => ∃ G H, a.holds w G ∧ b.holds w H ∧ (∀ i, G i → ¬ H i) ∧ ∀ i, F i ↔ (G i ∨ H i)
 loc := fun ⟨G, H, g, h, d, e⟩ hc hs => ⟨G, H, a.loc g hc (fun i hi => hs i ((e i).2 (.inl hi))), b.loc h hc (fun i hi => hs i ((e i).2 (.inr hi))), d, e⟩
 lt := fun ⟨G, H, g, h, d, e⟩ i hi => ((e i).1 hi).elim (a.lt g i) (b.lt h i)
def OA.ex {α : Type} (f : α → OA) : OA where
 holds := fun w F => ∃ x, (f x).holds w F
 loc := fun ⟨x, h⟩ hc hs => ⟨x, (f x).loc h hc hs⟩
 lt := fun ⟨x, h⟩ => (f x).lt h
def OA.pure (p : Prop) : OA where
 holds := fun _ F => p ∧ ∀ i, ¬ F i
 loc := fun h _ _ => h
 lt := fun h i hi => (h.2 i hi).elim
section
variable {A : Nat → Prop} {N : Oth} {w0 w w' : World} {L Z : List OA}
theorem St.sep (h : St A N w0 w L Z) {L' : List OA} (hs : ∀ U, Sep w U L → Sep w U L') : St A N w0 w L' Z := by
 obtain ⟨U, hU, hN, hA, hL, hZ, hW⟩ := h
 exact ⟨U, hU, hN, hA, hs U hL, hZ, hW⟩
theorem St.unstar (h : St A N w0 w L Z) (k : Nat) {a b : OA} {L' : List OA} (e : L[k]? = some (a.star b) := by rfl) (e' : a :: b :: L.eraseIdx k = L' := by rfl) : St A N w0 w L' Z := by
 subst e'
 refine h.sep fun U hL => ?_
 obtain ⟨F, ⟨G, H, g, h, d, q⟩, hF, hR⟩ := hL.front k e
 refine ⟨G, g, fun i hi => hF i ((q i).2 (.inl hi)), H, h, fun i hi => ⟨hF i ((q i).2 (.inr hi)), fun hg => d i hg hi⟩, hR.mono fun i hi => ⟨⟨hi.1, fun hg => hi.2 ((q i).2 (.inl hg))⟩, fun hh => hi.2 ((q i).2 (.inr hh))⟩⟩
theorem St.star {a b : OA} (h : St A N w0 w (a :: b :: L) Z) : St A N w0 w (a.star b :: L) Z := by
 refine h.sep fun U hL => ?_
 obtain ⟨G, g, hG, H, h, hH, hR⟩ := hL
 exact ⟨fun i => G i ∨ H i, ⟨G, H, g, h, fun i hg hh => (hH i hh).2 hg, fun _ => Iff.rfl⟩, fun i hi => hi.elim (hG i) (fun q => (hH i q).1), hR.mono fun i hi => ⟨hi.1.1, fun q => q.elim hi.1.2 hi.2⟩⟩
theorem St.unex (h : St A N w0 w L Z) (k : Nat) {α : Type} {f : α → OA} (e : L[k]? = some (OA.ex f) := by rfl) : ∃ x, St A N w0 w (f x :: L.eraseIdx k) Z := by
 obtain ⟨U, hU, hN, hA, hL, hZ, hW⟩ := h
 obtain ⟨F, ⟨x, g⟩, hF, hR⟩ := hL.front k e
 exact ⟨x, U, hU, hN, hA, ⟨F, g, hF, hR⟩, hZ, hW⟩
theorem St.toex {α : Type} {f : α → OA} (x : α) (h : St A N w0 w (f x :: L) Z) : St A N w0 w (OA.ex f :: L) Z := by
 refine h.sep fun U hL => ?_
 obtain ⟨F, g, hF, hR⟩ := hL
 exact ⟨F, ⟨x, g⟩, hF, hR⟩
theorem St.getp (h : St A N w0 w L Z) (k : Nat) {p : Prop} (e : L[k]? = some (OA.pure p) := by rfl) : p := (h.own k e).elim fun _ h => h.1
theorem St.putp (h : St A N w0 w L Z) {p : Prop} (hp : p) : St A N w0 w (OA.pure p :: L) Z :=
 h.add (b := OA.pure p) (G := fun _ => False) (Ext.refl w) ⟨hp, fun _ x => x⟩ (fun _ x => x.elim)
theorem St.unstarZ (h : St A N w0 w L Z) (k : Nat) {a b : OA} (e : Z[k]? = some (a.star b) := by rfl) : St A N w0 w L (a :: b :: Z) := by
 have h1 := h.part k (a := a.star b) (b := b) (fun F ⟨G, H, g, h, d, q⟩ => ⟨H, h, fun i hi => (q i).2 (.inr hi)⟩) e
 exact h1.part (k + 1) (a := a.star b) (b := a) (fun F ⟨G, H, g, h, d, q⟩ => ⟨G, g, fun i hi => (q i).2 (.inl hi)⟩) (by simpa using e)
theorem St.unexZ (h : St A N w0 w L Z) (k : Nat) {α : Type} {f : α → OA} (e : Z[k]? = some (OA.ex f) := by rfl) : ∃ x, St A N w0 w L (f x :: Z) := by
 obtain ⟨U, hU, hN, hA, hL, hZ, hW⟩ := h
 obtain ⟨F, ⟨x, g⟩, hF⟩ := hZ _ (List.mem_of_getElem? e)
 refine ⟨x, U, hU, hN, hA, hL, fun z hz => ?_, hW⟩
 rcases List.mem_cons.1 hz with rfl | hz
 ·exact ⟨F, g, hF⟩
 ·exact hZ z hz
theorem St.getpZ (h : St A N w0 w L Z) (k : Nat) {p : Prop} (e : Z[k]? = some (OA.pure p) := by rfl) : p := (h.frz k e).elim fun _ h => h.1
theorem St.frzO (h : St A N w0 w L Z) (k : Nat) {a : OA} {L' : List OA} (q : L[k]? = some a := by rfl) (q' : L.eraseIdx k = L' := by rfl) : St A N w0 w L' (a :: Z) := h.freeze k (a := a) (fun _ h => h) q q'
end
section
variable {A : Nat → Prop} {N : Oth} {w0 w w' : World} {L Z : List OA} {e k : Nat} {μ α : Type} {C : μ → List Value} {R : μ → α → OA} {s : SlV} {l : List α}
def OA.on (a : OA) (w : World) : Prop := ∃ F, a.holds w F
theorem St.onO (h : St A N w0 w L Z) (k : Nat) {a : OA} (e : L[k]? = some a := by rfl) : a.on w := h.own k e
theorem St.onZ (h : St A N w0 w L Z) (k : Nat) {a : OA} (e : Z[k]? = some a := by rfl) : a.on w := h.frz k e
end
section
variable {P : Program} {f : Fr} {w w' : World} {d : Option Tmp} {ty : TypeId} {pos : String} {af : Array Edge} {gd : Option (Nat × Bool)}
theorem Does.to {o : Oper} {v v' : Value} (h : Does P o f w v w') (e : v = v') : Does P o f w v' w' := e ▸ h
end
section
variable {A : Nat → Prop} {N : Oth} {w0 w w' : World} {L Z : List OA}
end
end Gw
end Go.Proofs.YtjebgcoknpcadaaDoor
end
section
namespace Go.Proofs.YtjebgcoknpcadaaDoor
open Go.RowKit
namespace Gw
def OA.and (a b : OA) : OA where
 holds := fun w F => ∃ G H, a.holds w G ∧ b.holds w H ∧ ∀ i, F i ↔ (G i ∨ H i)
 loc := fun ⟨G, H, g, h, e⟩ hc hs => ⟨G, H, a.loc g hc (fun i hi => hs i ((e i).2 (.inl hi))), b.loc h hc (fun i hi => hs i ((e i).2 (.inr hi))), e⟩
 lt := fun ⟨G, H, g, h, e⟩ i hi => ((e i).1 hi).elim (a.lt g i) (b.lt h i)
def bigA {μ α : Type} (R : μ → α → OA) : List μ → List α → OA
 | [], [] => OA.pure True
 | m :: ms, x :: xs => (R m x).and (bigA R ms xs)
 | _, _ => OA.pure False
theorem bigA_len {w : World} {μ α : Type} {R : μ → α → OA} : ∀ {ms : List μ} {l : List α} {F : Nat → Prop}, (bigA R ms l).holds w F → ms.length = l.length
 | [], [], _, _ => rfl
 | m :: ms, x :: xs, F, ⟨_, _, _, h, _⟩ => by simp [bigA_len h]
 | [], _ :: _, _, h => h.1.elim
 | _ :: _, [], _, h => h.1.elim
theorem bigA_at {w : World} {μ α : Type} {R : μ → α → OA} : ∀ {ms : List μ} {l : List α} {F : Nat → Prop} {i : Nat} {m : μ} {x : α}, (bigA R ms l).holds w F → ms[i]? = some m → l[i]? = some x → ∃ G, (R m x).holds w G ∧ ∀ j, G j → F j
 | [], [], _, _, _, _, _, h, _ => by simp at h
 | m :: ms, x :: xs, F, i, m', x', ⟨G, H, g, h, e⟩, hm, hx => by
  cases i with
  | zero => simp at hm hx; subst hm hx; exact ⟨G, g, fun j hj => (e j).2 (.inl hj)⟩
  | succ i =>
   obtain ⟨K, k, hK⟩ := bigA_at h (by simpa using hm) (by simpa using hx)
   exact ⟨K, k, fun j hj => (e j).2 (.inr (hK j hj))⟩
 | [], _ :: _, _, _, _, _, h, _, _ => h.1.elim
 | _ :: _, [], _, _, _, _, h, _, _ => h.1.elim
section
variable {A : Nat → Prop} {N : Oth} {w0 w w' : World} {L Z : List OA}
theorem St.andZ (h : St A N w0 w L Z) (j k : Nat) {a b : OA} (e : Z[j]? = some a := by rfl) (e' : Z[k]? = some b := by rfl) : St A N w0 w L (a.and b :: Z) := by
 obtain ⟨U, hU, hN, hA, hL, hZ, hW⟩ := h
 refine ⟨U, hU, hN, hA, hL, fun z hz => ?_, hW⟩
 rcases List.mem_cons.1 hz with rfl | hz
 ·obtain ⟨F, g, hF⟩ := hZ _ (List.mem_of_getElem? e)
  obtain ⟨G, g', hG⟩ := hZ _ (List.mem_of_getElem? e')
  exact ⟨fun i => F i ∨ G i, ⟨F, G, g, g', fun _ => Iff.rfl⟩, fun i hi => hi.elim (hF i) (hG i)⟩
 ·exact hZ z hz
theorem St.unandZ (h : St A N w0 w L Z) (k : Nat) {a b : OA} (e : Z[k]? = some (a.and b) := by rfl) : St A N w0 w L (a :: b :: Z) := by
 have h1 := h.part k (a := a.and b) (b := b) (fun F ⟨G, H, g, h, q⟩ => ⟨H, h, fun i hi => (q i).2 (.inr hi)⟩) e
 exact h1.part (k + 1) (a := a.and b) (b := a) (fun F ⟨G, H, g, h, q⟩ => ⟨G, g, fun i hi => (q i).2 (.inl hi)⟩) (by simpa using e)
theorem St.toexZ {α : Type} {f : α → OA} (x : α) (h : St A N w0 w L (f x :: Z)) : St A N w0 w L (OA.ex f :: Z) := by
 obtain ⟨U, hU, hN, hA, hL, hZ, hW⟩ := h
 refine ⟨U, hU, hN, hA, hL, fun z hz => ?_, hW⟩
 rcases List.mem_cons.1 hz with rfl | hz
 ·obtain ⟨F, g, hF⟩ := hZ _ (List.mem_cons_self ..)
  exact ⟨F, ⟨x, g⟩, hF⟩
 ·exact hZ z (List.mem_cons_of_mem _ hz)
end
section
variable {P : Program} {f : Fr} {w : World}
theorem rets4 {r1 r2 r3 r4 : ResultVar} {v1 v2 v3 v4 : Value} (h1 : RetOne P r1 f w v1) (h2 : RetOne P r2 f w v2) (h3 : RetOne P r3 f w v3) (h4 : RetOne P r4 f w v4) : Rets P #[r1, r2, r3, r4] f w (.tuple #[v1, v2, v3, v4]) := by
 unfold Rets
 unfold RetOne at h1 h2 h3 h4
 simp only [Array.mapM_eq_mapM_toList, List.mapM_cons, List.mapM_nil]
 simp [h1, h2, h3, h4]
end
end Gw
end Go.Proofs.YtjebgcoknpcadaaDoor
end
section
namespace Go.Proofs.YtjebgcoknpcadaaDoor
open Gw Go.RowKit
inductive PTerm where
 | mk (kind : Int) (name other : ByteArray) (form : Int) (sub : List PTerm)
namespace PTerm
def kind : PTerm → Int | mk k _ _ _ _ => k
def name : PTerm → ByteArray | mk _ n _ _ _ => n
def other : PTerm → ByteArray | mk _ _ o _ _ => o
def form : PTerm → Int | mk _ _ _ f _ => f
def sub : PTerm → List PTerm | mk _ _ _ _ s => s
def z : PTerm := mk 0 ByteArray.empty ByteArray.empty 0 []
end PTerm
abbrev mT (x : PTerm) (s : SlV) : Term := ⟨x.kind, x.name, x.other, x.form, s⟩
def fT (s : SlV) (ms : List Term) : OA where
 holds := fun w F => (Sl w 5 s (ms.map Term.C) ∧ ms.length ≤ 140737488355328) ∧ ∀ i, F i ↔ (ms ≠ [] ∧ i = s.blk)
 loc := fun h hc hs => ⟨⟨h.1.1.chg hc (fun hr => hs _ ((h.2 _).2 ⟨fun e => hr (by rw [e]; rfl), rfl⟩)), h.1.2⟩, h.2⟩
 lt := fun {w F} h i hi => by
  obtain ⟨hne, rfl⟩ := (h.2 i).1 hi
  obtain ⟨m, ms, rfl⟩ := List.exists_cons_of_ne_nil hne
  have h1 := (h.1.1.cells 0 (Term.C m) (by simp)).2 0 (.int .i64 m.kind) rfl
  rcases Nat.lt_or_ge s.blk w.heap.size with q | q
  ·exact q
  ·simp [World.cell?, Array.getElem?_eq_none q] at h1
theorem fT.sl {w : World} {s : SlV} {ms : List Term} (h : (fT s ms).on w) : Sl w 5 s (ms.map Term.C) := h.elim fun _ h => h.1.1
theorem fT.at {w : World} {s : SlV} {ms : List Term} (h : (fT s ms).on w) {i : Nat} {m : Term} (hm : ms[i]? = some m) : Cells w s.blk (s.off + i * 5) (Term.C m) := ((fT.sl h).cells i _ (by simp [hm])).2
theorem fT.len {w : World} {s : SlV} {ms : List Term} (h : (fT s ms).on w) : ms.length ≤ 140737488355328 := h.elim fun _ h => h.1.2
theorem fT.of {w : World} {s : SlV} {ms : List Term} {F : Nat → Prop} (h : (fS 5 Term.C s ms).holds w F) : ∃ G, (fT s ms).holds w G ∧ ∀ i, G i → F i :=
 ⟨fun i => ms ≠ [] ∧ i = s.blk, ⟨⟨h.1.1.sl, h.1.2⟩, fun _ => Iff.rfl⟩, fun i hi => (h.2 i).2 ⟨(fun e => by
  obtain ⟨m, ms, rfl⟩ := List.exists_cons_of_ne_nil hi.1
  have h2 := (h.1.1.sl.cells 0 (Term.C m) (by simp)).1
  rw [e] at h2; exact absurd h2 (by simp)), hi.2⟩⟩
def fTm : Nat → Term → PTerm → OA
 | 0, _, _ => OA.pure False
 | d + 1, m, x => (OA.pure (m.kind = x.kind ∧ m.name = x.name ∧ m.other = x.other ∧ m.form = x.form)).and (OA.ex fun (ms : List Term) => (fT m.sub ms).and (bigA (fTm d) ms x.sub))
def fTerms (s : SlV) (l : List PTerm) : OA := OA.ex fun (q : Nat × List Term) => (fT s q.2).and (bigA (fTm q.1) q.2 l)
abbrev oDTerm (s : SlV) (l : List PTerm) : OA := fTerms s l
def fTerm (m : Term) (x : PTerm) : OA := OA.ex fun (d : Nat) => fTm d m x
theorem fTm_eqs {w : World} {F : Nat → Prop} : ∀ {d : Nat} {m : Term} {x : PTerm}, (fTm d m x).holds w F → m.kind = x.kind ∧ m.name = x.name ∧ m.other = x.other ∧ m.form = x.form
 | _ + 1, _, _, ⟨_, _, g, _⟩ => g.1
 | 0, _, _, h => h.1.elim
theorem fTm_sub {w : World} {F : Nat → Prop} : ∀ {d : Nat} {m : Term} {x : PTerm}, (fTm d m x).holds w F → ∃ G, (fTerms m.sub x.sub).holds w G ∧ ∀ i, G i → F i
 | d + 1, _, _, ⟨_, H, _, ⟨ms, h⟩, e⟩ => ⟨H, ⟨(d, ms), h⟩, fun i hi => (e i).2 (.inr hi)⟩
 | 0, _, _, h => h.1.elim
theorem bigA_mono {w : World} {μ α : Type} {R R' : μ → α → OA} (hR : ∀ m x F, (R m x).holds w F → (R' m x).holds w F) : ∀ {ms : List μ} {l : List α} {F : Nat → Prop}, (bigA R ms l).holds w F → (bigA R' ms l).holds w F
 | [], [], _, h => h
 | m :: ms, x :: xs, F, ⟨G, H, g, h, e⟩ => ⟨G, H, hR _ _ _ g, bigA_mono hR h, e⟩
 | [], _ :: _, _, h => h.1.elim
 | _ :: _, [], _, h => h.1.elim
theorem fTm_mono {w : World} : ∀ {d d' : Nat} {m : Term} {x : PTerm} {F : Nat → Prop}, d ≤ d' → (fTm d m x).holds w F → (fTm d' m x).holds w F
 | 0, _, _, _, _, _, h => h.1.elim
 | d + 1, 0, _, _, _, hd, _ => by omega
 | d + 1, d' + 1, _, _, _, hd, ⟨G, H, g, ⟨ms, G2, H2, g2, h2, e2⟩, e⟩ => ⟨G, H, g, ⟨ms, G2, H2, g2, bigA_mono (fun _ _ _ q => fTm_mono (by omega) q) h2, e2⟩, e⟩
theorem fTerm_mk {w : World} {F : Nat → Prop} {x : PTerm} {s : SlV} : (fTerms s x.sub).holds w F → (fTerm (mT x s) x).holds w F
 | ⟨(d, ms), h⟩ => ⟨d + 1, fun _ => False, F, ⟨⟨rfl, rfl, rfl, rfl⟩, fun _ q => q⟩, ⟨ms, h⟩, fun _ => ⟨.inr, fun q => q.elim (fun q => q.elim) id⟩⟩
theorem big_depth {w : World} : ∀ {ms : List Term} {l : List PTerm} {F : Nat → Prop}, (bigA fTerm ms l).holds w F → ∃ d, (bigA (fTm d) ms l).holds w F
 | [], [], _, h => ⟨0, h⟩
 | m :: ms, x :: xs, F, ⟨G, H, ⟨d, g⟩, h, e⟩ => by
  obtain ⟨d', h'⟩ := big_depth h
  exact ⟨max d d', G, H, fTm_mono (Nat.le_max_left ..) g, bigA_mono (fun _ _ _ q => fTm_mono (Nat.le_max_right ..) q) h', e⟩
 | [], _ :: _, _, h => h.1.elim
 | _ :: _, [], _, h => h.1.elim
theorem fTerms_mk {w : World} {F G : Nat → Prop} {s : SlV} {ms : List Term} {l : List PTerm} (h : (fT s ms).holds w F) (h' : (bigA fTerm ms l).holds w G) : (fTerms s l).holds w fun i => F i ∨ G i := by
 obtain ⟨d, h'⟩ := big_depth h'
 exact ⟨(d, ms), F, G, h, h', fun _ => Iff.rfl⟩
theorem fTerms.rd {w : World} {s : SlV} {l : List PTerm} (h : (oDTerm s l).on w) : ∃ ms : List Term, Sl w 5 s (ms.map Term.C) ∧ ms.length = l.length ∧ l.length ≤ 140737488355328 := by
 obtain ⟨F, ⟨d, ms⟩, G, H, g, hh, q⟩ := h
 have hl : ms.length = l.length := bigA_len hh
 exact ⟨ms, g.1.1, hl, by rw [← hl]; exact g.1.2⟩
section
variable {A : Nat → Prop} {N : Oth} {w0 w w' : World} {L Z : List OA}
theorem Gw.St.eqsTm (h : St A N w0 w L Z) (k : Nat) {m : Term} {x : PTerm} (e : Z[k]? = some (fTerm m x) := by rfl) : m.kind = x.kind ∧ m.name = x.name ∧ m.other = x.other ∧ m.form = x.form := by
 obtain ⟨F, d, h⟩ := h.frz k e
 exact fTm_eqs h
theorem Gw.St.subTm (h : St A N w0 w L Z) (k : Nat) {m : Term} {x : PTerm} (e : Z[k]? = some (fTerm m x) := by rfl) : St A N w0 w L (fTerms m.sub x.sub :: Z) := by
 obtain ⟨U, hU, hN, hA, hL, hZ, hW⟩ := h
 refine ⟨U, hU, hN, hA, hL, fun z hz => ?_, hW⟩
 rcases List.mem_cons.1 hz with rfl | hz
 ·obtain ⟨F, ⟨d, g⟩, hF⟩ := hZ _ (List.mem_of_getElem? e)
  obtain ⟨G, g', hG⟩ := fTm_sub g
  exact ⟨G, g', fun i hi => hF i (hG i hi)⟩
 ·exact hZ z hz
theorem Gw.St.eltTm (h : St A N w0 w L Z) (k : Nat) {s : SlV} {l : List PTerm} {i : Int} (hi : 0 ≤ i ∧ i < l.length) (e : Z[k]? = some (fTerms s l) := by rfl) :
  ∃ m : Term, Cells w s.blk (s.off + i.toNat * 5) (Term.C m) ∧ St A N w0 w L (fTerm m (at_ PTerm.z l i) :: Z) := by
 obtain ⟨U, hU, hN, hA, hL, hZ, hW⟩ := h
 obtain ⟨F, ⟨⟨d, ms⟩, G, H, g, hh, q⟩, hF⟩ := hZ _ (List.mem_of_getElem? e)
 have hl : ms.length = l.length := bigA_len hh
 have h1 : i.toNat < ms.length := by omega
 have h2 : i.toNat < l.length := by omega
 have h3 : at_ PTerm.z l i = l[i.toNat] := by simp [at_, List.getD_eq_getElem?_getD, h2]
 obtain ⟨K, hk, hK⟩ := bigA_at hh (List.getElem?_eq_getElem h1) (List.getElem?_eq_getElem h2)
 refine ⟨ms[i.toNat], fT.at ⟨_, g⟩ (List.getElem?_eq_getElem h1), U, hU, hN, hA, hL, fun z hz => ?_, hW⟩
 rcases List.mem_cons.1 hz with rfl | hz
 ·rw [h3]; exact ⟨K, ⟨d, hk⟩, fun j hj => hF j ((q j).2 (.inr (hK j hj)))⟩
 ·exact hZ z hz
theorem Gw.St.viewTerm (h : St A N w0 w L Z) (k : Nat) {s : SlV} {l : List PTerm} {i : Int} (hi : 0 ≤ i ∧ i < l.length) (e : Z[k]? = some (oDTerm s l) := by rfl) :
  ∃ n : SlV, Cells w s.blk (s.off + i.toNat * 5) (Term.C ⟨(at_ PTerm.z l i).kind, (at_ PTerm.z l i).name, (at_ PTerm.z l i).other, (at_ PTerm.z l i).form, n⟩) ∧ St A N w0 w L (oDTerm n (at_ PTerm.z l i).sub :: Z) := by
 obtain ⟨m, hc, h1⟩ := h.eltTm k hi e
 obtain ⟨e1, e2, e3, e4⟩ := h1.eqsTm 0
 have h2 := h1.subTm 0
 refine ⟨m.sub, by rw [← e1, ← e2, ← e3, ← e4]; exact hc, h2.pickZ fun z hz => ?_⟩
 rcases List.mem_cons.1 hz with rfl | hz
 ·exact List.mem_cons_self ..
 ·exact List.mem_cons_of_mem _ (List.mem_cons_of_mem _ hz)
theorem Gw.St.lenFZ (h : St A N w0 w L Z) (n : Nat) {s : SlV} {l : List PTerm} (q : Z[n]? = some (oDTerm s l) := by rfl) : l.length ≤ 140737488355328 := (fTerms.rd (h.frz n q)).elim fun _ h => h.2.2
theorem Gw.St.nilTm (h : St A N w0 w L Z) : St A N w0 w L (oDTerm SlV.nil [] :: Z) :=
 h.say ⟨(0, []), fun _ => False, fun _ => False, ⟨⟨by simpa using Sl.nil w 5, by simp⟩, fun i => ⟨fun x => x.elim, fun x => absurd rfl x.1⟩⟩, ⟨trivial, fun _ x => x⟩, fun _ => ⟨fun x => x.elim, fun x => x.elim id id⟩⟩
theorem Gw.St.bigTm (h : St A N w0 w L Z) : St A N w0 w L (bigA fTerm [] [] :: Z) := h.say ⟨trivial, fun _ x => x⟩
theorem Gw.St.consTm {ms : List Term} {l : List PTerm} (h : St A N w0 w L (bigA fTerm ms l :: Z)) (k : Nat) {x : PTerm} {s : SlV} (e : Z[k]? = some (oDTerm s x.sub) := by rfl) : St A N w0 w L (bigA fTerm (mT x s :: ms) (x :: l) :: Z) := by
 have h1 := h.part (k + 1) (a := oDTerm s x.sub) (b := fTerm (mT x s) x) (fun F q => ⟨F, fTerm_mk q, fun _ q => q⟩) (by simpa using e)
 have h2 := h1.andZ 0 1
 refine h2.pickZ fun z hz => ?_
 rcases List.mem_cons.1 hz with rfl | hz
 ·exact List.mem_cons_self ..
 ·exact List.mem_cons_of_mem _ (List.mem_cons_of_mem _ (List.mem_cons_of_mem _ hz))
theorem Gw.St.frzTm (h : St A N w0 w L Z) (n k : Nat) {s : SlV} {ms : List Term} {l : List PTerm} {L' : List OA} (q : L[n]? = some (oS T_Term 5 Term.C s ms) := by rfl) (q' : L.eraseIdx n = L' := by rfl) (e : Z[k]? = some (bigA fTerm ms l) := by rfl) : St A N w0 w L' (oDTerm s l :: Z) := by
 have h1 := h.frzS n q q'
 replace h1 := h1.part 0 (a := fS 5 Term.C s ms) (b := fT s ms) (fun F q => fT.of q)
 have h2 := h1.andZ 0 (k + 2) (a := fT s ms) (b := bigA fTerm ms l) rfl (by simpa using e)
 have h3 := h2.part 0 (a := (fT s ms).and (bigA fTerm ms l)) (b := oDTerm s l) (fun F ⟨G, H, g, hh, q⟩ => ⟨_, fTerms_mk g hh, fun i hi => (q i).2 hi⟩)
 refine h3.pickZ fun z hz => ?_
 rcases List.mem_cons.1 hz with rfl | hz
 ·exact List.mem_cons_self ..
 ·exact List.mem_cons_of_mem _ (List.mem_cons_of_mem _ (List.mem_cons_of_mem _ (List.mem_cons_of_mem _ hz)))
end
section
variable {P : Program} {f : Fr} {w w' : World} {d : Option Tmp} {ty : TypeId} {pos : String} {af : Array Edge} {gd : Option (Nat × Bool)}
theorem Gw.does_lenF {l : List PTerm} {x : Operand} {t e k : Nat} {s : SlV} (ht : SliceT P t e k) (hx : evF f x = s.v) (h : (oDTerm s l).on w) : Does P ⟨d, .call ⟨.builtin .len, #[x], #[t]⟩, ty, pos, af, gd⟩ f w (.int .i64 l.length) w := by
 obtain ⟨ms, hr, hl, _⟩ := fTerms.rd h
 have := does_lenS (P := P) (f := f) (w := w) (d := d) (ty := ty) (pos := pos) (af := af) (gd := gd) ht hx
 rw [hr.len, List.length_map, hl] at this; exact this
theorem Gw.does_indexF {l : List PTerm} {x y : Operand} {t e : Nat} {kd : IntKind} {i : Int} {s : SlV} (ht : SliceT P t e 5) (hx : evF f x = s.v) (hy : evF f y = .int kd i) (h : (oDTerm s l).on w) (h0 : 0 ≤ i) (h1 : i < l.length) :
  Does P ⟨d, .indexAddr t x y, ty, pos, af, gd⟩ f w (.pointer (some ⟨s.blk, s.off + i.toNat * 5, none⟩)) w := by
 obtain ⟨ms, hr, hl, _⟩ := fTerms.rd h
 exact does_indexS ht hx hy hr h0 (by rw [List.length_map]; omega) rfl
end
def fScope : Option Addr → List (ByteArray × Int) → OA
 | a, [] => OA.pure (a = none)
 | a, (n, f) :: l => OA.ex fun (q : Nat × Option Addr) => (OA.pure (a = some ⟨q.1, 0, none⟩)).and ((oB q.1 T_Scope (Scope.C ⟨n, f, q.2⟩)).and (fScope q.2 l))
section
variable {A : Nat → Prop} {N : Oth} {w0 w w' : World} {L Z : List OA}
theorem Gw.St.nilScope (h : St A N w0 w L Z) : St A N w0 w L (fScope none [] :: Z) := h.say ⟨rfl, fun _ x => x⟩
theorem Gw.St.pushScope (h : St A N w0 w L Z) (j k : Nat) {b : Nat} {n : ByteArray} {f : Int} {a : Option Addr} {l : List (ByteArray × Int)} {L' : List OA} (q : L[j]? = some (oB b T_Scope (Scope.C ⟨n, f, a⟩)) := by rfl) (q' : L.eraseIdx j = L' := by rfl) (e : Z[k]? = some (fScope a l) := by rfl) :
  St A N w0 w L' (fScope (some ⟨b, 0, none⟩) ((n, f) :: l) :: Z) := by
 have h1 := h.frzO j q q'
 have h2 := h1.andZ 0 (k + 1) (a := oB b T_Scope (Scope.C ⟨n, f, a⟩)) (b := fScope a l) rfl (by simpa using e)
 have h3 := h2.say (b := OA.pure ((some ⟨b, 0, none⟩ : Option Addr) = some ⟨b, 0, none⟩)) ⟨rfl, fun _ x => x⟩
 have h4 := h3.andZ 0 1
 have h5 := h4.toexZ (f := fun (q : Nat × Option Addr) => (OA.pure ((some ⟨b, 0, none⟩ : Option Addr) = some ⟨q.1, 0, none⟩)).and ((oB q.1 T_Scope (Scope.C ⟨n, f, q.2⟩)).and (fScope q.2 l))) (b, a)
 refine h5.pickZ fun z hz => ?_
 rcases List.mem_cons.1 hz with rfl | hz
 ·exact List.mem_cons_self ..
 ·simp [hz]
theorem Gw.St.openScope (h : St A N w0 w L Z) (k : Nat) {a : Option Addr} {n : ByteArray} {f : Int} {l : List (ByteArray × Int)} (e : Z[k]? = some (fScope a ((n, f) :: l)) := by rfl) :
  ∃ p next, a = some ⟨p, 0, none⟩ ∧ St A N w0 w L (oB p T_Scope (Scope.C ⟨n, f, next⟩) :: fScope next l :: Z) := by
 obtain ⟨⟨p, next⟩, h1⟩ := h.unexZ k (f := fun (q : Nat × Option Addr) => (OA.pure (a = some ⟨q.1, 0, none⟩)).and ((oB q.1 T_Scope (Scope.C ⟨n, f, q.2⟩)).and (fScope q.2 l))) e
 have h2 := h1.unandZ 0
 have hp := h2.getpZ 0
 have h3 := h2.unandZ 1
 refine ⟨p, next, hp, h3.pickZ fun z hz => ?_⟩
 rcases List.mem_cons.1 hz with rfl | hz
 ·exact List.mem_cons_self ..
 rcases List.mem_cons.1 hz with rfl | hz
 ·simp
 ·simp [hz]
theorem Gw.St.endScope (h : St A N w0 w L Z) (k : Nat) {a : Option Addr} (e : Z[k]? = some (fScope a []) := by rfl) : a = none := h.getpZ k e
end
end Go.Proofs.YtjebgcoknpcadaaDoor
end
section
namespace Go.Proofs.YtjebgcoknpcadaaDoor
open Go.RowKit Go.Extern.Stop Go.Stop Go.Extern
theorem as_nil (t : Value) (w : World) :
  Calls Tryd.prog 56 #[.nilIface, t] w fun e w' => e = .returned (.bool false) ∧ w' = w := by
 go_enter Tryd.func56, Tryd.ntmps56
 go_wp2
 go_ret
 exact ⟨rfl, rfl⟩
theorem asF_valueOf27 (t : Addr) (w : World) : (ReflectliteValue.unpack (.iface 121 (.pointer (some t)))).run Tryd.prog w
  = .ok (.agg #[.pointer (some ⟨4, 121, none⟩), .pointer (some ⟨w.heap.size, 0, none⟩), .int .u64 150]) (w.alloc (.cells #[.pointer (some t)] 121)) := by kernel_rfl
theorem asF_type27 (a : Addr) (w : World) : (ReflectliteValue.methodAny (ReflectliteValue.valueError "reflectlite.Value.Type" 0) (fun t _ _ _ => ReflectliteType.toType t) #[.agg #[.pointer (some ⟨4, 121, none⟩), .pointer (some a), .int .u64 150]]).run Tryd.prog w
  = .ok (.iface 181 (.agg #[.pointer (some ⟨4, 121, none⟩)])) w := by kernel_rfl
theorem asF_methodKind (h : Value) (w : World) : (Go.method (260 + 100) 181 (.agg #[h]) "Kind").run Tryd.prog w = .ok (177, h) w := by kernel_rfl
theorem asF_kind27 (w : World) : ((ReflectliteType.abiMethod fun t => (fun a : Nat => Value.int IntKind.u8 (a : Int)) <$> Rtype.kind t) #[.pointer (some ⟨4, 121, none⟩)]).run Tryd.prog w = .ok (.int .u8 22) w := by kernel_rfl
theorem asF_kind25 (w : World) : ((ReflectliteType.abiMethod fun t => (fun a : Nat => Value.int IntKind.u8 (a : Int)) <$> Rtype.kind t) #[.pointer (some ⟨4, 116, none⟩)]).run Tryd.prog w = .ok (.int .u8 22) w := by kernel_rfl
theorem asF_rlm (z : Sem Value) (f : TypeId → Addr → Nat → Nat → Sem Value) (v : Value) :
  ReflectliteValue.method z f #[v] = (do match ← ReflectliteValue.parts v with | none => z | some (t, a, fl) => f t a fl (fl % 32)) := rfl
theorem asF_parts27 (a : Addr) (w : World) : (ReflectliteValue.parts (.agg #[.pointer (some ⟨4, 121, none⟩), .pointer (some a), .int .u64 150])).run Tryd.prog w = .ok (some (121, a, 150)) w := by kernel_rfl
theorem asF_isNil27 (a p : Addr) (W : World) (ha : W.cell? a = some (.pointer (some p))) :
  (ReflectliteValue.method (ReflectliteValue.valueError "reflectlite.Value.IsNil" 0) ReflectliteValue.isNil #[.agg #[.pointer (some ⟨4, 121, none⟩), .pointer (some a), .int .u64 150]]).run Tryd.prog W = .ok (.bool false) W := by
 rw [asF_rlm]
 simp only [Sem.run_bind, asF_parts27, Result.andThen]
 simp [ReflectliteValue.isNil, loadVar, isAgg, underlying, Tryd.underlying121, ha, Result.andThen]
theorem asF_methodElem (h : Value) (w : World) : (Go.method (260 + 100) 181 (.agg #[h]) "Elem").run Tryd.prog w = .ok (188, .agg #[h]) w := by kernel_rfl
theorem asF_methodImplements (h : Value) (w : World) : (Go.method (260 + 100) 181 (.agg #[h]) "Implements").run Tryd.prog w = .ok (189, .agg #[h]) w := by kernel_rfl
theorem asF_methodAssignableTo (h : Value) (w : World) : (Go.method (260 + 100) 181 (.agg #[h]) "AssignableTo").run Tryd.prog w = .ok (186, .agg #[h]) w := by kernel_rfl
theorem asF_elem27 (w : World) : (ReflectliteType.method ReflectliteType.elem #[.agg #[.pointer (some ⟨4, 121, none⟩)]]).run Tryd.prog w = .ok (.iface 181 (.agg #[.pointer (some ⟨4, 116, none⟩)])) w := by kernel_rfl
theorem asF_implements25 (w : World) : (ReflectliteType.relation "Implements" ReflectliteType.implements_ #[.agg #[.pointer (some ⟨4, 116, none⟩)], .iface 181 (.agg #[.pointer (some ⟨4, 72, none⟩)])]).run Tryd.prog w = .ok (.bool true) w := by kernel_rfl
theorem asF_typeOf25 (v : Value) (w : World) : (ReflectliteType.typeOf #[.iface 116 v]).run Tryd.prog w = .ok (.iface 181 (.agg #[.pointer (some ⟨4, 116, none⟩)])) w := by kernel_rfl
theorem asF_assignable25 (w : World) : (ReflectliteType.relation "AssignableTo" ReflectliteType.assignableTo #[.agg #[.pointer (some ⟨4, 116, none⟩)], .iface 181 (.agg #[.pointer (some ⟨4, 116, none⟩)])]).run Tryd.prog w = .ok (.bool true) w := by kernel_rfl
theorem asF_valueOf25 (e : Addr) (w : World) : (ReflectliteValue.unpack (.iface 116 (.pointer (some e)))).run Tryd.prog w
  = .ok (.agg #[.pointer (some ⟨4, 116, none⟩), .pointer (some ⟨w.heap.size, 0, none⟩), .int .u64 150]) (w.alloc (.cells #[.pointer (some e)] 116)) := by kernel_rfl
theorem asF_elemOf27 (w : World) : (Rtype.elem? 121).run Tryd.prog w = .ok (some 116) w := by kernel_rfl
theorem asF_mk25 (p : Addr) (w : World) : (ReflectliteValue.mk 116 p ReflectliteValue.flagAddr).run Tryd.prog w = .ok (.agg #[.pointer (some ⟨4, 116, none⟩), .pointer (some p), .int .u64 406]) w := by kernel_rfl
theorem asF_elemV27 (a p : Addr) (W : World) (ha : W.cell? a = some (.pointer (some p))) :
  (ReflectliteValue.method (ReflectliteValue.valueError "reflectlite.Value.Elem" 0) ReflectliteValue.elem #[.agg #[.pointer (some ⟨4, 121, none⟩), .pointer (some a), .int .u64 150]]).run Tryd.prog W
   = .ok (.agg #[.pointer (some ⟨4, 116, none⟩), .pointer (some p), .int .u64 406]) W := by
 rw [asF_rlm]
 simp only [Sem.run_bind, asF_parts27, Result.andThen]
 simp [ReflectliteValue.elem, loadVar, isAgg, underlying, Tryd.underlying121, ha, Result.andThen, asF_elemOf27, asF_mk25]
theorem asF_rls (v x : Value) : ReflectliteValue.set #[v, x] = (do
  let (some (dst, a, fl), some (src, b, _)) := (← ReflectliteValue.parts v, ← ReflectliteValue.parts x)
   | unsupported (.noEntry "extern/(internal/reflectlite.Value).Set.zeroValue")
  if fl / ReflectliteValue.flagAddr % 2 == 0 then unsupported (.noEntry "extern/(internal/reflectlite.Value).Set.unaddressable")
  let val ← loadVar src b
  if ← Rtype.directlyAssignable dst src then storeVar dst a val
  else if ← Rtype.implements dst src then
   if (← Rtype.kind src) == 20 then
    match val with
    | .nilIface => unsupported (.noEntry "extern/reflectlite: a nil value of one interface type handed on as a value of another")
    | _ => storeVar dst a val
   else storeVar dst a (.iface src val)
  else panicString ("reflectlite.Set: value of type " ++ (← Rtype.spelt src) ++ " is not assignable to type " ++ (← Rtype.spelt dst))
  pure (.tuple #[])) := rfl
theorem asF_parts25a (a : Addr) (w : World) : (ReflectliteValue.parts (.agg #[.pointer (some ⟨4, 116, none⟩), .pointer (some a), .int .u64 406])).run Tryd.prog w = .ok (some (116, a, 406)) w := by kernel_rfl
theorem asF_parts25 (a : Addr) (w : World) : (ReflectliteValue.parts (.agg #[.pointer (some ⟨4, 116, none⟩), .pointer (some a), .int .u64 150])).run Tryd.prog w = .ok (some (116, a, 150)) w := by kernel_rfl
theorem asF_direct25 (w : World) : (Rtype.directlyAssignable 116 116).run Tryd.prog w = .ok true w := by kernel_rfl
theorem asF_set25 (ta b e : Addr) (old : Value) (W : World) (hb : W.cell? b = some (.pointer (some e))) (ht : W.cell? ta = some old) (hf : W.frozen? ta = false) :
  (ReflectliteValue.set #[.agg #[.pointer (some ⟨4, 116, none⟩), .pointer (some ta), .int .u64 406], .agg #[.pointer (some ⟨4, 116, none⟩), .pointer (some b), .int .u64 150]]).run Tryd.prog W
   = .ok (.tuple #[]) (W.setCell ta (.pointer (some e))) := by
 rw [asF_rls]
 simp only [Sem.run_bind, asF_parts25a, asF_parts25, Result.andThen]
 simp [ReflectliteValue.flagAddr, loadVar, isAgg, underlying, Tryd.underlying116, hb, Result.andThen, asF_direct25, storeVar, Value.cells, storeCells, Addr.add]
 rw [run_store Tryd.prog W ta _ _ (by rfl)]
 simp [ht, hf]
set_option maxHeartbeats 4000000 in
theorem as_hit (e t : Addr) (old : Value) (w : World) (hg : w.cell? ⟨0, 0, none⟩ = some (.iface 181 (.agg #[.pointer (some ⟨4, 72, none⟩)]))) (ht0 : w.cell? t = some old) (hf0 : w.frozen? t = false) :
  Calls Tryd.prog 56 #[.iface 116 (.pointer (some e)), .iface 121 (.pointer (some t))] w fun ev w' => ev = .returned (.bool true) ∧ w' = ((((w.alloc (.cells #[.pointer (some t)] 121)).alloc (.cells #[.pointer (some ⟨4, 121, none⟩), .pointer (some ⟨w.heap.size, 0, none⟩), .int .u64 150] 152)).alloc (.cells #[.pointer (some ⟨4, 121, none⟩), .pointer (some ⟨w.heap.size, 0, none⟩), .int .u64 150] 152)).alloc (.cells #[.pointer (some e)] 116)).setCell t (.pointer (some e)) := by
 have h6 := @run_callFunc_extern Tryd.prog 85 _ (fun args => ReflectliteValue.unpack (args.getD 0 (.tuple #[]))) Tryd.func85 (by kernel_rfl) (by kernel_rfl) (by kernel_rfl) (by kernel_rfl)
 have h7 := @run_callFunc_extern Tryd.prog 86 _ (ReflectliteValue.methodAny (ReflectliteValue.valueError "reflectlite.Value.Type" 0) (fun t _ _ _ => ReflectliteType.toType t)) Tryd.func86 (by kernel_rfl) (by kernel_rfl) (by kernel_rfl) (by kernel_rfl)
 have h8 := @run_callFunc_extern Tryd.prog 87 _ (ReflectliteValue.method (ReflectliteValue.valueError "reflectlite.Value.IsNil" 0) ReflectliteValue.isNil) Tryd.func87 (by kernel_rfl) (by kernel_rfl) (by kernel_rfl) (by kernel_rfl)
 have h27 := @run_callFunc_extern Tryd.prog 177 _ (ReflectliteType.abiMethod fun t => do pure (.int .u8 (← Rtype.kind t))) Tryd.func177 (by kernel_rfl) (by kernel_rfl) (by kernel_rfl) (by kernel_rfl)
 have h37 := @run_callFunc_extern Tryd.prog 188 _ (ReflectliteType.method ReflectliteType.elem) Tryd.func188 (by kernel_rfl) (by kernel_rfl) (by kernel_rfl) (by kernel_rfl)
 have h38 := @run_callFunc_extern Tryd.prog 189 _ (ReflectliteType.relation "Implements" ReflectliteType.implements_) Tryd.func189 (by kernel_rfl) (by kernel_rfl) (by kernel_rfl) (by kernel_rfl)
 have h10 := @run_callFunc_extern Tryd.prog 107 _ ReflectliteType.typeOf Tryd.func107 (by kernel_rfl) (by kernel_rfl) (by kernel_rfl) (by kernel_rfl)
 have h35 := @run_callFunc_extern Tryd.prog 186 _ (ReflectliteType.relation "AssignableTo" ReflectliteType.assignableTo) Tryd.func186 (by kernel_rfl) (by kernel_rfl) (by kernel_rfl) (by kernel_rfl)
 have h11 := @run_callFunc_extern Tryd.prog 108 _ (ReflectliteValue.method (ReflectliteValue.valueError "reflectlite.Value.Elem" 0) ReflectliteValue.elem) Tryd.func108 (by kernel_rfl) (by kernel_rfl) (by kernel_rfl) (by kernel_rfl)
 have h12 := @run_callFunc_extern Tryd.prog 109 _ ReflectliteValue.set Tryd.func109 (by kernel_rfl) (by kernel_rfl) (by kernel_rfl) (by kernel_rfl)
 have tO := asF_typeOf25
 have mA := asF_methodAssignableTo
 have a25 := asF_assignable25
 have v25 := asF_valueOf25
 have f6 := asF_valueOf27
 have f7 := asF_type27
 have mK := asF_methodKind
 have mE := asF_methodElem
 have mI := asF_methodImplements
 have k27 := asF_kind27
 have k25 := asF_kind25
 have e27 := asF_elem27
 have i25 := asF_implements25
 have n8 := asF_isNil27 ⟨w.heap.size, 0, none⟩ t ((w.alloc (.cells #[.pointer (some t)] 121)).alloc (.cells #[.pointer (some ⟨4, 121, none⟩), .pointer (some ⟨w.heap.size, 0, none⟩), .int .u64 150] 152)) (by simp)
 have hlt : 0 < w.heap.size := by
  rcases Nat.lt_or_ge 0 w.heap.size with h | h
  ·exact h
  ·simp [World.cell?, Array.getElem?_eq_none h] at hg
 have hg2 : ((w.alloc (.cells #[.pointer (some t)] 121)).alloc (.cells #[.pointer (some ⟨4, 121, none⟩), .pointer (some ⟨w.heap.size, 0, none⟩), .int .u64 150] 152)).cell? ⟨0, 0, none⟩ = some (.iface 181 (.agg #[.pointer (some ⟨4, 72, none⟩)])) := by
  rw [World.cell?_alloc_lt _ _ ⟨0, 0, none⟩ (by first | (simp; done) | (simp; omega)), World.cell?_alloc_lt _ _ ⟨0, 0, none⟩ hlt]; exact hg
 have htl : t.block < w.heap.size := by
  rcases Nat.lt_or_ge t.block w.heap.size with h | h
  ·exact h
  ·simp [World.cell?, Array.getElem?_eq_none h] at ht0
 have el := asF_elemV27 ⟨w.heap.size, 0, none⟩ t (((w.alloc (.cells #[.pointer (some t)] 121)).alloc (.cells #[.pointer (some ⟨4, 121, none⟩), .pointer (some ⟨w.heap.size, 0, none⟩), .int .u64 150] 152)).alloc (.cells #[.pointer (some ⟨4, 121, none⟩), .pointer (some ⟨w.heap.size, 0, none⟩), .int .u64 150] 152)) (by rw [World.cell?_alloc_lt _ _ ⟨w.heap.size, 0, none⟩ (by simp; omega)]; simp)
 have st := asF_set25 t ⟨w.heap.size + 1 + 1 + 1, 0, none⟩ e old ((((w.alloc (.cells #[.pointer (some t)] 121)).alloc (.cells #[.pointer (some ⟨4, 121, none⟩), .pointer (some ⟨w.heap.size, 0, none⟩), .int .u64 150] 152)).alloc (.cells #[.pointer (some ⟨4, 121, none⟩), .pointer (some ⟨w.heap.size, 0, none⟩), .int .u64 150] 152)).alloc (.cells #[.pointer (some e)] 116))
  (by rw [World.cell?_alloc_at _ _ _ _ (by simp)]; rfl)
  (by rw [World.cell?_alloc_lt _ _ t (by simp; omega), World.cell?_alloc_lt _ _ t (by simp; omega), World.cell?_alloc_lt _ _ t (by simp; omega), World.cell?_alloc_lt _ _ t htl]; exact ht0)
  (by rw [World.frozen?_alloc_old _ _ t (by simp; omega), World.frozen?_alloc_old _ _ t (by simp; omega), World.frozen?_alloc_old _ _ t (by simp; omega), World.frozen?_alloc_old _ _ t (Nat.ne_of_lt htl)]; exact hf0)
 go_enter Tryd.func56, Tryd.ntmps56
 go_wp2
 refine wp_loop_rounds 1 ?_
 rw [rounds_succ]
 go_wp2
 go_ret
 exact ⟨rfl, rfl⟩
end Go.Proofs.YtjebgcoknpcadaaDoor
end
section
namespace Go.Proofs.YtjebgcoknpcadaaDoor
open Gw Go.RowKit
abbrev T_P_Refusal : TypeId := 116
def oE (v : Value) (x : Option (Int × List Int)) : OA := match x with
 | none => OA.pure (v = .nilIface)
 | some (c, up) => OA.ex fun (q : Nat × SlV) => (OA.pure (v = .iface T_P_Refusal (.pointer (some ⟨q.1, 0, none⟩)))).star ((oB q.1 T_Refusal (Refusal.C ⟨c, q.2⟩)).star (oS T_int 1 IC q.2 up))
theorem oE.val {w : World} {v : Value} {x : Option (Int × List Int)} (h : (oE v x).on w) : (x = none ∧ v = .nilIface) ∨ ∃ q b, x = some q ∧ v = .iface T_P_Refusal (.pointer (some ⟨b, 0, none⟩)) := by
 obtain ⟨F, h⟩ := h
 cases x with
 | none => exact .inl ⟨rfl, h.1⟩
 | some q => obtain ⟨⟨b, s⟩, G, H, g, _⟩ := h; exact .inr ⟨q, b, rfl, g.1⟩
section
variable {P : Program} {f : Fr} {w w' : World} {d : Option Tmp} {ty : TypeId} {pos : String} {af : Array Edge} {gd : Option (Nat × Bool)}
theorem run_eqGuard_nil (op : BinOp) (t : TypeId) (x : Operand) (c : Value) : (eqGuard op t x (.const c) .nilIface .nilIface).run P w = .ok () w := by
 unfold eqGuard
 cases x <;> split <;> rfl
theorem run_eqGuard_ifn (op : BinOp) (t u : TypeId) (x y : Operand) (v : Value) : (eqGuard op t x y (.iface u v) .nilIface).run P w = .ok () w := by
 unfold eqGuard
 split <;> rfl
theorem Gw.does_neE {t u : TypeId} {x : Operand} {v : Value} {e : Option (Int × List Int)} (ht : P.underlying t = some (.interface (P.methodsAt t))) (hx : evF f x = v) (hy : evF f (.const .nilIface) = .nilIface) (h : (oE v e).on w) : Does P ⟨d, .binOp .neq t x (.const .nilIface) u, ty, pos, af, gd⟩ f w (.bool e.isSome) w := by
 rcases oE.val h with ⟨rfl, rfl⟩ | ⟨q, b, rfl, rfl⟩
 ·simp only [Does, execOp, hx, hy, Sem.run_bind, run_eqGuard_nil, Result.andThen_ok, run_neq_nil_nil w t ht, Sem.run_pure]; rfl
 ·simp only [Does, execOp, hx, hy, Sem.run_bind, run_eqGuard_ifn, Result.andThen_ok, run_neq_held_nil w t _ _ ht, Sem.run_pure]; rfl
theorem Gw.does_eqE {t u : TypeId} {x : Operand} {v : Value} {e : Option (Int × List Int)} (ht : P.underlying t = some (.interface (P.methodsAt t))) (hx : evF f x = v) (hy : evF f (.const .nilIface) = .nilIface) (h : (oE v e).on w) : Does P ⟨d, .binOp .eql t x (.const .nilIface) u, ty, pos, af, gd⟩ f w (.bool e.isNone) w := by
 rcases oE.val h with ⟨rfl, rfl⟩ | ⟨q, b, rfl, rfl⟩
 ·simp only [Does, execOp, hx, hy, Sem.run_bind, run_eqGuard_nil, Result.andThen_ok, run_eql_nil_nil w t ht, Sem.run_pure]; rfl
 ·simp only [Does, execOp, hx, hy, Sem.run_bind, run_eqGuard_ifn, Result.andThen_ok, run_eql_held_nil w t _ _ ht, Sem.run_pure]; rfl
theorem Gw.does_mkIface {t : TypeId} {x : Operand} {v : Value} (ht : P.concrete t = true) (hx : evF f x = v) : Does P ⟨d, .makeInterface t x, ty, pos, af, gd⟩ f w (.iface t v) w := by
 simp only [Does, execOp, hx, Sem.run_bind, run_makeInterface w t v ht, Result.andThen_ok, Sem.run_pure]
end
theorem Gw.does_makeInterface {f : Fr} {w : World} {d : Option Tmp} {ty : TypeId} {pos : String} {af : Array Edge} {gd : Option (Nat × Bool)} {x : Operand} {v : Value} (hx : evF f x = v) : Does PP ⟨d, .makeInterface T_P_Refusal x, ty, pos, af, gd⟩ f w (.iface T_P_Refusal v) w := does_mkIface (by kernel_rfl) hx
section
variable {A : Nat → Prop} {N : Oth} {w0 w w' : World} {L Z : List OA}
theorem Gw.St.nilE (h : St A N w0 w L Z) : St A N w0 w (oE .nilIface none :: L) Z := h.putp rfl
theorem Gw.St.mkE {b : Nat} {s : SlV} {c : Int} {up : List Int} (h : St A N w0 w (oB b T_Refusal (Refusal.C ⟨c, s⟩) :: oS T_int 1 IC s up :: L) Z) : St A N w0 w (oE (.iface T_P_Refusal (.pointer (some ⟨b, 0, none⟩))) (some (c, up)) :: L) Z :=
 St.toex (f := fun (q : Nat × SlV) => (OA.pure (Value.iface T_P_Refusal (.pointer (some ⟨b, 0, none⟩)) = .iface T_P_Refusal (.pointer (some ⟨q.1, 0, none⟩)))).star ((oB q.1 T_Refusal (Refusal.C ⟨c, q.2⟩)).star (oS T_int 1 IC q.2 up))) (b, s) (h.star.putp rfl).star
theorem Gw.St.openE (h : St A N w0 w L Z) (k : Nat) {v : Value} {c : Int} {up : List Int} {L' : List OA} (e : L[k]? = some (oE v (some (c, up))) := by rfl) (e' : L.eraseIdx k = L' := by rfl) : ∃ b s, v = .iface T_P_Refusal (.pointer (some ⟨b, 0, none⟩)) ∧ St A N w0 w (oB b T_Refusal (Refusal.C ⟨c, s⟩) :: oS T_int 1 IC s up :: L') Z := by
 subst e'
 obtain ⟨⟨b, s⟩, h1⟩ := h.unex k (f := fun (q : Nat × SlV) => (OA.pure (v = .iface T_P_Refusal (.pointer (some ⟨q.1, 0, none⟩)))).star ((oB q.1 T_Refusal (Refusal.C ⟨c, q.2⟩)).star (oS T_int 1 IC q.2 up))) e
 have h2 := h1.unstar 0
 exact ⟨b, s, h2.getp 0, (h2.drop 0).unstar 0⟩
theorem Gw.St.seeE (h : St A N w0 w L Z) (k : Nat) {v : Value} (e : L[k]? = some (oE v none) := by rfl) : v = .nilIface := h.getp k e
end
theorem Gw.St.newP {M : Oth} {w w' : World} {a : OA} {Z : List OA} (h : St (fun _ => False) M w w' [a] Z) : ∃ F, a.holds w' F ∧ ∀ i, F i → w.heap.size ≤ i := by
 obtain ⟨U, hU, hN, hA, ⟨F, hF, hFU, _⟩, hZ, hW⟩ := h
 exact ⟨F, hF, fun i hi => (hU i (hFU i hi)).1.elim (fun x => x.elim) id⟩
def etV : Value := .iface 181 (.agg #[.pointer (some ⟨4, 72, none⟩)])
abbrev Et (w : World) : Prop := Cells w 0 0 [etV]
def oEt : OA where
 holds := fun w F => Et w ∧ ∀ i, F i ↔ i = 0
 loc := fun h hc hs => ⟨h.1.chg hc (hs _ ((h.2 _).2 rfl)), h.2⟩
 lt := fun {w F} h i hi => by
  rw [(h.2 i).1 hi]
  have h1 := h.1 0 etV rfl
  rcases Nat.lt_or_ge 0 w.heap.size with q | q
  ·exact q
  ·simp [World.cell?, Array.getElem?_eq_none q] at h1
theorem Gw.St.et {A : Nat → Prop} {N : Oth} {w0 w : World} {L Z : List OA} (h : St A N w0 w L Z) (k : Nat) (e : Z[k]? = some oEt := by rfl) : Et w := (h.frz k e).elim fun _ q => q.1
theorem setCell_chg {w : World} {b : Nat} {t : TypeId} {v : Value} (v' : Value) (hb : Blk w b t [v]) : Blk (w.setCell ⟨b, 0, none⟩ v') b t [v'] ∧ Chg (· = b) w (w.setCell ⟨b, 0, none⟩ v') := by
 have h1 : Blk (w.setCell ⟨b, 0, none⟩ v') b t [v'] := by
  unfold Blk at *
  simp [World.setCell, Array.getElem?_modify, hb]
 have h2 : ∀ k, k ≠ b → (w.setCell ⟨b, 0, none⟩ v').heap[k]? = w.heap[k]? := fun k hk => by simp [World.setCell, Array.getElem?_modify, Ne.symm hk]
 exact ⟨h1, rfl, rfl, rfl, by simp [World.setCell], fun k _ hk => h2 k hk, froz_at b (by rw [h1]; exact thawed.cells _ _) (by rw [hb]; exact thawed.cells _ _) h2⟩
theorem errors_As_no (t : Value) (w : World) : Calls PP F_errors_As #[.nilIface, t] w fun e w' => ∃ v, e = .returned v ∧ (v = .bool false ∧ Ext w w') :=
 CallsIn.mono (F := fen none) (n := 0) (callsIn_wide.2 (as_nil t w)) (by rintro e w' ⟨rfl, rfl⟩; exact ⟨_, rfl, rfl, Ext.refl _⟩) |> callsIn_wide.1
theorem ext_cells (w : World) (l : List Value) (t : TypeId) : Ext w (w.alloc (.cells l.toArray t)) := New.ext ⟨rfl, rfl⟩
theorem errors_As_yes (e : Addr) {t : Nat} {v : Value} {w : World} (hg : Et w) (hb : Blk w t T_P_Refusal [v]) :
  Calls PP F_errors_As #[.iface T_P_Refusal (.pointer (some e)), .iface 121 (.pointer (some ⟨t, 0, none⟩))] w fun ev w' => ∃ v, ev = .returned v ∧ (v = .bool true ∧ Chg (· = t) w w' ∧ Blk w' t T_P_Refusal [.pointer (some e)]) := by
 have h := as_hit e ⟨t, 0, none⟩ v w (hg 0 etV rfl) (hb.cell rfl) (thawed.not (by rw [show w.heap[t]? = _ from hb]; exact thawed.cells _ _))
 refine CallsIn.mono (F := fen none) (n := 0) (callsIn_wide.2 h) (fun ev w' => ?_) |> callsIn_wide.1
 rintro ⟨rfl, rfl⟩
 refine ⟨_, rfl, rfl, ?_⟩
 have x1 := ext_cells w [.pointer (some ⟨t, 0, none⟩)] 121
 have x2 := x1.trans (ext_cells _ [.pointer (some ⟨4, 121, none⟩), .pointer (some ⟨w.heap.size, 0, none⟩), .int .u64 150] 152)
 have x3 := x2.trans (ext_cells _ [.pointer (some ⟨4, 121, none⟩), .pointer (some ⟨w.heap.size, 0, none⟩), .int .u64 150] 152)
 have x4 := x3.trans (ext_cells _ [.pointer (some e)] T_P_Refusal)
 obtain ⟨h1, h2⟩ := setCell_chg (.pointer (some e)) (hb.ext x4)
 exact ⟨(x4.mono fun _ _ x => x.elim).trans h2, h1⟩
end Go.Proofs.YtjebgcoknpcadaaDoor
end
section
namespace Go.Proofs.YtjebgcoknpcadaaDoor
open Go.RowKit
namespace Gw
def Owe3 (P : Program) (rd : Option Nat) (n : Nat) (dm : List Nat) (ops : Array Oper) (ds : List Nat) (D : Draw) (f : Fr) (i : Nat) (o : Oper) : Prop :=
 ∀ (L : Nat → Bool) (g : Fr) (w : World), L i = false → (∀ j, ((Region.before ops).getD i 0).testBit j = true → L j = true) → D.T L w → givens ops D g w (needs o) (wl P rd n dm ops [o] (obPost2 dm D L i o.dst (mask ds g f) w) (mask ds g f) w)
def Owes3 (P : Program) (rd : Option Nat) (n : Nat) (dm : List Nat) (ops : Array Oper) (ds : List Nat) (D : Draw) (f : Fr) : List Oper → Nat → Prop
 | [], _ => True
 | o :: l, i => Owe3 P rd n dm ops ds D f i o ∧ Owes3 P rd n dm ops ds D f l (i + 1)
section
variable {P : Program} {rd : Option Nat} {n m : Nat} {dm : List Nat} {ops : Array Oper} {Q : Post} {f : Fr} {w : World}
theorem owes3_at {ds : List Nat} {D : Draw} : ∀ (l : List Oper) (i : Nat), Owes3 P rd n dm ops ds D f l i → ∀ j o, l[j]? = some o → Owe3 P rd n dm ops ds D f (i + j) o
 | [], _, _, j, o, hj => by simp at hj
 | o :: l, i, h, 0, o', hj => by simp at hj; subst hj; exact h.1
 | o :: l, i, h, j + 1, o', hj => by
  have := owes3_at l (i + 1) h.2 j o' (by simpa using hj)
  rwa [show i + 1 + j = i + (j + 1) by omega] at this
theorem wc_draw3 {id : Nat} {l : List Oper} (m : Nat) (D : Draw) (hm : P.follows .mixedOrders = true) (hB : drawB2 l.toArray m = true)
  (hst : ∀ L i v w w', L i = true → D.Le L w w' → D.V i v w → D.V i v w') (hT : D.T (fun _ => false) { w with drawn := w.drawn + 1 })
  (ho : Owes3 P rd n dm l.toArray ((l.take m).filterMap (·.dst)) D f (l.take m) 0)
  (hq : ∀ L g w, (∀ j, L j = decide (j < m)) → D.T L w → allV D g w (l.take m) 0 (wl P rd n dm l.toArray (l.drop m) Q (mask ((l.take m).filterMap (·.dst)) g f) w)) : wc P rd n dm (.region id l.toArray true) Q f w := by
 intro a ha
 refine wpIn_region_any hm ?_
 simp only [drawB2, Bool.and_eq_true, decide_eq_true_eq, List.all_eq_true] at hB
 obtain ⟨⟨⟨hnd, hback⟩, htail⟩, hml⟩ := hB
 simp only [List.size_toArray] at hml
 generalize hds : (l.take m).filterMap (·.dst) = ds at *
 have hb : Back l.toArray := by
  intro i o hi e he hbd
  have := hback (o, i) (by
   rw [List.mem_zipIdx_iff_getElem?]
   simpa using hi) e (by simpa using he)
  simp only [hbd, Bool.not_true, Bool.false_or, decide_eq_true_eq] at this
  exact this
 have hord : ∀ k, m ≤ k → k < l.toArray.size → ∀ listed : Array Bool, listed.size = l.toArray.size → k ∈ Region.ready .any l.toArray listed → Closed l.toArray listed → ∀ j, j < k → listed.getD j false = true := by
  intro k hmk hk listed hs hr hc j hj
  have hkl : k < l.length := by simpa using hk
  have h1 := htail (l[k], k) (by
   rw [List.mem_zipIdx_iff_getElem?]
   simp)
  simp only [Bool.or_eq_true, decide_eq_true_eq] at h1
  rcases h1 with h1 | h1
  ·omega
  ·rw [List.all_eq_true] at h1
   have h2 := h1 j (by simpa using hj)
   rw [mem_ready] at hr
   obtain ⟨_, o, ho', hall⟩ := hr
   refine before_sound hc [] #[] rfl (by simp) (by simp) l.toArray.toList (by simp) k hk j ?_ ?_
   ·unfold Region.before at h2
    rw [← Array.foldl_toList] at h2
    exact h2
   ·rw [ho']
    simpa using hall
 have hmd : ∀ j o, (l.take m)[j]? = some o → j < m ∧ l.toArray[j]? = some o ∧ ∀ d, o.dst = some d → d ∈ ds := by
  intro j o hj
  have hjm : j < m := by
   have := (List.getElem?_eq_some_iff.1 hj).1
   simp at this; omega
  have hjo : l[j]? = some o := by rw [List.getElem?_take] at hj; simpa [hjm] using hj
  exact ⟨hjm, by simpa using hjo, fun d hd => by rw [← hds]; exact List.mem_filterMap.2 ⟨o, List.mem_of_getElem? hj, hd⟩⟩
 have hinj : ∀ (i j : Nat) (oi oj : Oper) (d : Nat), (l.take m)[i]? = some oi → (l.take m)[j]? = some oj → oi.dst = some d → oj.dst = some d → i = j := by
  have hgen : ∀ (L : List Oper), (L.filterMap (·.dst)).Nodup → ∀ (i j : Nat) (oi oj : Oper) (d : Nat), L[i]? = some oi → L[j]? = some oj → oi.dst = some d → oj.dst = some d → i = j := by
   intro L
   induction L with
   | nil => intro _ i j oi oj d h; simp at h
   | cons o L ih =>
    intro hn i j oi oj d hi hj hdi hdj
    have hn' : (L.filterMap (·.dst)).Nodup := by
     rw [List.filterMap_cons] at hn
     split at hn
     ·exact hn
     ·exact (List.nodup_cons.1 hn).2
    have hno : ∀ (k : Nat) (ok : Oper) (dd : Nat), L[k]? = some ok → o.dst = some dd → ok.dst ≠ some dd := by
     intro k ok dd hk hod hkd
     rw [List.filterMap_cons, hod] at hn
     exact (List.nodup_cons.1 hn).1 (List.mem_filterMap.2 ⟨ok, List.mem_of_getElem? hk, hkd⟩)
    cases i with
    | zero =>
     cases j with
     | zero => rfl
     | succ j => simp at hi; subst hi; exact absurd hdj (hno j oj d (by simpa using hj) hdi)
    | succ i =>
     cases j with
     | zero => simp at hj; subst hj; exact absurd hdi (hno i oi d (by simpa using hi) hdj)
     | succ j => rw [ih hn' i j oi oj d (by simpa using hi) (by simpa using hj) hdi hdj]
  exact hgen _ (by rw [hds]; exact hnd)
 have main : ∀ (fuel : Nat) (listed : Array Bool) (g : Fr) (a : Act) (w : World), listed.size = l.length → fuel + cnt listed l.length = l.length → Closed l.toArray listed → (∀ j, m ≤ j → j < l.length → listed.getD j false = false) →
   Is n dm a (mask ds g f) → D.T (fun j => listed.getD j false) w → (∀ j o, (l.take m)[j]? = some o → listed.getD j false = true → overV D g w j o.dst) → wpAnyIn (fen rd) 0 P .any l.toArray (lift n Q) fuel listed a w := by
  intro fuel
  induction fuel with
  | zero =>
   intro listed g a w hs hcnt hc hno ha hT hV
   have hall := cnt_full listed l.length (by omega)
   have hm' : m = l.length := by
    by_cases h : m < l.length
    ·have := hno m (Nat.le_refl _) h
     rw [hall m h] at this
     cases this
    ·omega
   have hfin := allV_elim (l.take m) 0 (fun j o hj => by rw [Nat.zero_add]; exact (hV j o hj (hall j (by have := (hmd j o hj).1; omega))).get) (hq _ g w (fun j => by
    by_cases hj : j < l.length
    ·rw [hall j hj, decide_eq_true (by omega)]
    ·rw [out_false listed j (by omega), decide_eq_false (by omega)]) hT)
   rw [List.drop_eq_nil_of_le (by omega)] at hfin
   refine ⟨?_, ?_⟩
   ·refine List.eq_nil_iff_forall_not_mem.2 fun i hi => ?_
    obtain ⟨h1, h2⟩ := ready_lt (ops := l.toArray) (by simpa using hs) hi
    rw [hall i (by simpa using h1)] at h2
    cases h2
   ·exact hfin a ha
  | succ fuel ih =>
   intro listed g a w hs hcnt hc hno ha hT hV
   have hs' : listed.size = l.toArray.size := by simpa using hs
   refine ⟨fun hr => ?_, fun i hi => ?_⟩
   ·have hall := ready_nil hb hs' hr
    have := cnt_all listed l.length (fun j hj => hall j (by simpa using hj))
    omega
   ·obtain ⟨h1, h2⟩ := ready_lt hs' hi
    have h1' : i < l.length := by simpa using h1
    by_cases him : i < m
    ·have hio : (l.take m)[i]? = some l[i] := by
      rw [List.getElem?_take, if_pos him]
      exact List.getElem?_eq_getElem h1'
     obtain ⟨_, hio', hdds⟩ := hmd i _ hio
     have howe := owes3_at _ 0 ho i _ hio (fun j => listed.getD j false) g w (by rw [Nat.zero_add]; exact h2) (fun j hj => by rw [Nat.zero_add] at hj; exact ord_of h1' hj hi hc) hT
     rw [Nat.zero_add] at howe
     have hready := hi
     rw [mem_ready] at hready
     obtain ⟨_, o, hoo, hall⟩ := hready
     rw [hio'] at hoo
     cases hoo
     have hwl := givens_elim (ops := l.toArray) (needs l[i]) (fun j hj => by
      unfold needs at hj
      obtain ⟨e, he, rfl⟩ := List.mem_map.1 hj
      obtain ⟨he1, he2⟩ := List.mem_filter.1 he
      have hbd : Region.binds .any e = true := by
       unfold Region.binds
       cases hg : e.ground <;> rw [hg] at he2 <;> simp at he2 ⊢
      have hlt := hb i _ hio' e (by simpa using he1) hbd
      have hlst := hall e (by simpa using he1) hbd
      have hjm : e.on < m := by omega
      have hjo : (l.take m)[e.on]? = some l[e.on] := by
       rw [List.getElem?_take, if_pos hjm]
       exact List.getElem?_eq_getElem (by omega)
      have := (hV e.on _ hjo hlst).get
      unfold dstAt
      obtain ⟨_, hj2, _⟩ := hmd _ _ hjo
      rw [hj2]
      simp only [Option.bind_some]
      exact this) howe
     refine wpOp_of_wl hio' hwl (fun dm e f' w' q => q.1) ?_ ha
     rintro dm' a' f' w' ha' ⟨_, rfl, hT', hL', hV'⟩
     rw [plus_set listed i (by omega)] at hT'
     cases hd : l[i].dst with
     | none =>
      rw [hd] at hV'
      obtain ⟨rfl, hV'⟩ := hV'
      refine ih _ g a' w' (by simpa using hs) ?_ (hc.set hs' hi) ?_ ha' hT' ?_
      ·rw [cnt_set listed i (by omega) h2, if_pos h1']; omega
      ·intro j hmj hjl
       rw [getD_set _ _ _ (by omega), if_neg (by omega)]
       exact hno j hmj hjl
      ·intro j oj hj hlj
       rw [getD_set _ _ _ (by omega)] at hlj
       by_cases hij : i = j
       ·subst hij
        rw [hio] at hj
        cases hj
        rw [hd]
        exact hV'
       ·rw [if_neg hij] at hlj
        have hvj := hV j oj hj hlj
        cases hdj : oj.dst with
        | none => rw [hdj] at hvj; exact fun v => hst _ j _ _ _ hlj hL' (hvj v)
        | some dj => rw [hdj] at hvj; exact hst _ j _ _ _ hlj hL' hvj
     | some d =>
     rw [hd] at hV'
     obtain ⟨v, rfl, hV'⟩ := hV'
     have hdds := hdds d hd
     have hmask : upd (mask ds g f) d v = mask ds (upd g d v) f := by
      funext k
      by_cases hk : k = d
      ·subst hk
       rw [upd_same, mask_in hdds, upd_same]
      ·rw [upd_other _ _ _ _ hk]
       by_cases hkd : k ∈ ds
       ·rw [mask_in hkd, mask_in hkd, upd_other _ _ _ _ hk]
       ·rw [mask_out hkd, mask_out hkd]
     rw [hmask] at ha'
     refine ih _ (upd g d v) a' w' (by simpa using hs) ?_ (hc.set hs' hi) ?_ ha' hT' ?_
     ·rw [cnt_set listed i (by omega) h2, if_pos h1']; omega
     ·intro j hmj hjl
      rw [getD_set _ _ _ (by omega), if_neg (by omega)]
      exact hno j hmj hjl
     ·intro j oj hj hlj
      rw [getD_set _ _ _ (by omega)] at hlj
      by_cases hij : i = j
      ·subst hij
       rw [hio] at hj
       cases hj
       rw [hd]
       show D.V i (upd g d v d) _
       rw [upd_same]
       exact hV'
      ·rw [if_neg hij] at hlj
       have hvj := hV j oj hj hlj
       cases hdj : oj.dst with
       | none => rw [hdj] at hvj; exact fun v => hst _ j _ _ _ hlj hL' (hvj v)
       | some dj =>
        rw [hdj] at hvj
        have hne : dj ≠ d := fun e => hij (hinj i j _ oj d hio hj hd (by rw [hdj, e]))
        show D.V j (upd g d v dj) _
        rw [upd_other _ _ _ _ hne]
        exact hst _ j _ _ _ hlj hL' hvj
    ·have hallj := hord i (by omega) h1 listed hs' hi hc
     have him' : i = m := by
      by_cases h : m < i
      ·have := hno m (Nat.le_refl _) (by omega)
       rw [hallj m h] at this
       cases this
      ·omega
     subst him'
     have hfin := allV_elim (l.take i) 0 (fun j o hj => by rw [Nat.zero_add]; exact (hV j o hj (hallj j (by have := (hmd j o hj).1; omega))).get) (hq _ g w (fun j => by
      by_cases hj : j < i
      ·rw [hallj j hj, decide_eq_true hj]
      ·rw [decide_eq_false hj]
       by_cases hjl : j < l.length
       ·exact hno j (by omega) hjl
       ·exact out_false listed j (by omega)) hT)
     have hfa := hfin a ha
     have hcn : cnt listed l.length = i := by
      have hz : ∀ k, i ≤ k → k ≤ l.length → cnt listed k = i := by
       intro k
       induction k with
       | zero => intro h _; rw [show i = 0 by omega]; rfl
       | succ k ihk =>
        intro h1 h2
        by_cases hk : i ≤ k
        ·rw [cnt_succ, ihk hk (by omega), hno k hk (by omega)]; simp
        ·have : k + 1 = i := by omega
         rw [this]
         exact cnt_all listed i hallj
      exact hz _ (by omega) (Nat.le_refl _)
     have htl := any_tail (rd := rd) (P := P) (m := i) (R := lift n Q) hb hord (fuel + 1) i listed a w (Nat.le_refl _) hs' hc (fun j hj => ⟨(fun h => by
      refine Nat.lt_of_not_le fun hij => ?_
      rw [hno j hij (by simpa using hj)] at h
      cases h), hallj j⟩) (by simp; omega) hfa
     exact htl.2 i hi
 have h0 : Is n dm a (mask ds f f) := by
  have : mask ds f f = f := by funext k; unfold mask; cases ds.elem k <;> rfl
  rw [this]; exact ha
 have hz : cnt (Array.replicate l.toArray.size false) l.length = 0 := by
  unfold cnt
  rw [List.length_eq_zero_iff]
  refine List.filter_eq_nil_iff.2 fun j hj => ?_
  rw [repl_false]
  simp
 refine main _ _ f a _ (by simp) (by rw [hz]; simp) ?_ (by intro j _ _; rw [repl_false]) h0 (by rw [show (fun j => (Array.replicate l.toArray.size false).getD j false) = fun _ => false from funext fun j => repl_false _ j]; exact hT) ?_
 ·intro j o _ h; rw [repl_false] at h; cases h
 ·intro j o _ h; rw [repl_false] at h; cases h
end
end Gw
end Go.Proofs.YtjebgcoknpcadaaDoor
end
section
namespace Go.Proofs.YtjebgcoknpcadaaDoor
open Gw Go.RowKit
structure PChecker where
 t : Tb
structure PC where
 t : Tb
 hyps : List Hyp
 way : List Int
 wrong : List Int
def oC (a ta : Option Addr) (x : PC) : OA := OA.ex fun (q : Nat × SlV × SlV × SlV) => (OA.pure (a = some ⟨q.1, 0, none⟩)).star ((oB q.1 T_RC (RC.C ⟨ta, q.2.1, q.2.2.1, q.2.2.2⟩)).star ((oR ta x.t).star ((oS T_Hyp 2 Hyp.C q.2.1 x.hyps).star ((oS T_int 1 IC q.2.2.1 x.way).star (oS T_int 1 IC q.2.2.2 x.wrong)))))
section
variable {A : Nat → Prop} {N : Oth} {w0 w w' : World} {L Z : List OA}
theorem Gw.St.open_oC (h : St A N w0 w L Z) (k : Nat) {a ta : Option Addr} {x : PC} {L' : List OA} (e : L[k]? = some (oC a ta x) := by rfl) (e' : L.eraseIdx k = L' := by rfl) :
  ∃ p s1 s2 s3, a = some ⟨p, 0, none⟩ ∧ St A N w0 w (oB p T_RC (RC.C ⟨ta, s1, s2, s3⟩) :: oR ta x.t :: oS T_Hyp 2 Hyp.C s1 x.hyps :: oS T_int 1 IC s2 x.way :: oS T_int 1 IC s3 x.wrong :: L') Z := by
 subst e'
 obtain ⟨⟨p, s1, s2, s3⟩, h1⟩ := h.unex k e
 have h2 := h1.unstar 0
 have hp := h2.getp 0
 have h3 := h2.drop 0
 have h4 := h3.unstar 0
 have h5 := h4.unstar 1
 have h6 := h5.unstar 1
 have h7 := h6.unstar 1
 exact ⟨p, s1, s2, s3, hp, ((h7.front 2).front 3).front 4⟩
theorem Gw.St.shut_oC {p : Nat} {ta a : Option Addr} {s1 s2 s3 : SlV} {t : Tb} {hy : List Hyp} {wy wr : List Int} (h : St A N w0 w (oB p T_RC (RC.C ⟨ta, s1, s2, s3⟩) :: oR ta t :: oS T_Hyp 2 Hyp.C s1 hy :: oS T_int 1 IC s2 wy :: oS T_int 1 IC s3 wr :: L) Z) (ha : a = some ⟨p, 0, none⟩) : St A N w0 w (oC a ta ⟨t, hy, wy, wr⟩ :: L) Z := by
 have h1 : St A N w0 w (oS T_int 1 IC s2 wy :: oS T_int 1 IC s3 wr :: oB p T_RC (RC.C ⟨ta, s1, s2, s3⟩) :: oR ta t :: oS T_Hyp 2 Hyp.C s1 hy :: L) Z := (h.front 4).front 4
 have h2 := (h1.star.front 3)
 have h3 := (h2.star.front 2)
 have h4 := (h3.star.front 1)
 exact St.toex (f := fun (q : Nat × SlV × SlV × SlV) => (OA.pure (a = some ⟨q.1, 0, none⟩)).star ((oB q.1 T_RC (RC.C ⟨ta, q.2.1, q.2.2.1, q.2.2.2⟩)).star ((oR ta t).star ((oS T_Hyp 2 Hyp.C q.2.1 hy).star ((oS T_int 1 IC q.2.2.1 wy).star (oS T_int 1 IC q.2.2.2 wr)))))) (p, s1, s2, s3) ((h4.star.putp ha).star)
theorem Gw.St.see_oC (h : St A N w0 w L Z) (k : Nat) {a ta : Option Addr} {x : PC} (e : Z[k]? = some (oC a ta x) := by rfl) :
  ∃ p s1 s2 s3, a = some ⟨p, 0, none⟩ ∧ St A N w0 w L (oB p T_RC (RC.C ⟨ta, s1, s2, s3⟩) :: oR ta x.t :: fS 2 Hyp.C s1 x.hyps :: fS 1 IC s2 x.way :: fS 1 IC s3 x.wrong :: Z) := by
 obtain ⟨⟨p, s1, s2, s3⟩, h1⟩ := h.unexZ k e
 have h2 := h1.unstarZ 0
 have hp := h2.getpZ 0
 have h3 := h2.unstarZ 1
 have h4 := h3.unstarZ 1
 have h5 := h4.unstarZ 1
 have h6 := h5.unstarZ 1
 have k1 := h6.tell 1 (a := oS T_int 1 IC s3 x.wrong) (b := fS 1 IC s3 x.wrong) (fun F q => ⟨⟨q.1.1.toRd, q.1.2⟩, q.2⟩) rfl
 have k2 := k1.tell 1 (a := oS T_int 1 IC s2 x.way) (b := fS 1 IC s2 x.way) (fun F q => ⟨⟨q.1.1.toRd, q.1.2⟩, q.2⟩) rfl
 have k3 := k2.tell 4 (a := oS T_Hyp 2 Hyp.C s1 x.hyps) (b := fS 2 Hyp.C s1 x.hyps) (fun F q => ⟨⟨q.1.1.toRd, q.1.2⟩, q.2⟩) rfl
 refine ⟨p, s1, s2, s3, hp, k3.pickZ fun z hz => ?_⟩
 simp only [List.mem_cons] at hz ⊢
 rcases hz with rfl | rfl | rfl | rfl | rfl | hz
 all_goals simp [*]
end
section
variable {A : Nat → Prop} {N : Oth} {w : World}
-- scopes
theorem Gw.St.nil_fScopeZ {w0 : World} {L Z : List OA} (h : St A N w0 w L Z) : St A N w0 w L (fScope none [] :: Z) := h.nilScope
def types_scope_with.f (l : List (ByteArray × Int)) (n : ByteArray) (f : Int) : Option (List (ByteArray × Int)) := some ((n, f) :: l)
theorem types_scope_with_ok (w : World) (a : Option Addr) (n : ByteArray) (f : Int) : Calls PP F_types_scope_with #[.pointer a, .string n, .int .i64 f] w fun e w' => ∃ v, e = .returned v ∧ ∃ b : Nat, v = .pointer (some ⟨b, 0, none⟩) ∧ Ext w w' ∧ Blk w' b T_Scope (Scope.C ⟨n, f, a⟩) ∧ w.heap.size ≤ b := by
 refine calls_of_wc (n := 12) fn_types_scope_with rfl rfl (by simp) ?_
 refine wc_seq (wc_region ?_)
 refine wd (does_as_p rfl) ?_
 refine wl_nil ?_
 refine wc_seq (wc_region ?_)
 refine wd (does_mv_s rfl) ?_
 refine wd (does_mv_i rfl) ?_
 refine wd (does_mv_p rfl) ?_
 refine wd (does_build bu_Scope (Bld.one rfl rfl (by rw [Scope.len]; decide) (Scope.set_name _ _) (Bld.one rfl rfl (by rw [Scope.len]; decide) (Scope.set_form _ _) (Bld.one rfl rfl (by rw [Scope.len]; decide) (Scope.set_next _ _) Bld.nil)))) ?_
 refine wl_box_agg rfl (by decide) fun b w1 h1 => ?_
 refine wd (does_as_p rfl) ?_
 refine wl_nil ?_
 refine wc_ret ?_
 exact ⟨_, (rets1 (retOne_tmp rfl)), b, rfl, h1.ext, h1.blk, by have := h1.at_; omega⟩
theorem types_scope_with_st {a : Option Addr} {l : List (ByteArray × Int)} {n : ByteArray} {f : Int} (S : St A N w w [] [fScope a l]) {r : List (ByteArray × Int)} (H : types_scope_with.f l n f = some r) :
  Calls PP F_types_scope_with #[.pointer a, .string n, .int .i64 f] w fun e w' => ∃ v, e = .returned v ∧ (∃ ao0 : Option Addr, v = .pointer ao0 ∧ St A N w w' [] [fScope ao0 r]) := by
 cases H
 refine calls_mono (types_scope_with_ok w a n f) ?_
 rintro v w' ⟨b, rfl, hx, hb, hl⟩
 have h1 : St A N w w' [oB b T_Scope (Scope.C ⟨n, f, a⟩)] [fScope a l] := S.newAt hx hb hl
 exact ⟨_, rfl, (h1.pushScope 0 0).zs [0]⟩
def types_scope_find.f (l : List (ByteArray × Int)) (n : ByteArray) : Option (Int × Option (Int × List Int)) := some (match l.find? (fun q => decide (q.1 = n)) with | some q => (q.2, none) | none => (0, some (131, [])))
theorem types_scope_find_st {a : Option Addr} {l : List (ByteArray × Int)} {n : ByteArray} (S : St A N w w [] [fScope a l]) {r : Int × Option (Int × List Int)} (H : types_scope_find.f l n = some r) :
  Calls PP F_types_scope_find #[.pointer a, .string n] w fun e w' => ∃ v, e = .returned v ∧ (∃ vo0 : Value, v = .tuple #[.int .i64 r.1, vo0] ∧ St A N w w' [oE vo0 r.2] []) := by
 cases H
 refine calls_of_wc (n := 25) fn_types_scope_find rfl rfl (by simp) ?_
 refine wc_seq (wc_region ?_)
 refine wd (does_as_i rfl) ?_
 refine wd (does_assign rfl) ?_
 refine wl_nil ?_
 refine wc_seq ?_
 refine wc_cutq [0, 4, 5, 6, 7, 8, 9, 10, 11, 12, 13, 14, 15, 16, 17, 18, 19, 20, 21] (fun fr W => l.find? (fun q => decide (q.1 = n)) = none ∧ St A N w W [] []) ?_ ?_
 ·refine wc_block ?_
  refine wc_loopm (α := List (ByteArray × Int) × Option Addr) [0, 4, 5, 6, 7, 8, 9, 10, 11, 12, 13, 14, 15, 16, 17, 18, 19, 20, 21] (fun x fr W => fr 0 = .pointer x.2 ∧ x.1.find? (fun q => decide (q.1 = n)) = l.find? (fun q => decide (q.1 = n)) ∧ St A N w W [] [fScope x.2 x.1]) (fun x => x.1.length) (l, a) ⟨rfl, rfl, S⟩ ?_
  rintro ⟨l', a'⟩ g u ⟨q0, hf, S⟩
  try dsimp only at q0 hf S
  refine wc_seq (wc_seq (wc_region ?_))
  refine wd (does_mv_p q0) ?_
  refine wd (does_nep0 un_dictum_types_with rfl rfl) ?_
  refine wl_nil ?_
  cases l' with
  | nil =>
   have ha := S.endScope 0
   subst ha
   refine wc_false rfl ?_
   refine wc_exit ?_
   exact ⟨rfl, (((Dif.self _ _ _).upd rfl _).upd rfl _), hf.symm, S.pickZ (by simp)⟩
  | cons q l' =>
   obtain ⟨n', f'⟩ := q
   obtain ⟨p, nx, ha, S⟩ := S.openScope 0
   subst ha
   refine wc_true rfl ?_
   refine wc_skip ?_
   refine wc_seq ?_
   refine wc_block ?_
   refine wc_seq (wc_region ?_)
   refine wd (does_mv_p q0) ?_
   refine wd (does_nilCheck rfl) ?_
   refine wd (does_fieldAddr fl_Scope_name rfl (o' := 0) rfl) ?_
   refine wd (does_load on_string rfl ((S.blkZ 0).cell (Scope.get_name _))) ?_
   refine wd (does_mv_s rfl) ?_
   refine wd (does_eqs rfl rfl) ?_
   refine wl_nil ?_
   refine wc_if rfl (fun hc => ?_) (fun hc => ?_)
   ·refine wc_seq (wc_region ?_)
    refine wd (does_mv_p q0) ?_
    refine wd (does_nilCheck rfl) ?_
    refine wd (does_fieldAddr fl_Scope_form rfl (o' := 1) rfl) ?_
    refine wd (does_load on_int rfl ((S.blkZ 0).cell (Scope.get_form _))) ?_
    refine wd (does_as_i rfl) ?_
    refine wd (does_assign rfl) ?_
    refine wl_nil ?_
    refine wc_ret ?_
    refine ⟨_, (rets2 (retOne_tmp rfl) (retOne_tmp rfl)), ?_⟩
    rw [← hf, List.find?_cons_of_pos (by simpa using hc)]
    exact ⟨_, rfl, (S.pickZ (by simp)).nilE⟩
   ·refine wc_skip ?_
    refine wc_region ?_
    refine wd (does_mv_p q0) ?_
    refine wd (does_nilCheck rfl) ?_
    refine wd (does_fieldAddr fl_Scope_next rfl (o' := 2) rfl) ?_
    refine wd (does_load on_dictum_types_with rfl ((S.blkZ 0).cell (Scope.get_next _))) ?_
    refine wd (does_as_p rfl) ?_
    refine wl_nil ?_
    refine ⟨rfl, ?_, (l', nx), ⟨rfl, ?_, S.zs [1]⟩, by simp⟩
    ·exact (((((((((((((Dif.self _ _ _).upd rfl _).upd rfl _).upd rfl _).upd rfl _).upd rfl _).upd rfl _).upd rfl _).upd rfl _).upd rfl _).upd rfl _).upd rfl _).upd rfl _).upd rfl _
    ·rw [← hf, List.find?_cons_of_neg (by simpa using hc)]
 rintro g u ⟨hn, S⟩
 refine wc_seq (wc_region ?_)
 refine wd (does_build bu_Refusal (Bld.one rfl rfl (by rw [Refusal.len]; decide) (Refusal.set_code _ _) Bld.nil)) ?_
 refine wl_box_agg rfl (by decide) fun b w1 h1 => ?_
 replace S := S.new h1
 refine wd (does_makeInterface rfl) ?_
 refine wd (does_as_i rfl) ?_
 refine wd (does_assign rfl) ?_
 refine wl_nil ?_
 refine wc_ret ?_
 refine ⟨_, (rets2 (retOne_tmp rfl) (retOne_tmp rfl)), ?_⟩
 rw [hn]
 exact ⟨_, rfl, ((S.nil T_int 1 IC).front 1).mkE⟩
-- a slice of numbers, turned round in place
def revI (l : List Int) : Nat → List Int
 | 0 => l
 | i + 1 => ((revI l i).set i (at_ (0 : Int) (revI l i) ((l.length : Int) - 1 - i))).set ((l.length : Int) - 1 - i).toNat (at_ (0 : Int) (revI l i) i)
theorem revI_len (l : List Int) : ∀ i, (revI l i).length = l.length
 | 0 => rfl
 | i + 1 => by simp [revI, revI_len l i]
theorem revI_get (l : List Int) : ∀ (i : Nat), 2 * i ≤ l.length → ∀ j, j < l.length → (revI l i)[j]? = if j < i ∨ l.length - 1 - i < j then l[l.length - 1 - j]? else l[j]?
 | 0, _, j, hj => by
  rw [if_neg (by omega)]; rfl
 | i + 1, hi, j, hj => by
  have ih := revI_get l i (by omega)
  have hl := revI_len l i
  have e1 : ((l.length : Int) - 1 - i).toNat = l.length - 1 - i := by omega
  have g1 : at_ (0 : Int) (revI l i) ((l.length : Int) - 1 - i) = l[l.length - 1 - i]'(by omega) := by
   unfold at_
   rw [e1, List.getD_eq_getElem?_getD, ih _ (by omega), if_neg (by omega), List.getElem?_eq_getElem (by omega)]; rfl
  have g2 : at_ (0 : Int) (revI l i) (i : Int) = l[i]'(by omega) := by
   unfold at_
   rw [Int.toNat_natCast, List.getD_eq_getElem?_getD, ih _ (by omega), if_neg (by omega), List.getElem?_eq_getElem (by omega)]; rfl
  rw [revI, g1, g2, e1, List.getElem?_set, List.getElem?_set]
  simp only [List.length_set, hl]
  by_cases h1 : l.length - 1 - i = j
  ·subst h1
   rw [if_pos rfl, if_pos (by omega), if_pos (by omega), List.getElem?_eq_getElem (by omega)]
   congr 2; omega
  ·rw [if_neg h1]
   by_cases h2 : i = j
   ·subst h2
    rw [if_pos rfl, if_pos (by omega), if_pos (by omega), List.getElem?_eq_getElem (by omega)]
   ·rw [if_neg h2, ih j hj]
    by_cases h3 : j < i ∨ l.length - 1 - i < j
    ·rw [if_pos h3, if_pos (by omega)]
    ·rw [if_neg h3, if_neg (by omega)]
theorem revI_rev (l : List Int) (i : Nat) (h1 : 2 * i ≤ l.length) (h2 : ¬ (i : Int) < (l.length : Int) - 1 - i) : revI l i = l.reverse := by
 refine List.ext_getElem? fun j => ?_
 by_cases hj : j < l.length
 ·rw [revI_get l i h1 j hj, List.getElem?_reverse hj]
  split
  ·rfl
  ·congr 1; omega
 ·rw [List.getElem?_eq_none (by rw [revI_len]; omega), List.getElem?_eq_none (by simp; omega)]
theorem plusAll {L : Nat → Bool} {i : Nat} {l : List Nat} (h : ∀ q, q ∈ l → L q = true) : ∀ q, q ∈ l → plus L i q = true := fun q hq => by
 unfold plus; rw [h q hq]; simp
def slices_Reverse_int_int.f (l : List Int) : Option (List Int) := some l.reverse
theorem slices_Reverse_int_int_st {a0 : List Int} {s_0 : SlV} (S : St A N w w [oS T_int 1 IC s_0 a0] []) {r : List Int} (H : slices_Reverse_int_int.f a0 = some r) :
  Calls PP F_slices_Reverse_int_int #[s_0.v] w fun e w' => ∃ v, e = .returned v ∧ (v = .tuple #[] ∧ St A N w w' [oS T_int 1 IC s_0 r] []) := by
 cases H
 have hlen := S.lenO 0
 refine calls_of_wc (n := 28) fn_slices_Reverse_int_int rfl rfl (by simp) ?_
 refine wc_seq (wc_region ?_)
 refine wd (does_mv_l rfl) ?_
 refine wd (does_lenR sl_L_int rfl (S.rdO 0)) ?_
 refine wd (does_subc rfl rfl (c := (a0.length : Int) - 1) rfl (by omega) (by omega)) ?_
 refine wd (does_as_i rfl) ?_
 refine wd (does_as_i rfl) ?_
 refine wl_nil ?_
 refine wc_cutq [2, 3, 7, 8, 9, 10, 11, 12, 13, 14, 15, 16, 17, 18, 19, 20, 21, 22, 23, 24, 25, 26, 27] (fun fr W => St A N w W [oS T_int 1 IC s_0 a0.reverse] []) ?_ ?_
 ·refine wc_block ?_
  refine wc_loopm (α := Nat) [2, 3, 7, 8, 9, 10, 11, 12, 13, 14, 15, 16, 17, 18, 19, 20, 21, 22, 23, 24, 25, 26, 27] (fun x fr W => fr 2 = .int .i64 (x : Int) ∧ fr 3 = .int .i64 ((a0.length : Int) - 1 - x) ∧ 2 * x ≤ a0.length ∧ St A N w W [oS T_int 1 IC s_0 (revI a0 x)] []) (fun x => a0.length - x) 0 ⟨rfl, by simp; rfl, by omega, S⟩ ?_
  rintro i g u ⟨q2, q3, hi, S⟩
  try dsimp only at q2 q3 hi S
  refine wc_seq (wc_seq (wc_region ?_))
  refine wd (does_mv_i q2) ?_
  refine wd (does_mv_i q3) ?_
  refine wd (does_lt rfl rfl) ?_
  refine wl_nil ?_
  refine wc_if rfl (fun hc => ?_) (fun hc => ?_)
  rotate_left
  ·refine wc_exit ?_
   rw [revI_rev a0 i hi (of_decide_eq_false hc)] at S
   exact ⟨rfl, (((Dif.self _ _ _).upd rfl _).upd rfl _).upd rfl _, S⟩
  have hlt : (i : Int) < (a0.length : Int) - 1 - i := of_decide_eq_true hc
  refine wc_skip ?_
  have hlr := revI_len a0 i
  have hb1 : 0 ≤ (i : Int) ∧ (i : Int) < (revI a0 i).length := by omega
  have hb2 : 0 ≤ (a0.length : Int) - 1 - i ∧ (a0.length : Int) - 1 - i < (revI a0 i).length := by omega
  generalize hcur : revI a0 i = cur at hlr hb1 hb2 S
  generalize hj : (a0.length : Int) - 1 - i = j at hlt hb2 q3
  have hO := S.sl 0
  refine wc_seq ?_
  refine wc_block ?_
  refine wc_draw3 14 ⟨fun L v => Chg s_0.fp u v ∧ (L 13 = false → Ext u v) ∧ (L 13 = true → Own v 0 T_int 1 s_0 ((cur.set (i : Int).toNat (at_ (0 : Int) cur j)).map IC)) ∧ (L 13 = true → ∀ q, q ∈ [6, 7, 10, 11, 12] → L q = true), fun L a c => Chg s_0.fp a c ∧ (L 13 = true → Ext a c), fun k v _ => match k with
   | 0 => v = SlV.v s_0
   | 1 => v = Value.int .i64 (i : Int)
   | 2 => v = SlV.v s_0
   | 3 => v = Value.int .i64 j
   | 4 => v = SlV.v s_0
   | 5 => v = Value.int .i64 j
   | 6 => v = Value.pointer (some ⟨s_0.blk, s_0.off + j.toNat * 1, none⟩)
   | 7 => v = Value.int .i64 (at_ (0 : Int) cur j)
   | 8 => v = SlV.v s_0
   | 9 => v = Value.int .i64 (i : Int)
   | 10 => v = Value.pointer (some ⟨s_0.blk, s_0.off + (i : Int).toNat * 1, none⟩)
   | 11 => v = Value.int .i64 (at_ (0 : Int) cur (i : Int))
   | 12 => v = Value.pointer (some ⟨s_0.blk, s_0.off + (i : Int).toNat * 1, none⟩)
   | _ => True⟩ hmix (by kernel_rfl) (fun _ _ _ _ _ _ _ hv => hv) ⟨(Ext.drawn _).mono (fun _ _ x => x.elim), fun _ => Ext.drawn _, fun h => (by cases h), fun h => (by cases h)⟩ ⟨?_, ?_, ?_, ?_, ?_, ?_, ?_, ?_, ?_, ?_, ?_, ?_, ?_, ?_, trivial⟩ ?_
  ·rintro L g v hL hcl hT 
   refine wd (does_mv_l rfl) (wl_nil (ob2 ⟨hT.1, fun h => hT.2.1 h, fun h => hT.2.2.1 h, fun h => plusAll (hT.2.2.2 h)⟩ ⟨Chg.refl _ _, fun _ => Ext.refl _⟩ rfl))
  ·rintro L g v hL hcl hT 
   refine wd (does_mv_i q2) (wl_nil (ob2 ⟨hT.1, fun h => hT.2.1 h, fun h => hT.2.2.1 h, fun h => plusAll (hT.2.2.2 h)⟩ ⟨Chg.refl _ _, fun _ => Ext.refl _⟩ rfl))
  ·rintro L g v hL hcl hT 
   refine wd (does_mv_l rfl) (wl_nil (ob2 ⟨hT.1, fun h => hT.2.1 h, fun h => hT.2.2.1 h, fun h => plusAll (hT.2.2.2 h)⟩ ⟨Chg.refl _ _, fun _ => Ext.refl _⟩ rfl))
  ·rintro L g v hL hcl hT 
   refine wd (does_mv_i q3) (wl_nil (ob2 ⟨hT.1, fun h => hT.2.1 h, fun h => hT.2.2.1 h, fun h => plusAll (hT.2.2.2 h)⟩ ⟨Chg.refl _ _, fun _ => Ext.refl _⟩ rfl))
  ·rintro L g v hL hcl hT 
   refine wd (does_mv_l rfl) (wl_nil (ob2 ⟨hT.1, fun h => hT.2.1 h, fun h => hT.2.2.1 h, fun h => plusAll (hT.2.2.2 h)⟩ ⟨Chg.refl _ _, fun _ => Ext.refl _⟩ rfl))
  ·rintro L g v hL hcl hT 
   refine wd (does_mv_i q3) (wl_nil (ob2 ⟨hT.1, fun h => hT.2.1 h, fun h => hT.2.2.1 h, fun h => plusAll (hT.2.2.2 h)⟩ ⟨Chg.refl _ _, fun _ => Ext.refl _⟩ rfl))
  ·rintro L g v hL hcl hT hv4 hv5
   have h13 : L 13 = false := (by cases h : L 13 with | false => rfl | true => exact absurd (hT.2.2.2 h 6 (by decide)) (by rw [hL]; decide))
   refine wd (does_indexR sl_L_int hv4 hv5 (hO.ext (hT.2.1 h13)).toRd hb2.1 hb2.2) (wl_nil (ob2 ⟨hT.1, fun h => hT.2.1 h, fun h => hT.2.2.1 h, fun h => plusAll (hT.2.2.2 h)⟩ ⟨Chg.refl _ _, fun _ => Ext.refl _⟩ rfl))
  ·rintro L g v hL hcl hT hv6
   have h13 : L 13 = false := (by cases h : L 13 with | false => rfl | true => exact absurd (hT.2.2.2 h 7 (by decide)) (by rw [hL]; decide))
   refine wd (does_load on_int hv6 ((hO.ext (hT.2.1 h13)).toRd.one (at_some (0 : Int) hb2) rfl)) (wl_nil (ob2 ⟨hT.1, fun h => hT.2.1 h, fun h => hT.2.2.1 h, fun h => plusAll (hT.2.2.2 h)⟩ ⟨Chg.refl _ _, fun _ => Ext.refl _⟩ rfl))
  ·rintro L g v hL hcl hT 
   refine wd (does_mv_l rfl) (wl_nil (ob2 ⟨hT.1, fun h => hT.2.1 h, fun h => hT.2.2.1 h, fun h => plusAll (hT.2.2.2 h)⟩ ⟨Chg.refl _ _, fun _ => Ext.refl _⟩ rfl))
  ·rintro L g v hL hcl hT 
   refine wd (does_mv_i q2) (wl_nil (ob2 ⟨hT.1, fun h => hT.2.1 h, fun h => hT.2.2.1 h, fun h => plusAll (hT.2.2.2 h)⟩ ⟨Chg.refl _ _, fun _ => Ext.refl _⟩ rfl))
  ·rintro L g v hL hcl hT hv8 hv9
   have h13 : L 13 = false := (by cases h : L 13 with | false => rfl | true => exact absurd (hT.2.2.2 h 10 (by decide)) (by rw [hL]; decide))
   refine wd (does_indexR sl_L_int hv8 hv9 (hO.ext (hT.2.1 h13)).toRd hb1.1 hb1.2) (wl_nil (ob2 ⟨hT.1, fun h => hT.2.1 h, fun h => hT.2.2.1 h, fun h => plusAll (hT.2.2.2 h)⟩ ⟨Chg.refl _ _, fun _ => Ext.refl _⟩ rfl))
  ·rintro L g v hL hcl hT hv10
   have h13 : L 13 = false := (by cases h : L 13 with | false => rfl | true => exact absurd (hT.2.2.2 h 11 (by decide)) (by rw [hL]; decide))
   refine wd (does_load on_int hv10 ((hO.ext (hT.2.1 h13)).toRd.one (at_some (0 : Int) hb1) rfl)) (wl_nil (ob2 ⟨hT.1, fun h => hT.2.1 h, fun h => hT.2.2.1 h, fun h => plusAll (hT.2.2.2 h)⟩ ⟨Chg.refl _ _, fun _ => Ext.refl _⟩ rfl))
  ·rintro L g v hL hcl hT hv0 hv1
   have h13 : L 13 = false := (by cases h : L 13 with | false => rfl | true => exact absurd (hT.2.2.2 h 12 (by decide)) (by rw [hL]; decide))
   refine wd (does_indexR sl_L_int hv0 hv1 (hO.ext (hT.2.1 h13)).toRd hb1.1 hb1.2) (wl_nil (ob2 ⟨hT.1, fun h => hT.2.1 h, fun h => hT.2.2.1 h, fun h => plusAll (hT.2.2.2 h)⟩ ⟨Chg.refl _ _, fun _ => Ext.refl _⟩ rfl))
  ·rintro L g v hL hcl hT hv12 hv7
   refine wl_store1 (C := IC) (a := at_ (0 : Int) cur j) on_int hv12 hv7 (hO.ext (hT.2.1 hL)) hb1 rfl rfl fun v' O hc => wl_nil (ob0 ⟨hT.1.trans hc, fun h => (by cases h), fun _ => O, fun _ => plusAll fun q hq => hcl q ?_⟩ ⟨hc, fun h => (by rw [hL] at h; cases h)⟩ (fun _ => trivial))
   simp only [List.mem_cons, List.not_mem_nil, or_false] at hq
   rcases hq with rfl | rfl | rfl | rfl | rfl <;> kernel_rfl
  rintro L g w4 hLm hT hv0 hv1 hv2 hv3 hv4 hv5 hv6 hv7 hv8 hv9 hv10 hv11 hv12 _
  have hlO := S.lenO 0
  replace S : St A N w w4 [oS T_int 1 IC s_0 (cur.set (i : Int).toNat (at_ (0 : Int) cur j))] [] := S.push 0 (hT.2.2.1 (by rw [hLm]; rfl)) (by rw [List.length_set]; exact hlO) hT.1 (fun i hi => .inl hi)
  have hb3 : 0 ≤ j ∧ j < (cur.set (i : Int).toNat (at_ (0 : Int) cur j)).length := by rw [List.length_set]; exact hb2
  refine wd (does_indexR sl_L_int hv2 hv3 (S.rdO 0) hb3.1 hb3.2) ?_
  refine wl_store1 (C := IC) (a := at_ (0 : Int) cur (i : Int)) on_int rfl hv11 (S.sl 0) hb3 rfl rfl fun w5 O hw5 => ?_
  have hlO2 := S.lenO 0
  replace S : St A N w w5 [oS T_int 1 IC s_0 ((cur.set (i : Int).toNat (at_ (0 : Int) cur j)).set j.toNat (at_ (0 : Int) cur (i : Int)))] [] := S.push 0 O (by rw [List.length_set]; exact hlO2) hw5 (fun i hi => .inl hi)
  refine wl_nil ?_
  refine wc_region ?_
  refine wd (does_mv_i q2) ?_
  refine wd (does_addc rfl rfl (c := (i : Int) + 1) rfl (by omega) (by omega)) ?_
  refine wd (does_mv_i q3) ?_
  refine wd (does_subc rfl rfl (c := j - 1) rfl (by omega) (by omega)) ?_
  refine wd (does_as_i rfl) ?_
  refine wd (does_as_i rfl) ?_
  refine wl_nil ?_
  refine ⟨rfl, ?_, i + 1, ⟨?_, ?_, by omega, ?_⟩, by omega⟩
  ·exact (((((((((((Dif.self _ _ _).upd rfl _).upd rfl _).upd rfl _).mask rfl _).upd rfl _).upd rfl _).upd rfl _).upd rfl _).upd rfl _).upd rfl _).upd rfl _
  ·exact congrArg (Value.int .i64) (by omega)
  ·exact congrArg (Value.int .i64) (by omega)
  ·have hr : revI a0 (i + 1) = (cur.set (i : Int).toNat (at_ (0 : Int) cur j)).set j.toNat (at_ (0 : Int) cur (i : Int)) := by
    rw [revI, hcur, hj, Int.toNat_natCast]
   rw [hr]; exact S
 rintro g u S
 exact ⟨_, rets0, rfl, S⟩
mutual
def sizeT : PTerm → Nat
 | .mk _ _ _ _ s => 1 + sizeL s
def sizeL : List PTerm → Nat
 | [] => 0
 | x :: l => sizeT x + sizeL l
end
theorem sizeT_eq (x : PTerm) : sizeT x = 1 + sizeL x.sub := by cases x; simp [sizeT, PTerm.sub]
theorem sizeT_pos (x : PTerm) : 1 ≤ sizeT x := by rw [sizeT_eq]; omega
def term_Size.f (x : PTerm) : Option Int := some (min (sizeT x) 65537 : Nat)
theorem sizeL_take : ∀ {l : List PTerm} {i : Nat} {x : PTerm}, l[i]? = some x → sizeL (l.take (i + 1)) = sizeL (l.take i) + sizeT x
 | [], _, _, h => by simp at h
 | y :: l, 0, x, h => by simp at h; subst h; simp [sizeL]
 | y :: l, i + 1, x, h => by
  have := sizeL_take (l := l) (i := i) (by simpa using h)
  simp only [List.take_succ_cons, sizeL]; omega
theorem sizeL_le : ∀ {l : List PTerm} (i : Nat), sizeL (l.take i) ≤ sizeL l
 | [], i => by simp
 | y :: l, 0 => by simp [sizeL]
 | y :: l, i + 1 => by have := sizeL_le (l := l) i; simp only [List.take_succ_cons, sizeL]; omega
theorem does_lenM {P : Program} {f : Fr} {w : World} {d : Option Tmp} {ty : TypeId} {pos : String} {af : Array Edge} {gd : Option (Nat × Bool)} {ms : List Term} {x : Operand} {t e k : Nat} {s : SlV} (ht : SliceT P t e k) (hx : evF f x = s.v) (h : (fT s ms).on w) : Does P ⟨d, .call ⟨.builtin .len, #[x], #[t]⟩, ty, pos, af, gd⟩ f w (.int .i64 ms.length) w := by
 have := does_lenS (P := P) (f := f) (w := w) (d := d) (ty := ty) (pos := pos) (af := af) (gd := gd) ht hx
 rw [(fT.sl h).len, List.length_map] at this; exact this
def cntV (b3 b4 : Nat) : Value := .func (.func F_term_Size_1) #[] #[.pointer (some ⟨b3, 0, none⟩), .pointer (some ⟨b4, 0, none⟩)]
theorem size_count : ∀ (d : Nat) {A : Nat → Prop} {N : Oth} {w : World} {b3 b4 : Nat} {m : Term} {x : PTerm} {n : Nat}, n ≤ 65536 → St A N w w [oB b3 T_int [.int .i64 (n : Int)]] [oB b4 T_func_api_Term [cntV b3 b4], fTm d m x] →
  Calls PP F_term_Size_1 #[.agg (Term.C m).toArray, .pointer (some ⟨b3, 0, none⟩), .pointer (some ⟨b4, 0, none⟩)] w fun e w' => ∃ v, e = .returned v ∧ (v = .tuple #[] ∧ St A N w w' [oB b3 T_int [.int .i64 ((min (n + sizeT x) 65537 : Nat) : Int)]] [])
 | 0, _, _, _, _, _, _, _, _, _, S => (S.frz 1 rfl).elim fun _ h => h.1.elim
 | d + 1, A, N, w, b3, b4, m, x, n, hn, S => by
  have S1 := S.unandZ 1 (a := OA.pure (m.kind = x.kind ∧ m.name = x.name ∧ m.other = x.other ∧ m.form = x.form)) (b := OA.ex fun (ms : List Term) => (fT m.sub ms).and (bigA (fTm d) ms x.sub)) rfl
  obtain ⟨ms, S2⟩ := S1.unexZ 1 (f := fun (ms : List Term) => (fT m.sub ms).and (bigA (fTm d) ms x.sub)) rfl
  have S3 := S2.unandZ 0 (a := fT m.sub ms) (b := bigA (fTm d) ms x.sub) rfl
  replace S : St A N w w [oB b3 T_int [.int .i64 (n : Int)]] [oB b4 T_func_api_Term [cntV b3 b4], fT m.sub ms, bigA (fTm d) ms x.sub] := S3.zs [5, 0, 1]
  clear S1 S2 S3
  have hl : ms.length = x.sub.length := (S.frz 2 rfl).elim fun _ h => bigA_len h
  have hb := fT.len (S.onZ 1)
  refine calls_of_wc (n := 25) fn_term_Size_1 rfl rfl (by simp) ?_
  refine wc_seq (wc_region ?_)
  refine wl_box_agg rfl (by decide) fun bx w1 h1 => ?_
  replace S := S.new h1
  refine wl_nil ?_
  refine wc_seq (wc_region ?_)
  refine wd (does_load on_int rfl ((S.blk 1).cell rfl)) ?_
  refine wd (does_addc rfl rfl (c := (n : Int) + 1) rfl (by omega) (by omega)) ?_
  refine wl_store on_int rfl rfl (S.blk 1) (by simp) rfl rfl fun w2 B2 hw2 z2 => ?_
  replace S : St A N w w2 [oB b3 T_int [.int .i64 ((n : Int) + 1)], oB bx T_Term (Term.C m)] [oB b4 T_func_api_Term [cntV b3 b4], fT m.sub ms, bigA (fTm d) ms x.sub] := S.store 1 B2 hw2
  clear B2
  refine wl_nil ?_
  refine wc_seq (wc_region ?_)
  refine wd (does_as_i rfl) ?_
  refine wl_nil ?_
  refine wc_cutq [4, 7, 8, 9, 10, 11, 12, 13, 14, 15, 16, 17, 18, 19, 20, 21, 22, 23, 24] (fun fr W => St A N w W [oB b3 T_int [.int .i64 ((min (n + sizeT x) 65537 : Nat) : Int)]] []) ?_ ?_
  ·refine wc_block ?_
   refine wc_loopm (α := Nat × Nat) [4, 7, 8, 9, 10, 11, 12, 13, 14, 15, 16, 17, 18, 19, 20, 21, 22, 23, 24] (fun q fr W => fr 4 = .int .i64 (q.1 : Int) ∧ q.1 ≤ x.sub.length ∧ q.2 = min (n + 1 + sizeL (x.sub.take q.1)) 65537 ∧ St A N w W [oB b3 T_int [.int .i64 (q.2 : Int)], oB bx T_Term (Term.C m)] [oB b4 T_func_api_Term [cntV b3 b4], fT m.sub ms, bigA (fTm d) ms x.sub]) (fun q => x.sub.length - q.1) (0, n + 1) ⟨rfl, Nat.zero_le _, by simp [sizeL]; omega, S⟩ ?_
   rintro ⟨i, c⟩ g u ⟨q4, hi, hcq, S⟩
   try dsimp only at q4 hi hcq S
   refine wc_seq (wc_seq (wc_region ?_))
   refine wd (does_mv_i q4) ?_
   refine wd (does_fieldAddr fl_Term_sub rfl (o' := 4) rfl) ?_
   refine wd (does_load on_L_api_Term rfl ((S.blk 1).cell (Term.get_sub _))) ?_
   refine wd (does_lenM sl_L_api_Term rfl (S.onZ 1)) ?_
   refine wd (does_lt rfl rfl) ?_
   refine wd (does_mv_b rfl) ?_
   refine wl_guard (j := 5) (pol := true) rfl rfl rfl (by decide) (fun hg => does_load on_int rfl ((S.blk 0).cell rfl)) (by decide) ?_
   refine wl_guard (j := 5) (pol := true) rfl rfl rfl (by decide) (fun hg => does_le (gv_yes hg) rfl) (by decide) ?_
   refine wd (does_and rfl (fun hp => (gv_yes (and_1 hp)))) ?_
   refine wl_nil ?_
   refine wc_if rfl (fun hc => ?_) (fun hc => ?_)
   rotate_left
   ·refine wc_exit ?_
    have he : c = min (n + sizeT x) 65537 := by
     have h2 := sizeL_le (l := x.sub) i
     rw [sizeT_eq]
     simp only [Bool.and_eq_false_iff, decide_eq_false_iff_not] at hc
     rcases hc with hc | hc
     ·rw [List.take_of_length_le (by omega)] at hcq; omega
     ·omega
    rw [← he]
    exact ⟨rfl, (((((((((Dif.self _ _ _).upd rfl _).upd rfl _).upd rfl _).upd rfl _).upd rfl _).upd rfl _).upd rfl _).upd rfl _).upd rfl _, S.arr [0] []⟩
   refine wc_skip ?_
   simp only [Bool.and_eq_true, decide_eq_true_eq] at hc
   have hi1 : i < ms.length := by omega
   have hi2 : i < x.sub.length := by omega
   have he1 : ms[i]? = some ms[i] := List.getElem?_eq_getElem hi1
   have he2 : x.sub[i]? = some x.sub[i] := List.getElem?_eq_getElem hi2
   refine wc_seq ?_
   refine wc_block ?_
   refine wc_quiet 6 (Ext u) hmix (by kernel_rfl) (by kernel_rfl) (Ext.drawn _) ?_
   refine wq_does (fun v K => does_load on_func_api_Term rfl (((S.ext K).blkZ 0).cell rfl)) ?_
   refine wq_does (fun v K => does_fieldAddr fl_Term_sub rfl (o' := 4) rfl) ?_
   refine wq_does (fun v K => does_load on_L_api_Term rfl (((S.ext K).blk 1).cell (Term.get_sub _))) ?_
   refine wq_does (fun v K => does_mv_i q4) ?_
   refine wq_does (fun v K => does_indexS sl_L_api_Term rfl rfl (fT.sl ((S.ext K).onZ 1)) (by omega) (by rw [List.length_map]; omega) rfl) ?_
   refine wq_does (fun v K => does_load_agg ag_Term rfl (fT.at ((S.ext K).onZ 1) (show ms[((i : Nat) : Int).toNat]? = some ms[i] by rw [Int.toNat_natCast]; exact he1)) (Term.len _)) ?_
   refine wq_nil fun w3 K => ?_
   replace S := S.ext K
   clear K
   have S' := S.part 2 (a := bigA (fTm d) ms x.sub) (b := fTm d ms[i] x.sub[i]) (fun F h => bigA_at h he1 he2)
   obtain ⟨B, M, SB, back⟩ := S'.calln 1 (.z 1 rfl (.z 0 rfl .nil))
   refine wl_call (does_callv ca_term_Size_1 rfl) (by decide) (size_count d (by omega) SB) ?_
   rintro _ w4 ⟨rfl, S2⟩
   replace S : St A N w w4 [oB b3 T_int [.int .i64 ((min (c + sizeT x.sub[i]) 65537 : Nat) : Int)], oB bx T_Term (Term.C m)] [fTm d ms[i] x.sub[i], oB b4 T_func_api_Term [cntV b3 b4], fT m.sub ms, bigA (fTm d) ms x.sub] := back _ _ _ _ S2 rfl
   clear back S2 SB S'
   refine wl_nil ?_
   refine wc_region ?_
   refine wd (does_mv_i q4) ?_
   refine wd (does_addc rfl rfl (c := (i : Int) + 1) rfl (by omega) (by omega)) ?_
   refine wd (does_as_i rfl) ?_
   refine wl_nil ?_
   refine ⟨rfl, ?_, (i + 1, min (c + sizeT x.sub[i]) 65537), ⟨?_, by omega, ?_, S.zs [1, 2, 3]⟩, by dsimp only; omega⟩
   ·exact (((((((((((((((((((Dif.self _ _ _).upd rfl _).upd rfl _).upd rfl _).upd rfl _).upd rfl _).upd rfl _).upd rfl _).upd rfl _).upd rfl _).upd rfl _).upd rfl _).upd rfl _).upd rfl _).upd rfl _).upd rfl _).upd rfl _).upd rfl _).upd rfl _).upd rfl _
   ·rfl
   ·dsimp only
    rw [sizeL_take he2]; omega
  rintro g u S
  exact ⟨_, rets0, rfl, S⟩
theorem term_Size_st {a0 : PTerm} {s_0 : SlV} (S : St A N w w [] [oDTerm s_0 a0.sub]) {r : Int} (H : term_Size.f a0 = some r) :
  Calls PP F_term_Size #[.agg (Term.C (⟨a0.kind, a0.name, a0.other, a0.form, s_0⟩ : Term)).toArray] w fun e w' => ∃ v, e = .returned v ∧ (v = .int .i64 r ∧ St A N w w' [] []) := by
 cases H
 obtain ⟨d, S⟩ : ∃ d, St A N w w [] [fTm d (mT a0 s_0) a0] := by
  have h1 := S.part 0 (a := oDTerm s_0 a0.sub) (b := fTerm (mT a0 s_0) a0) (fun F q => ⟨F, fTerm_mk q, fun _ q => q⟩)
  obtain ⟨d, h2⟩ := h1.unexZ 0 (f := fun (d : Nat) => fTm d (mT a0 s_0) a0) rfl
  exact ⟨d, h2.zs [0]⟩
 refine calls_of_wc (n := 10) fn_term_Size rfl rfl (by simp) ?_
 refine wc_seq (wc_region ?_)
 refine wl_box_agg rfl (by decide) fun b1 w1 h1 => ?_
 replace S := S.new h1
 refine wd (does_as_i rfl) ?_
 refine wl_nil ?_
 refine wc_seq (wc_region ?_)
 refine wl_alloc ze_int (by decide) fun b3 w2 h2 => ?_
 replace S := S.new h2
 refine wl_store on_int rfl rfl (S.blk 0) (by simp) rfl rfl fun w3 B3 hw3 z3 => ?_
 replace S : St A N w w3 [oB b3 T_int [.int .i64 0], oB b1 T_Term (Term.C (mT a0 s_0))] [fTm d (mT a0 s_0) a0] := S.store 0 B3 hw3
 clear B3
 refine wl_nil ?_
 refine wc_seq (wc_region ?_)
 refine wl_alloc ze_func_api_Term (by decide) fun b4 w4 h4 => ?_
 replace S := S.new h4
 refine wl_nil ?_
 refine wc_seq (wc_region ?_)
 refine wd does_funcl ?_
 refine wl_store on_func_api_Term rfl rfl (S.blk 0) (by simp) rfl rfl fun w5 B5 hw5 z5 => ?_
 replace S : St A N w w5 [oB b4 T_func_api_Term [cntV b3 b4], oB b3 T_int [.int .i64 0], oB b1 T_Term (Term.C (mT a0 s_0))] [fTm d (mT a0 s_0) a0] := S.store 0 B5 hw5
 clear B5
 replace S := S.frzO 0
 replace S : St A N w w5 [oB b3 T_int [.int .i64 ((0 : Nat) : Int)], oB b1 T_Term (Term.C (mT a0 s_0))] [oB b4 T_func_api_Term [cntV b3 b4], fTm d (mT a0 s_0) a0] := S
 refine wl_nil ?_
 refine wc_seq (wc_region ?_)
 refine wd (does_load on_func_api_Term rfl ((S.blkZ 0).cell rfl)) ?_
 refine wd (does_load_agg ag_Term rfl ((S.blk 1).all _ (Term.len _)) (Term.len _)) ?_
 obtain ⟨B, M, SB, back⟩ := S.calln 1 (.z 0 rfl (.z 1 rfl .nil))
 refine wl_call (does_callv ca_term_Size_1 rfl) (by decide) (size_count d (by omega) SB) ?_
 rintro _ w6 ⟨rfl, S2⟩
 replace S : St A N w w6 [oB b3 T_int [.int .i64 ((min (0 + sizeT a0) 65537 : Nat) : Int)], oB b1 T_Term (Term.C (mT a0 s_0))] [oB b4 T_func_api_Term [cntV b3 b4], fTm d (mT a0 s_0) a0] := back _ _ _ _ S2 rfl
 clear back S2 SB
 refine wl_nil ?_
 refine wc_seq (wc_region ?_)
 refine wd (does_load on_int rfl ((S.blk 0).cell rfl)) ?_
 refine wd (does_as_i rfl) ?_
 refine wl_nil ?_
 refine wc_ret ?_
 exact ⟨.int .i64 ((min (0 + sizeT a0) 65537 : Nat) : Int), rets1 (retOne_tmp rfl), congrArg (Value.int .i64) (by rw [Nat.zero_add]), S.arr [] []⟩
end
end Go.Proofs.YtjebgcoknpcadaaDoor
end
section
namespace Go.Proofs.YtjebgcoknpcadaaDoor
open Gw
def term_shape.f (a0 : Int) : Option (Int × Bool × Bool × Bool) :=
 if decide (a0 = 1) then some (0, true, false, true) else if decide (a0 = 2) then some (1, true, false, true) else if decide (a0 = 12) then some (2, true, false, true) else if decide (a0 = 9) then some (3, true, true, true) else (if decide (a0 = 5) then some (decide (a0 = 5)) else if decide (a0 = 6) then some (decide (a0 = 6)) else if decide (a0 = 7) then some (decide (a0 = 7)) else if decide (a0 = 8) then some (decide (a0 = 8)) else if decide (a0 = 10) then some (decide (a0 = 10)) else some (decide (a0 = 11))).bind fun (o5 : Bool) => if o5 then some (1, false, false, true) else if decide (a0 = 3) then if decide (a0 = 3) then some (2, false, false, true) else some (0, false, false, false) else if decide (a0 = 4) then some (2, false, false, true) else some (0, false, false, false)
def term_named.f (a0 : ByteArray) (a1 : Bool) : Option Bool :=
 if !a1 then some (decide (a0 = (⟨#[]⟩ : ByteArray))) else (formula_Word.f a0).bind fun r2 => some r2
def ref12_parts.f (a0 : Int) : Option Int :=
 if decide (a0 = 1) then some 0 else (if decide (a0 = 2) then some (decide (a0 = 2)) else if decide (a0 = 5) then some (decide (a0 = 5)) else if decide (a0 = 6) then some (decide (a0 = 6)) else if decide (a0 = 7) then some (decide (a0 = 7)) else if decide (a0 = 8) then some (decide (a0 = 8)) else if decide (a0 = 10) then some (decide (a0 = 10)) else some (decide (a0 = 11))).bind fun (o2 : Bool) => if o2 then some 1 else if decide (a0 = 3) then if decide (a0 = 3) then some 2 else if decide (a0 = 9) then some 3 else some (-1) else if decide (a0 = 4) then if decide (a0 = 4) then some 2 else if decide (a0 = 9) then some 3 else some (-1) else if decide (a0 = 12) then some 2 else if decide (a0 = 9) then some 3 else some (-1)
def term_deep.b0 (a0 : PTerm) (a1 : Int) (rec_term_deep : PTerm → Int → Option Int) (x4_0 : Int) (x4_1 : Int) : Option (Stp (Int × Int) Int) :=
 if (decide (x4_1 < (a0.sub.length : Int))) && (decide (x4_0 < IntKind.i64.wrap (a1 - 1))) then chk (inb x4_1 a0.sub.length) ((rec_term_deep (at_ PTerm.z a0.sub x4_1) (IntKind.i64.wrap (a1 - 1))).bind fun r9 => some (.go ((if x4_0 < r9 then r9 else x4_0), IntKind.i64.wrap (x4_1 + 1)))) else some (.brk (x4_0, x4_1))
def term_deep.g (rec_term_deep : PTerm → Int → Option Int) (k : Nat) (a0 : PTerm) (a1 : Int) : Option Int :=
 if decide (a1 ≤ 1) then some a1 else (iter (fun s => term_deep.b0 a0 a1 rec_term_deep s.1 s.2) k (0, 0)).bind (aft fun (s4 : Int × Int) => some (IntKind.i64.wrap (s4.1 + 1)))
def term_deep.f : Nat → PTerm → Int → Option Int
 | 0 => fun _ _ => none
 | k + 1 => term_deep.g (term_deep.f k) k
def term_Deep.f (k : Nat) (a0 : PTerm) : Option Int :=
 (term_deep.f k a0 1025).bind fun r3 => some r3
def ref12_size.b0 (a0 : PTerm) (rec_ref12_size : PTerm → Int → Option Int) (x3_0 : Int) (x3_1 : Int) : Option (Stp (Int × Int) Int) :=
 if (decide (x3_1 < (a0.sub.length : Int))) && (decide (x3_0 ≤ 65536)) then chk (inb x3_1 a0.sub.length) ((rec_ref12_size (at_ PTerm.z a0.sub x3_1) x3_0).bind fun r8 => some (.go (r8, IntKind.i64.wrap (x3_1 + 1)))) else some (.brk (x3_0, x3_1))
def ref12_size.g (rec_ref12_size : PTerm → Int → Option Int) (k : Nat) (a0 : PTerm) (a1 : Int) : Option Int :=
 (iter (fun s => ref12_size.b0 a0 rec_ref12_size s.1 s.2) k (IntKind.i64.wrap (a1 + 1), 0)).bind (aft fun (s3 : Int × Int) => some s3.1)
def ref12_size.f : Nat → PTerm → Int → Option Int
 | 0 => fun _ _ => none
 | k + 1 => ref12_size.g (ref12_size.f k) k
def ref12_Size.f (k : Nat) (a0 : PTerm) : Option Int :=
 (ref12_size.f k a0 0).bind fun r3 => some r3
def ref12_deep.b0 (a0 : PTerm) (rec_ref12_deep : PTerm → Int → Option Int) (a1 : Int) (x4_0 : Int) (x4_1 : Int) : Option (Stp (Int × Int) Int) :=
 if (decide (x4_1 < (a0.sub.length : Int))) && (decide (x4_0 ≤ 1024)) then chk (inb x4_1 a0.sub.length) ((rec_ref12_deep (at_ PTerm.z a0.sub x4_1) (IntKind.i64.wrap (a1 + 1))).bind fun r9 => some (.go ((if x4_0 < r9 then r9 else x4_0), IntKind.i64.wrap (x4_1 + 1)))) else some (.brk (x4_0, x4_1))
def ref12_deep.g (rec_ref12_deep : PTerm → Int → Option Int) (k : Nat) (a0 : PTerm) (a1 : Int) : Option Int :=
 if decide (1024 < a1) then some a1 else (iter (fun s => ref12_deep.b0 a0 rec_ref12_deep a1 s.1 s.2) k (a1, 0)).bind (aft fun (s4 : Int × Int) => some s4.1)
def ref12_deep.f : Nat → PTerm → Int → Option Int
 | 0 => fun _ _ => none
 | k + 1 => ref12_deep.g (ref12_deep.f k) k
def ref12_Deep.f (k : Nat) (a0 : PTerm) : Option Int :=
 (ref12_deep.f k a0 1).bind fun r3 => some r3
end Go.Proofs.YtjebgcoknpcadaaDoor
end
section
namespace Go.Proofs.YtjebgcoknpcadaaDoor
open Gw
def term_right_1.g (rec_term_right : PTerm → Option Bool) (a0 : PTerm) : Option Bool :=
 (rec_term_right a0).bind fun r3 => some (!r3)
def slices_IndexFunc_api_Term_api_Term__term_right_1.b0 (rec_term_right : PTerm → Option Bool) (a0 : List PTerm) (i1 : Int) : Option (Stp Unit Int) :=
 (term_right_1.g rec_term_right (at_ PTerm.z a0 i1)).bind fun r6 => if r6 then some (.ret i1) else some (.go ())
def slices_IndexFunc_api_Term_api_Term__term_right_1.g (rec_term_right : PTerm → Option Bool) (a0 : List PTerm) : Option Int :=
 (forN (fun i s => slices_IndexFunc_api_Term_api_Term__term_right_1.b0 rec_term_right a0 i) ((a0.length : Int) - 0).toNat 0 ()).bind (aft fun (s1 : Unit) => some (-1))
def slices_ContainsFunc_api_Term_api_Term__term_right_1.g (rec_term_right : PTerm → Option Bool) (a0 : List PTerm) : Option Bool :=
 (slices_IndexFunc_api_Term_api_Term__term_right_1.g rec_term_right a0).bind fun r1 => some (decide (0 ≤ r1))
def term_right.g (rec_term_right : PTerm → Option Bool) (a0 : PTerm) : Option Bool :=
 (term_shape.f a0.kind).bind fun r3 => (if (!((!r3.2.2.2) || (decide ((a0.sub.length : Int) ≠ r3.1)))) then term_named.f a0.name r3.2.1 else some false).bind fun r6 => (if (!(((!r3.2.2.2) || (decide ((a0.sub.length : Int) ≠ r3.1))) || (!r6))) then term_named.f a0.other r3.2.2.1 else some false).bind fun r8 => if (((!r3.2.2.2) || (decide ((a0.sub.length : Int) ≠ r3.1))) || (!r6)) || (!r8) then some false else if (((decide (a0.kind ≠ 11)) && (decide (a0.form ≠ 0))) || (decide (a0.form < 0))) || (decide (1024 ≤ a0.form)) then some false else (slices_ContainsFunc_api_Term_api_Term__term_right_1.g rec_term_right a0.sub).bind fun r12 => some (!r12)
def term_right.f : Nat → PTerm → Option Bool
 | 0 => fun _ => none
 | k + 1 => term_right.g (term_right.f k)
def term_Check.f (k : Nat) (a0 : PTerm) : Option Int :=
 (term_Size.f a0).bind fun r3 => (if (!(decide (65536 < r3))) then term_Deep.f k a0 else some 0).bind fun r6 => if (decide (65536 < r3)) || (decide (1024 < r6)) then some 121 else (term_right.f k a0).bind fun r9 => if !r9 then some 120 else some 0
def ref12_right.b0 (a0 : PTerm) (rec_ref12_right : PTerm → Option Bool) (x13_0 : Int) : Option (Stp Int Bool) :=
 if decide (x13_0 < (a0.sub.length : Int)) then chk (inb x13_0 a0.sub.length) ((rec_ref12_right (at_ PTerm.z a0.sub x13_0)).bind fun r18 => if !r18 then some (.ret false) else some (.go (IntKind.i64.wrap (x13_0 + 1)))) else some (.brk x13_0)
def ref12_right.g (rec_ref12_right : PTerm → Option Bool) (k : Nat) (a0 : PTerm) : Option Bool :=
 (ref12_parts.f a0.kind).bind fun r3 => if decide (r3 ≠ (a0.sub.length : Int)) then some false else (if ((((decide (a0.kind = 1)) || (decide (a0.kind = 2))) || (decide (a0.kind = 9))) || (decide (a0.kind = 12))) then ref03_Word.f a0.name else some false).bind fun r6 => if (((((decide (a0.kind = 1)) || (decide (a0.kind = 2))) || (decide (a0.kind = 9))) || (decide (a0.kind = 12))) && (!r6)) || ((!((((decide (a0.kind = 1)) || (decide (a0.kind = 2))) || (decide (a0.kind = 9))) || (decide (a0.kind = 12)))) && (decide (a0.name ≠ (⟨#[]⟩ : ByteArray)))) then some false else (if (decide (a0.kind = 9)) then ref03_Word.f a0.other else some false).bind fun r9 => if ((decide (a0.kind = 9)) && (!r9)) || ((decide (a0.kind ≠ 9)) && (decide (a0.other ≠ (⟨#[]⟩ : ByteArray)))) then some false else if ((decide (a0.kind = 11)) && ((decide (a0.form < 0)) || (decide (1024 ≤ a0.form)))) || ((decide (a0.kind ≠ 11)) && (decide (a0.form ≠ 0))) then some false else (iter (fun s => ref12_right.b0 a0 rec_ref12_right s) k 0).bind (aft fun (s13 : Int) => some true)
def ref12_right.f : Nat → PTerm → Option Bool
 | 0 => fun _ => none
 | k + 1 => ref12_right.g (ref12_right.f k) k
def ref12_Check.f (k : Nat) (a0 : PTerm) : Option Int :=
 (ref12_Size.f k a0).bind fun r3 => (if (!(decide (65536 < r3))) then ref12_Deep.f k a0 else some 0).bind fun r6 => if (decide (65536 < r3)) || (decide (1024 < r6)) then some 121 else (ref12_right.f k a0).bind fun r9 => if !r9 then some 120 else some 0
end Go.Proofs.YtjebgcoknpcadaaDoor
end
section
namespace Go.Proofs.YtjebgcoknpcadaaDoor
open Gw
def types_at.f (a0 : Int) (a1 : Option (Int × List Int)) : Option (Option (Int × List Int)) :=
 match a1 with
 | none => some none
 | some (c0, up0) => chk (decide ((up0.length + 1) * 8 ≤ 140737488355328)) (some (some (c0, up0 ++ [a0])))
def types_code.f (a0 : Option (Int × List Int)) : Option (List Int × Int) :=
 match a0 with
 | none => some (([] : List Int), 0)
 | some (c0, up0) => (slices_Reverse_int_int.f up0).bind fun r9 => some (r9, c0)
end Go.Proofs.YtjebgcoknpcadaaDoor
end
section
namespace Go.Proofs.YtjebgcoknpcadaaDoor
open Gw
def types_checker_node.f (a0 : PChecker) (a1 : Int) (a2 : Int) : Option (Nd × (Option (Int × List Int))) :=
 (formula_Table_Node.f a0.t a1).bind fun r5 => if decide (r5.1.kind ≠ a2) then some (r5.1, (some (130, ([] : List Int)))) else some (r5.1, none)
def types_checker_part.g (rec_types_checker_told : PChecker → PTerm → (List (ByteArray × Int)) → Option (Int × (Option (Int × List Int)))) (a0 : PChecker) (a1 : PTerm) (a2 : Int) (a3 : List (ByteArray × Int)) : Option (Int × (Option (Int × List Int))) :=
 chk (inb a2 a1.sub.length) ((rec_types_checker_told a0 (at_ PTerm.z a1.sub a2) a3).bind fun r16 => (types_at.f a2 r16.2).bind fun r22 => some (r16.1, r22))
def types_checker_check.g (rec_types_checker_checked : PChecker → PTerm → (List (ByteArray × Int)) → Int → Option (Option (Int × List Int))) (a0 : PChecker) (a1 : PTerm) (a2 : Int) (a3 : List (ByteArray × Int)) (a4 : Int) : Option (Option (Int × List Int)) :=
 chk (inb a2 a1.sub.length) ((rec_types_checker_checked a0 (at_ PTerm.z a1.sub a2) a3 a4).bind fun r8 => (types_at.f a2 r8).bind fun r12 => some r12)
def types_checker_head.g (rec_types_checker_told : PChecker → PTerm → (List (ByteArray × Int)) → Option (Int × (Option (Int × List Int)))) (a0 : PChecker) (a1 : PTerm) (a2 : List (ByteArray × Int)) (a3 : Int) : Option (Nd × (Option (Int × List Int))) :=
 (types_checker_part.g rec_types_checker_told a0 a1 0 a2).bind fun r7 => if r7.2.isSome then some (Nd.z, r7.2) else (types_checker_node.f a0 r7.1 a3).bind fun r13 => some (r13.1, r13.2)
def types_checker_told.g (rec_types_checker_told : PChecker → PTerm → (List (ByteArray × Int)) → Option (Int × (Option (Int × List Int)))) (rec_types_checker_checked : PChecker → PTerm → (List (ByteArray × Int)) → Int → Option (Option (Int × List Int))) (a0 : PChecker) (a1 : PTerm) (a2 : List (ByteArray × Int)) : Option (Int × (Option (Int × List Int))) :=
 if decide (a1.kind = 1) then (types_scope_find.f a2 a1.name).bind fun r6 => some (r6.1, r6.2) else if decide (a1.kind = 3) then (types_checker_head.g rec_types_checker_told a0 a1 a2 5).bind fun r11 => if r11.2.isSome then some (0, r11.2) else (types_checker_check.g rec_types_checker_checked a0 a1 1 a2 r11.1.l).bind fun r19 => some (r11.1.r, r19) else if decide (a1.kind = 5) then (types_checker_head.g rec_types_checker_told a0 a1 a2 3).bind fun r24 => some (r24.1.l, r24.2) else if decide (a1.kind = 6) then (types_checker_head.g rec_types_checker_told a0 a1 a2 3).bind fun r32 => some (r32.1.r, r32.2) else if decide (a1.kind = 11) then (formula_Table_Node.f a0.t a1.form).bind fun r40 => if !r40.2 then some (0, (some (31, ([] : List Int)))) else (types_checker_check.g rec_types_checker_checked a0 a1 0 a2 a1.form).bind fun r49 => some (a1.form, r49) else if decide (a1.kind = 12) then (types_checker_part.g rec_types_checker_told a0 a1 0 a2).bind fun r54 => if r54.2.isSome then some (0, r54.2) else (types_checker_part.g rec_types_checker_told a0 a1 1 ((a1.name, r54.1) :: a2)).bind fun r66 => some (r66.1, r66.2) else if decide (a1.kind = 9) then (types_checker_head.g rec_types_checker_told a0 a1 a2 4).bind fun r73 => if r73.2.isSome then some (0, r73.2) else (types_checker_part.g rec_types_checker_told a0 a1 1 ((a1.name, r73.1.l) :: a2)).bind fun r88 => if r88.2.isSome then some (0, r88.2) else (types_checker_part.g rec_types_checker_told a0 a1 2 ((a1.other, r73.1.r) :: a2)).bind fun r102 => if r102.2.isNone && (decide (r102.1 ≠ r88.1)) then some (r88.1, (some (130, ([] : List Int)))) else some (r88.1, r102.2) else some (0, (some (132, ([] : List Int))))
def types_checker_checked.g (rec_types_checker_told : PChecker → PTerm → (List (ByteArray × Int)) → Option (Int × (Option (Int × List Int)))) (rec_types_checker_checked : PChecker → PTerm → (List (ByteArray × Int)) → Int → Option (Option (Int × List Int))) (a0 : PChecker) (a1 : PTerm) (a2 : List (ByteArray × Int)) (a3 : Int) : Option (Option (Int × List Int)) :=
 if decide (a1.kind = 2) then (types_checker_node.f a0 a3 5).bind fun r6 => if r6.2.isSome then some r6.2 else (types_checker_check.g rec_types_checker_checked a0 a1 0 ((a1.name, r6.1.l) :: a2) r6.1.r).bind fun r17 => some r17 else if decide (a1.kind = 4) then (types_checker_node.f a0 a3 3).bind fun r22 => if r22.2.isSome then some r22.2 else (types_checker_check.g rec_types_checker_checked a0 a1 0 a2 r22.1.l).bind fun r30 => if r30.isSome then some r30 else (types_checker_check.g rec_types_checker_checked a0 a1 1 a2 r22.1.r).bind fun r35 => some r35 else (if decide (a1.kind = 7) then some (decide (a1.kind = 7)) else some (decide (a1.kind = 8))).bind fun (o39 : Bool) => if o39 then (types_checker_node.f a0 a3 4).bind fun r44 => if r44.2.isSome then some r44.2 else if decide (a1.kind = 7) then (types_checker_check.g rec_types_checker_checked a0 a1 0 a2 r44.1.l).bind fun r53 => some r53 else (types_checker_check.g rec_types_checker_checked a0 a1 0 a2 r44.1.r).bind fun r57 => some r57 else if decide (a1.kind = 9) then (types_checker_head.g rec_types_checker_told a0 a1 a2 4).bind fun r62 => if r62.2.isSome then some r62.2 else (types_checker_check.g rec_types_checker_checked a0 a1 1 ((a1.name, r62.1.l) :: a2) a3).bind fun r73 => if r73.isSome then some r73 else (types_checker_check.g rec_types_checker_checked a0 a1 2 ((a1.other, r62.1.r) :: a2) a3).bind fun r81 => some r81 else if decide (a1.kind = 10) then (types_checker_head.g rec_types_checker_told a0 a1 a2 2).bind fun r86 => some r86.2 else if decide (a1.kind = 12) then (types_checker_part.g rec_types_checker_told a0 a1 0 a2).bind fun r94 => if r94.2.isSome then some r94.2 else (types_checker_check.g rec_types_checker_checked a0 a1 1 ((a1.name, r94.1) :: a2) a3).bind fun r102 => some r102 else (rec_types_checker_told a0 a1 a2).bind fun r106 => if r106.2.isNone && (decide (r106.1 ≠ a3)) then some (some (130, ([] : List Int))) else some r106.2
def types_tc.p : Nat → (PChecker → PTerm → (List (ByteArray × Int)) → Option (Int × (Option (Int × List Int)))) × (PChecker → PTerm → (List (ByteArray × Int)) → Int → Option (Option (Int × List Int)))
 | 0 => (fun _ _ _ => none, fun _ _ _ _ => none)
 | k + 1 => (types_checker_told.g (types_tc.p k).1 (types_tc.p k).2, types_checker_checked.g (types_tc.p k).1 (types_tc.p k).2)
def types_checker_told.f (k : Nat) : PChecker → PTerm → (List (ByteArray × Int)) → Option (Int × (Option (Int × List Int))) := (types_tc.p k).1
def types_checker_checked.f (k : Nat) : PChecker → PTerm → (List (ByteArray × Int)) → Int → Option (Option (Int × List Int)) := (types_tc.p k).2
def types_ahead.b0 (a1 : List Hyp) (i7 : Int) (x7_0 : List Int) (x7_1 : List (ByteArray × Int)) : Option (List Int × (List (ByteArray × Int))) :=
 chk (decide ((x7_0.length + ([(at_ Hyp.z a1 i7).form]).length) * 8 ≤ 140737488355328)) ((types_scope_with.f x7_1 ((at_ Hyp.z a1 i7).name) ((at_ Hyp.z a1 i7).form)).bind fun r25 => some (x7_0 ++ [(at_ Hyp.z a1 i7).form], r25))
def types_ahead.b1 (a0 : Tb) (o7 : List Int × (List (ByteArray × Int))) (i31 : Int) : Option (Stp Unit ((List (ByteArray × Int)) × Int)) :=
 (formula_Table_Node.f a0 (at_ (0 : Int) o7.1 i31)).bind fun r34 => if !r34.2 then some (.ret (([] : List (ByteArray × Int)), 31)) else some (.go ())
def types_ahead.f (k : Nat) (a0 : Tb) (a1 : List Hyp) (a2 : PTerm) (a3 : List Int) : Option ((List (ByteArray × Int)) × Int) :=
 (formula_Table_Not_neg.f a0 (-1)).bind fun r3 => if decide (r3.2 = 1) then some (([] : List (ByteArray × Int)), r3.2) else (forS (fun i s => types_ahead.b0 a1 i s.1 s.2) ((a1.length : Int) - 0).toNat 0 (a3, ([] : List (ByteArray × Int)))).bind fun (o7 : List Int × (List (ByteArray × Int))) => (forN (fun i s => types_ahead.b1 a0 o7 i) ((o7.1.length : Int) - 0).toNat 0 ()).bind (aft fun (s31 : Unit) => (term_Check.f k a2).bind fun r43 => some (o7.2, r43))
def types_Where.f (k : Nat) (a0 : Tb) (a1 : List Hyp) (a2 : PTerm) (a3 : Int) : Option (List Int × Int) :=
 (types_ahead.f k a0 a1 a2 ([a3])).bind fun r6 => if decide (r6.2 ≠ 0) then some (([] : List Int), r6.2) else (types_checker_checked.f k (⟨a0⟩ : PChecker) a2 r6.1 a3).bind fun r11 => (types_code.f r11).bind fun r15 => some (r15.1, r15.2)
def types_Check.f (k : Nat) (a0 : Tb) (a1 : List Hyp) (a2 : PTerm) (a3 : Int) : Option Int :=
 (types_Where.f k a0 a1 a2 a3).bind fun r3 => some r3.2
def types_Infer.f (k : Nat) (a0 : Tb) (a1 : List Hyp) (a2 : PTerm) : Option (Int × Int) :=
 (types_ahead.f k a0 a1 a2 ([] : List Int)).bind fun r3 => if decide (r3.2 ≠ 0) then some (0, r3.2) else (types_checker_told.f k (⟨a0⟩ : PChecker) a2 r3.1).bind fun r8 => (types_code.f r8.2).bind fun r12 => if decide (r12.2 ≠ 0) then some (0, r12.2) else some (r8.1, 0)
end Go.Proofs.YtjebgcoknpcadaaDoor
end
section
namespace Go.Proofs.YtjebgcoknpcadaaDoor
open Gw
def formula_From.b0 (a0 : List Nd) (i5 : Int) (x5_0 : Tb) : Option (Stp Tb (Tb × Int)) :=
 (formula_Table_Put.f x5_0 (at_ Nd.z a0 i5)).bind fun r11 => if (decide (r11.2.2 = 0)) && (decide (r11.2.1 ≠ i5)) then if decide (31 ≠ 0) then some (.ret (none, 31)) else some (.go r11.1) else if decide (r11.2.2 ≠ 0) then some (.ret (none, r11.2.2)) else some (.go r11.1)
def formula_From.f (a0 : List Nd) : Option (Tb × Int) :=
 (formula_New.f).bind fun r1 => (forN (fun i s => formula_From.b0 a0 i s) ((a0.length : Int) - 0).toNat 0 r1).bind (aft fun (s5 : Tb) => some (s5, 0))
def ref03_Ints.b0 (a1 : List Int) (a0 : List Int) (i2 : Int) : Option (Stp Unit Bool) :=
 chk (inb i2 a1.length) (if decide (at_ (0 : Int) a0 i2 ≠ at_ (0 : Int) a1 i2) then some (.ret false) else some (.go ()))
def ref03_Ints.f (a0 : List Int) (a1 : List Int) : Option Bool :=
 if decide ((a0.length : Int) ≠ (a1.length : Int)) then some false else (forN (fun i s => ref03_Ints.b0 a1 a0 i) ((a0.length : Int) - 0).toNat 0 ()).bind (aft fun (s2 : Unit) => some true)
def ref03_Same.b0 (a1 : List Nd) (a0 : List Nd) (i2 : Int) : Option (Stp Unit Bool) :=
 chk (inb i2 a1.length) (if !decide (at_ Nd.z a0 i2 = at_ Nd.z a1 i2) then some (.ret false) else some (.go ()))
def ref03_Same.f (a0 : List Nd) (a1 : List Nd) : Option Bool :=
 if decide ((a0.length : Int) ≠ (a1.length : Int)) then some false else (forN (fun i s => ref03_Same.b0 a1 a0 i) ((a0.length : Int) - 0).toNat 0 ()).bind (aft fun (s2 : Unit) => some true)
def ref03_T_Has.f (a0 : Tb) (a1 : Int) : Option Bool :=
 chk a0.isSome (some ((decide (0 ≤ a1)) && (decide (a1 < ((a0.getD []).length : Int)))))
def ref03_T_Find.b0 (a0 : Tb) (a1 : Nd) (i4 : Int) : Option (Stp Unit (Int × Bool)) :=
 if decide (at_ Nd.z (a0.getD []) i4 = a1) then some (.ret (i4, true)) else some (.go ())
def ref03_T_Find.f (a0 : Tb) (a1 : Nd) : Option (Int × Bool) :=
 chk a0.isSome ((forN (fun i s => ref03_T_Find.b0 a0 a1 i) (((a0.getD []).length : Int) - 0).toNat 0 ()).bind (aft fun (s4 : Unit) => some (0, false)))
def ref03_T_Put.f (a0 : Tb) (a1 : Nd) : Option (Tb × Int × Int) :=
 (if decide (a1.kind = 1) then if (decide (a1.l ≠ 0)) || (decide (a1.r ≠ 0)) then some (.inr (a0, 0, 31)) else (ref03_Word.f a1.name).bind fun r6 => if !r6 then some (.inr (a0, 0, 32)) else some (.inl a0) else if decide (a1.kind = 2) then if ((decide (a1.name ≠ (⟨#[]⟩ : ByteArray))) || (decide (a1.l ≠ 0))) || (decide (a1.r ≠ 0)) then some (.inr (a0, 0, 31)) else some (.inl a0) else (if decide (a1.kind = 3) then some (decide (a1.kind = 3)) else if decide (a1.kind = 4) then some (decide (a1.kind = 4)) else some (decide (a1.kind = 5))).bind fun (o12 : Bool) => if o12 then (if (!(decide (a1.name ≠ (⟨#[]⟩ : ByteArray)))) then ref03_T_Has.f a0 a1.l else some false).bind fun r18 => (if (!((decide (a1.name ≠ (⟨#[]⟩ : ByteArray))) || (!r18))) then ref03_T_Has.f a0 a1.r else some false).bind fun r20 => if ((decide (a1.name ≠ (⟨#[]⟩ : ByteArray))) || (!r18)) || (!r20) then some (.inr (a0, 0, 31)) else some (.inl a0) else some (.inr (a0, 0, 31))).bind (aft fun (s3 : Tb) => (ref03_T_Find.f s3 a1).bind fun r25 => if r25.2 then some (s3, r25.1, 0) else chk s3.isSome (if decide (1024 ≤ ((s3.getD []).length : Int)) then some ((some (s3.getD [])), 0, 30) else chk (decide (((s3.getD []).length + 1) * 40 ≤ 140737488355328)) (some ((some ((s3.getD []) ++ [a1])), IntKind.i64.wrap ((((s3.getD []) ++ [a1]).length : Int) - 1), 0))))
def ref03_From.b0 (a0 : List Nd) (i3 : Int) (x3_0 : Tb) : Option (Stp Tb (Tb × Int)) :=
 (ref03_T_Put.f x3_0 (at_ Nd.z a0 i3)).bind fun r6 => if decide (r6.2.2 ≠ 0) then some (.ret (none, r6.2.2)) else if decide (r6.2.1 ≠ i3) then some (.ret (none, 31)) else some (.go r6.1)
def ref03_From.f (a0 : List Nd) : Option (Tb × Int) :=
 (forN (fun i s => ref03_From.b0 a0 i s) ((a0.length : Int) - 0).toNat 0 (some [])).bind (aft fun (s3 : Tb) => some (s3, 0))
def law03_Like.f (a0 : Tb) (a1 : Tb) : Option Bool :=
 chk a1.isSome ((formula_Table_Rows.f a0).bind fun r13 => (ref03_Same.f r13 (a1.getD [])).bind fun r17 => (if r17 then formula_Table_Len.f a0 else some 0).bind fun r20 => some (r17 && (decide (r20 = ((a1.getD []).length : Int)))))
def law03_Both.f (a0 : List Nd) : Option (Tb × Tb × Bool) :=
 chk (decide ((([] : List Nd).length + a0.length) * 40 ≤ 140737488355328)) ((ref03_From.f a0).bind fun r7 => if decide (r7.2 ≠ 0) then some (none, none, false) else (formula_From.f (([] : List Nd) ++ a0)).bind fun r12 => some (r12.1, r7.1, true))
end Go.Proofs.YtjebgcoknpcadaaDoor
end
section
namespace Go.Proofs.YtjebgcoknpcadaaDoor
open Gw
def law13_v.f (a0 : ByteArray) : Option PTerm :=
 some (⟨1, a0, ByteArray.empty, 0, []⟩ : PTerm)
def law13_heads.f (k : Nat)  : Option Bool :=
 (formula_From.f ([{ Nd.z with kind := 1, name := (⟨#[112]⟩ : ByteArray) }, { Nd.z with kind := 1, name := (⟨#[113]⟩ : ByteArray) }, { Nd.z with kind := 3, l := 0, r := 1 }, { Nd.z with kind := 5, l := 2, r := 0 }, { Nd.z with kind := 2 }])).bind fun r4 => (law13_v.f (⟨#[120]⟩ : ByteArray)).bind fun r8 => (law13_v.f (⟨#[120]⟩ : ByteArray)).bind fun r18 => (types_Check.f k r4.1 ([]) (⟨2, (⟨#[120]⟩ : ByteArray), ByteArray.empty, 0, [(⟨5, ByteArray.empty, ByteArray.empty, 0, [r8]⟩ : PTerm)]⟩ : PTerm) 3).bind fun r31 => (types_Where.f k r4.1 ([]) (⟨2, (⟨#[120]⟩ : ByteArray), ByteArray.empty, 0, [(⟨6, ByteArray.empty, ByteArray.empty, 0, [r18]⟩ : PTerm)]⟩ : PTerm) 3).bind fun r37 => (types_Infer.f k r4.1 ([(⟨(⟨#[120]⟩ : ByteArray), 2⟩ : Hyp)]) (⟨6, ByteArray.empty, ByteArray.empty, 0, [r18]⟩ : PTerm)).bind fun r44 => (law13_v.f (⟨#[121]⟩ : ByteArray)).bind fun r47 => (types_Infer.f k r4.1 ([]) r47).bind fun r51 => (law13_v.f (⟨#[120]⟩ : ByteArray)).bind fun r54 => (types_Infer.f k r4.1 ([]) (⟨2, (⟨#[120]⟩ : ByteArray), ByteArray.empty, 0, [r54]⟩ : PTerm)).bind fun r61 => (law13_v.f (⟨#[120]⟩ : ByteArray)).bind fun r67 => (types_Check.f k r4.1 ([(⟨(⟨#[120]⟩ : ByteArray), 4⟩ : Hyp)]) (⟨10, ByteArray.empty, ByteArray.empty, 0, [r67]⟩ : PTerm) 1).bind fun r74 => chk (((decide (r4.2 = 0)) && (decide (r31 = 0))) && (decide (r37.2 = 130))) ((if (((decide (r4.2 = 0)) && (decide (r31 = 0))) && (decide (r37.2 = 130))) then ref03_Ints.f r37.1 ([0]) else some false).bind fun r81 => some (((((((((decide (r4.2 = 0)) && (decide (r31 = 0))) && (decide (r37.2 = 130))) && r81) && (decide (r44.1 = 1))) && (decide (r44.2 = 0))) && (decide (r51.2 = 131))) && (decide (r61.2 = 132))) && (decide (r74 = 0))))
end Go.Proofs.YtjebgcoknpcadaaDoor
end
section
namespace Go.Proofs.YtjebgcoknpcadaaDoor
open Gw
def ref13_C_refuse.f (a0 : PC) (a1 : Int) : Option (PC × Int × Int) :=
 chk (decide ((([] : List Int).length + a0.way.length) * 8 ≤ 140737488355328)) (some ((⟨a0.t, a0.hyps, a0.way, ([] : List Int) ++ a0.way⟩ : PC), 0, a1))
def ref13_C_node.f (a0 : PC) (a1 : Int) : Option Nd :=
 chk a0.t.isSome (chk (inb a1 (a0.t.getD []).length) (some (at_ Nd.z (a0.t.getD []) a1)))
def ref13_C_told.g (rec_ref13_C_Told : PC → PTerm → Option (PC × Int × Int)) (a0 : PC) (a1 : PTerm) (a2 : Int) (a3 : List Hyp) : Option (PC × Int × Int) :=
 chk (decide ((a0.hyps.length + a3.length) * 24 ≤ 140737488355328)) (chk (decide ((a0.way.length + ([a2]).length) * 8 ≤ 140737488355328)) (chk (inb a2 a1.sub.length) ((rec_ref13_C_Told (⟨a0.t, a0.hyps ++ a3, a0.way ++ [a2], a0.wrong⟩ : PC) (at_ PTerm.z a1.sub a2)).bind fun r32 => if decide (r32.2.2 = 0) then chk (decide (0 ≤ IntKind.i64.wrap ((r32.1.way.length : Int) - 1) ∧ IntKind.i64.wrap ((r32.1.way.length : Int) - 1) ≤ (r32.1.way.length : Int))) (chk (decide (0 ≤ (a0.hyps.length : Int) ∧ (a0.hyps.length : Int) ≤ (r32.1.hyps.length : Int))) (some ((⟨r32.1.t, r32.1.hyps.take ((a0.hyps.length : Int)).toNat, r32.1.way.take (IntKind.i64.wrap ((r32.1.way.length : Int) - 1)).toNat, r32.1.wrong⟩ : PC), r32.2.1, r32.2.2))) else some (r32.1, r32.2.1, r32.2.2))))
def ref13_C_checked.g (rec_ref13_C_Checked : PC → PTerm → Int → Option (PC × Int)) (a0 : PC) (a1 : PTerm) (a2 : Int) (a3 : List Hyp) (a4 : Int) : Option (PC × Int) :=
 chk (decide ((a0.hyps.length + a3.length) * 24 ≤ 140737488355328)) (chk (decide ((a0.way.length + ([a2]).length) * 8 ≤ 140737488355328)) (chk (inb a2 a1.sub.length) ((rec_ref13_C_Checked (⟨a0.t, a0.hyps ++ a3, a0.way ++ [a2], a0.wrong⟩ : PC) (at_ PTerm.z a1.sub a2) a4).bind fun r32 => if decide (r32.2 = 0) then chk (decide (0 ≤ IntKind.i64.wrap ((r32.1.way.length : Int) - 1) ∧ IntKind.i64.wrap ((r32.1.way.length : Int) - 1) ≤ (r32.1.way.length : Int))) (chk (decide (0 ≤ (a0.hyps.length : Int) ∧ (a0.hyps.length : Int) ≤ (r32.1.hyps.length : Int))) (some ((⟨r32.1.t, r32.1.hyps.take ((a0.hyps.length : Int)).toNat, r32.1.way.take (IntKind.i64.wrap ((r32.1.way.length : Int) - 1)).toNat, r32.1.wrong⟩ : PC), r32.2))) else some (r32.1, r32.2))))
def ref13_one.f (a0 : ByteArray) (a1 : Int) : Option (List Hyp) :=
 some ([(⟨a0, a1⟩ : Hyp)])
def ref13_C_no.f (a0 : PC) (a1 : Int) : Option (PC × Int) :=
 (ref13_C_refuse.f a0 a1).bind fun r1 => some (r1.1, a1)
def ref13_C_Told.b0 (a0 : PC) (a1 : PTerm) (x9_0 : Int) : Option (Stp Int (PC × Int × Int)) :=
 if decide (0 ≤ x9_0) then chk (inb x9_0 a0.hyps.length) (if decide ((at_ Hyp.z a0.hyps x9_0).name = a1.name) then chk (inb x9_0 a0.hyps.length) (some (.ret (a0, (at_ Hyp.z a0.hyps x9_0).form, 0))) else some (.go (IntKind.i64.wrap (x9_0 - 1)))) else some (.brk x9_0)
def ref13_C_Told.g (rec_ref13_C_Told : PC → PTerm → Option (PC × Int × Int)) (rec_ref13_C_Checked : PC → PTerm → Int → Option (PC × Int)) (k : Nat) (a0 : PC) (a1 : PTerm) : Option (PC × Int × Int) :=
 if decide (a1.kind = 1) then (iter (fun s => ref13_C_Told.b0 a0 a1 s) k (IntKind.i64.wrap ((a0.hyps.length : Int) - 1))).bind (aft fun (s9 : Int) => (ref13_C_refuse.f a0 131).bind fun r27 => some (r27.1, r27.2.1, r27.2.2)) else if decide (a1.kind = 3) then (ref13_C_told.g rec_ref13_C_Told a0 a1 0 ([])).bind fun r31 => if decide (r31.2.2 ≠ 0) then some (r31.1, 0, r31.2.2) else (ref13_C_node.f r31.1 r31.2.1).bind fun r35 => if decide (r35.kind ≠ 5) then (ref13_C_refuse.f r31.1 130).bind fun r39 => some (r39.1, r39.2.1, r39.2.2) else (ref13_C_node.f r31.1 r31.2.1).bind fun r42 => (ref13_C_checked.g rec_ref13_C_Checked r31.1 a1 1 ([]) r42.l).bind fun r44 => if decide (r44.2 ≠ 0) then some (r44.1, 0, r44.2) else (ref13_C_node.f r44.1 r31.2.1).bind fun r48 => some (r44.1, r48.r, 0) else (if decide (a1.kind = 5) then some (decide (a1.kind = 5)) else some (decide (a1.kind = 6))).bind fun (o51 : Bool) => if o51 then (ref13_C_told.g rec_ref13_C_Told a0 a1 0 ([])).bind fun r56 => if decide (r56.2.2 ≠ 0) then some (r56.1, 0, r56.2.2) else (ref13_C_node.f r56.1 r56.2.1).bind fun r60 => if decide (r60.kind ≠ 3) then (ref13_C_refuse.f r56.1 130).bind fun r64 => some (r64.1, r64.2.1, r64.2.2) else if decide (a1.kind = 5) then (ref13_C_node.f r56.1 r56.2.1).bind fun r68 => some (r56.1, r68.l, 0) else (ref13_C_node.f r56.1 r56.2.1).bind fun r71 => some (r56.1, r71.r, 0) else if decide (a1.kind = 11) then (ref03_T_Has.f a0.t a1.form).bind fun r81 => if !r81 then (ref13_C_refuse.f a0 31).bind fun r85 => some (r85.1, r85.2.1, r85.2.2) else (ref13_C_checked.g rec_ref13_C_Checked a0 a1 0 ([]) a1.form).bind fun r88 => if decide (r88.2 ≠ 0) then some (r88.1, 0, r88.2) else some (r88.1, a1.form, 0) else if decide (a1.kind = 12) then (ref13_C_told.g rec_ref13_C_Told a0 a1 0 ([])).bind fun r93 => if decide (r93.2.2 ≠ 0) then some (r93.1, 0, r93.2.2) else (ref13_one.f a1.name r93.2.1).bind fun r100 => (ref13_C_told.g rec_ref13_C_Told r93.1 a1 1 r100).bind fun r104 => some (r104.1, r104.2.1, r104.2.2) else if decide (a1.kind = 9) then (ref13_C_told.g rec_ref13_C_Told a0 a1 0 ([])).bind fun r110 => if decide (r110.2.2 ≠ 0) then some (r110.1, 0, r110.2.2) else (ref13_C_node.f r110.1 r110.2.1).bind fun r114 => if decide (r114.kind ≠ 4) then (ref13_C_refuse.f r110.1 130).bind fun r118 => some (r118.1, r118.2.1, r118.2.2) else (ref13_C_node.f r110.1 r110.2.1).bind fun r125 => (ref13_one.f a1.name r125.l).bind fun r126 => (ref13_C_told.g rec_ref13_C_Told r110.1 a1 1 r126).bind fun r130 => if decide (r130.2.2 ≠ 0) then some (r130.1, 0, r130.2.2) else (ref13_C_node.f r130.1 r110.2.1).bind fun r140 => (ref13_one.f a1.other r140.r).bind fun r141 => (ref13_C_told.g rec_ref13_C_Told r130.1 a1 2 r141).bind fun r145 => if decide (r145.2.2 ≠ 0) then some (r145.1, 0, r145.2.2) else if decide (r130.2.1 ≠ r145.2.1) then (ref13_C_refuse.f r145.1 130).bind fun r152 => some (r152.1, r152.2.1, r152.2.2) else some (r145.1, r130.2.1, 0) else (ref13_C_refuse.f a0 132).bind fun r155 => some (r155.1, r155.2.1, r155.2.2)
def ref13_C_Checked.g (rec_ref13_C_Told : PC → PTerm → Option (PC × Int × Int)) (rec_ref13_C_Checked : PC → PTerm → Int → Option (PC × Int)) (a0 : PC) (a1 : PTerm) (a2 : Int) : Option (PC × Int) :=
 (ref13_C_node.f a0 a2).bind fun r3 => if decide (a1.kind = 2) then if decide (r3.kind ≠ 5) then (ref13_C_no.f a0 130).bind fun r11 => some (r11.1, r11.2) else (ref13_one.f a1.name r3.l).bind fun r14 => (ref13_C_checked.g rec_ref13_C_Checked a0 a1 0 r14 r3.r).bind fun r18 => some (r18.1, r18.2) else if decide (a1.kind = 4) then if decide (r3.kind ≠ 3) then (ref13_C_no.f a0 130).bind fun r23 => some (r23.1, r23.2) else (ref13_C_checked.g rec_ref13_C_Checked a0 a1 0 ([]) r3.l).bind fun r26 => if decide (r26.2 ≠ 0) then some (r26.1, r26.2) else (ref13_C_checked.g rec_ref13_C_Checked r26.1 a1 1 ([]) r3.r).bind fun r30 => some (r30.1, r30.2) else (if decide (a1.kind = 7) then some (decide (a1.kind = 7)) else some (decide (a1.kind = 8))).bind fun (o33 : Bool) => if o33 then if decide (r3.kind ≠ 4) then (ref13_C_no.f a0 130).bind fun r39 => some (r39.1, r39.2) else if decide (a1.kind = 7) then (ref13_C_checked.g rec_ref13_C_Checked a0 a1 0 ([]) r3.l).bind fun r43 => some (r43.1, r43.2) else (ref13_C_checked.g rec_ref13_C_Checked a0 a1 0 ([]) r3.r).bind fun r46 => some (r46.1, r46.2) else if decide (a1.kind = 9) then (ref13_C_told.g rec_ref13_C_Told a0 a1 0 ([])).bind fun r50 => if decide (r50.2.2 ≠ 0) then some (r50.1, r50.2.2) else (ref13_C_node.f r50.1 r50.2.1).bind fun r54 => if decide (r54.kind ≠ 4) then (ref13_C_no.f r50.1 130).bind fun r58 => some (r58.1, r58.2) else (ref13_C_node.f r50.1 r50.2.1).bind fun r61 => (ref13_one.f a1.name r61.l).bind fun r62 => (ref13_C_checked.g rec_ref13_C_Checked r50.1 a1 1 r62 a2).bind fun r66 => if decide (r66.2 ≠ 0) then some (r66.1, r66.2) else (ref13_C_node.f r66.1 r50.2.1).bind fun r70 => (ref13_one.f a1.other r70.r).bind fun r71 => (ref13_C_checked.g rec_ref13_C_Checked r66.1 a1 2 r71 a2).bind fun r75 => some (r75.1, r75.2) else if decide (a1.kind = 10) then (ref13_C_told.g rec_ref13_C_Told a0 a1 0 ([])).bind fun r79 => if decide (r79.2.2 ≠ 0) then some (r79.1, r79.2.2) else (ref13_C_node.f r79.1 r79.2.1).bind fun r83 => if decide (r83.kind ≠ 2) then (ref13_C_no.f r79.1 130).bind fun r87 => some (r87.1, r87.2) else some (r79.1, 0) else if decide (a1.kind = 12) then (ref13_C_told.g rec_ref13_C_Told a0 a1 0 ([])).bind fun r91 => if decide (r91.2.2 ≠ 0) then some (r91.1, r91.2.2) else (ref13_one.f a1.name r91.2.1).bind fun r95 => (ref13_C_checked.g rec_ref13_C_Checked r91.1 a1 1 r95 a2).bind fun r99 => some (r99.1, r99.2) else (rec_ref13_C_Told a0 a1).bind fun r102 => if decide (r102.2.2 ≠ 0) then some (r102.1, r102.2.2) else if decide (r102.2.1 ≠ a2) then (ref13_C_no.f r102.1 130).bind fun r107 => some (r107.1, r107.2) else some (r102.1, 0)
def ref13_tc.p : Nat → (PC → PTerm → Option (PC × Int × Int)) × (PC → PTerm → Int → Option (PC × Int))
 | 0 => (fun _ _ => none, fun _ _ _ => none)
 | k + 1 => (ref13_C_Told.g (ref13_tc.p k).1 (ref13_tc.p k).2 k, ref13_C_Checked.g (ref13_tc.p k).1 (ref13_tc.p k).2)
def ref13_C_Told.f (k : Nat) : PC → PTerm → Option (PC × Int × Int) := (ref13_tc.p k).1
def ref13_C_Checked.f (k : Nat) : PC → PTerm → Int → Option (PC × Int) := (ref13_tc.p k).2
def ref13_ahead.b0 (a0 : Tb) (a1 : List Hyp) (i3 : Int) : Option (Stp Unit Int) :=
 (ref03_T_Has.f a0 ((at_ Hyp.z a1 i3).form)).bind fun r6 => if !r6 then some (.ret 31) else some (.go ())
def ref13_ahead.f (k : Nat) (a0 : Tb) (a1 : List Hyp) (a2 : PTerm) : Option Int :=
 (forN (fun i s => ref13_ahead.b0 a0 a1 i) ((a1.length : Int) - 0).toNat 0 ()).bind (aft fun (s3 : Unit) => (ref12_Check.f k a2).bind fun r12 => some r12)
def ref13_checker.f (a0 : Tb) (a1 : List Hyp) : Option PC :=
 chk (decide ((([] : List Hyp).length + a1.length) * 24 ≤ 140737488355328)) (some (⟨a0, ([] : List Hyp) ++ a1, ([] : List Int), ([] : List Int)⟩ : PC))
def ref13_Where.f (k : Nat) (a0 : Tb) (a1 : List Hyp) (a2 : PTerm) (a3 : Int) : Option (Tb × List Int × Int) :=
 (ref03_T_Has.f a0 a3).bind fun r3 => if !r3 then some (a0, ([] : List Int), 31) else (ref13_ahead.f k a0 a1 a2).bind fun r7 => if decide (r7 ≠ 0) then some (a0, ([] : List Int), r7) else (ref13_checker.f a0 a1).bind fun r11 => (ref13_C_Checked.f k r11 a2 a3).bind fun r15 => if decide (r15.2 = 0) then some (r15.1.t, ([] : List Int), 0) else some (r15.1.t, r15.1.wrong, r15.2)
end Go.Proofs.YtjebgcoknpcadaaDoor
end
section
namespace Go.Proofs.YtjebgcoknpcadaaDoor
open Gw
def ref13_Infer.f (k : Nat) (a0 : Tb) (a1 : List Hyp) (a2 : PTerm) : Option (Tb × Int × Int) :=
 (ref13_ahead.f k a0 a1 a2).bind fun r3 => if decide (r3 ≠ 0) then some (a0, 0, r3) else (ref13_checker.f a0 a1).bind fun r13 => (ref13_C_Told.f k r13 a2).bind fun r16 => some (r16.1.t, r16.2.1, r16.2.2)
end Go.Proofs.YtjebgcoknpcadaaDoor
end
section
namespace Go.Proofs.YtjebgcoknpcadaaDoor
open Gw
def law13_TypesChecks.b0 (a1 : List Hyp) (i38 : Int) : Option (Stp Unit Bool) :=
 chk (inb i38 a1.length) (if !decide (at_ Hyp.z (([] : List Hyp) ++ a1) i38 = at_ Hyp.z a1 i38) then some (.ret false) else some (.go ()))
def law13_TypesChecks.f (k : Nat) (a0 : List Nd) (a1 : List Hyp) (a2 : PTerm) (a3 : Int) : Option Bool :=
 (law03_Both.f a0).bind fun r3 => if !r3.2.2 then (law13_heads.f k).bind fun r9 => some r9 else chk (decide ((([] : List Hyp).length + a1.length) * 24 ≤ 140737488355328)) ((types_Check.f k r3.1 (([] : List Hyp) ++ a1) a2 a3).bind fun r18 => (types_Infer.f k r3.1 (([] : List Hyp) ++ a1) a2).bind fun r21 => (types_Where.f k r3.1 (([] : List Hyp) ++ a1) a2 a3).bind fun r24 => (ref13_Where.f k r3.2.1 a1 a2 a3).bind fun r28 => (ref13_Infer.f k r28.1 a1 a2).bind fun r32 => (if (!(((decide (r18 ≠ r28.2.2)) || (decide (r21.1 ≠ r32.2.1))) || (decide (r21.2 ≠ r32.2.2)))) then ref03_Ints.f r24.1 r28.2.1 else some false).bind fun r35 => if ((((decide (r18 ≠ r28.2.2)) || (decide (r21.1 ≠ r32.2.1))) || (decide (r21.2 ≠ r32.2.2))) || (!r35)) || (decide (r24.2 ≠ r28.2.2)) then some false else (forN (fun i s => law13_TypesChecks.b0 a1 i) (((([] : List Hyp) ++ a1).length : Int) - 0).toNat 0 ()).bind (aft fun (s38 : Unit) => (law03_Like.f r3.1 r32.1).bind fun r46 => (if r46 then law13_heads.f k else some false).bind fun r49 => some (r46 && r49)))
end Go.Proofs.YtjebgcoknpcadaaDoor
end
