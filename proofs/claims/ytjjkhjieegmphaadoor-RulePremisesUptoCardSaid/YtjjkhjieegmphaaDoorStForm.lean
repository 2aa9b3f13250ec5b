/- Contracts of the tables' functions, as the printed walks use them. A table is some rows, or none (a table that no call made). -/
import Derived.Test.YtjjkhjieegmphaaDoorForm4
import Derived.Test.YtjjkhjieegmphaaDoorStBits
namespace Go.Proofs.YtjjkhjieegmphaaDoor
open Gw Go.RowKit
abbrev Tb := Option (List Nd)
/-- a table of the program -/
def oT (a : Option Addr) (t : Tb) : OA where
  holds := fun w F => match t with
    | none => (a = none ∧ ∀ i, ¬ F i) ∨ ∃ p, a = some ⟨p, 0, none⟩ ∧ Blk w p T_Tab (Tab.C Tab.z) ∧ ∀ i, F i ↔ i = p
    | some N => ∃ p, a = some ⟨p, 0, none⟩ ∧ TabAt w p N F ∧ N.length ≤ 1024
  loc := fun {S w w' F} h hc hs => by
    cases t with
    | none =>
      rcases h with h | ⟨p, h1, h2, h3⟩
      · exact .inl h
      · exact .inr ⟨p, h1, h2.chg hc (hs p ((h3 p).2 rfl)), h3⟩
    | some N => obtain ⟨p, h1, h2, h3⟩ := h; exact ⟨p, h1, h2.keep hc hs, h3⟩
  lt := fun {w F} h i hi => by
    cases t with
    | none =>
      rcases h with h | ⟨p, h1, h2, h3⟩
      · exact absurd hi (h.2 i)
      · rw [(h3 i).1 hi]; exact h2.lt
    | some N => obtain ⟨p, h1, h2, h3⟩ := h; exact h2.lt i hi
theorem oT.nil (w : World) : (oT none none).holds w (fun _ => False) := .inl ⟨rfl, fun _ x => x⟩
theorem oT.dead {w : World} {a : Option Addr} {F : Nat → Prop} (h : (oT a none).holds w F) : Dead w a := by
  rcases h with h | ⟨p, h1, h2, _⟩
  · exact .inl h.1
  · exact .inr ⟨p, h1, h2⟩
/-- rows of the document's tables -/
def oR (a : Option Addr) (t : Tb) : OA where
  holds := fun w F => match t with
    | none => a = none ∧ ∀ i, ¬ F i
    | some N => ∃ p s, a = some ⟨p, 0, none⟩ ∧ Blk w p T_RTab (RTab.C ⟨s⟩) ∧ Own w 0 T_Nd 4 s (N.map Nd.C) ∧ N.length ≤ 140737488355328 ∧ ¬ s.fp p ∧ ∀ i, F i ↔ (i = p ∨ s.fp i)
  loc := fun {S w w' F} h hc hs => by
    cases t with
    | none => exact h
    | some N =>
      obtain ⟨p, s, h1, h2, h3, h4, h5, h6⟩ := h
      exact ⟨p, s, h1, h2.chg hc (hs p ((h6 p).2 (.inl rfl))), h3.keep hc (fun i hi => hs i ((h6 i).2 (.inr hi))), h4, h5, h6⟩
  lt := fun {w F} h i hi => by
    cases t with
    | none => exact absurd hi (h.2 i)
    | some N =>
      obtain ⟨p, s, h1, h2, h3, h4, h5, h6⟩ := h
      rcases (h6 i).1 hi with rfl | hi
      · exact h2.lt
      · exact h3.lt i hi
theorem oR.nil (w : World) : (oR none none).holds w (fun _ => False) := ⟨rfl, fun _ x => x⟩
section
variable {A : Nat → Prop} {N : Oth} {w0 w w' : World} {L Z : List OA}
/-- the document's table, laid open -/
theorem Gw.St.openR (h : St A N w0 w L Z) (k : Nat) {a : Option Addr} {t : Tb} {L' : List OA} (ht : t.isSome = true) (e : L[k]? = some (oR a t) := by rfl) (e' : L.eraseIdx k = L' := by rfl) : ∃ p s, a = some ⟨p, 0, none⟩ ∧ St A N w0 w (oB p T_RTab (RTab.C ⟨s⟩) :: oS T_Nd 4 Nd.C s (t.getD []) :: L') Z := by
  subst e'
  obtain ⟨M, rfl⟩ := Option.isSome_iff_exists.1 ht
  obtain ⟨U, hU, hN, hA, hL, hZ, hW⟩ := h
  obtain ⟨F, ⟨p, s, h1, h2, h3, h4, h5, h6⟩, hF, hR⟩ := hL.front k e
  refine ⟨p, s, h1, U, hU, hN, hA, ⟨fun i => i = p, ⟨h2, fun _ => Iff.rfl⟩, fun i hi => hF i ((h6 i).2 (.inl hi)), s.fp, ⟨⟨h3, h4⟩, fun _ => Iff.rfl⟩, fun i hi => ⟨hF i ((h6 i).2 (.inr hi)), fun q => h5 (q ▸ hi)⟩, ?_⟩, hZ, hW⟩
  exact hR.mono fun i hi => ⟨⟨hi.1, fun q => hi.2 ((h6 i).2 (.inl q))⟩, fun q => hi.2 ((h6 i).2 (.inr q))⟩
/-- and shut -/
theorem Gw.St.shutR {p : Nat} {s : SlV} {M : List Nd} (h : St A N w0 w (oB p T_RTab (RTab.C ⟨s⟩) :: oS T_Nd 4 Nd.C s M :: L) Z) {a : Option Addr} (ha : a = some ⟨p, 0, none⟩) : St A N w0 w (oR a (some M) :: L) Z := by
  obtain ⟨U, hU, hN, hA, ⟨F, h1, hF, G, h2, hG, hR⟩, hZ, hW⟩ := h
  refine ⟨U, hU, hN, hA, ⟨fun i => F i ∨ G i, ⟨p, s, ha, h1.1, h2.1.1, h2.1.2, fun q => (hG p ((h2.2 p).2 q)).2 ((h1.2 p).2 rfl), fun i => or_congr (h1.2 i) (h2.2 i)⟩, fun i hi => hi.elim (hF i) (fun q => (hG i q).1), ?_⟩, hZ, hW⟩
  exact hR.mono fun i hi => ⟨hi.1.1, fun q => q.elim hi.1.2 hi.2⟩
/-- one that stays, seen -/
theorem Gw.St.seeR (h : St A N w0 w L Z) (k : Nat) {a : Option Addr} {t : Tb} (ht : t.isSome = true) (e : Z[k]? = some (oR a t) := by rfl) : ∃ p s, a = some ⟨p, 0, none⟩ ∧ St A N w0 w L (oB p T_RTab (RTab.C ⟨s⟩) :: fS 4 Nd.C s (t.getD []) :: Z) := by
  obtain ⟨M, rfl⟩ := Option.isSome_iff_exists.1 ht
  obtain ⟨F, p, s, h1, _⟩ := h.frz k e
  have key : ∀ F, (oR a (some M)).holds w F → ∃ p' s', a = some ⟨p', 0, none⟩ ∧ Blk w p' T_RTab (RTab.C ⟨s'⟩) ∧ Own w 0 T_Nd 4 s' (M.map Nd.C) ∧ M.length ≤ 140737488355328 ∧ F p' ∧ ∀ i, s'.fp i → F i := by
    rintro F ⟨p, s, h1, h2, h3, h4, h5, h6⟩
    exact ⟨p, s, h1, h2, h3, h4, (h6 p).2 (.inl rfl), fun i hi => (h6 i).2 (.inr hi)⟩
  obtain ⟨U, hU, hN, hA, hL, hZ, hW⟩ := h
  obtain ⟨F, hF, hFU⟩ := hZ _ (List.mem_of_getElem? e)
  obtain ⟨p', s', e1, e2, e3, e4, e5, e6⟩ := key F hF
  refine ⟨p', s', e1, U, hU, hN, hA, hL, fun z hz => ?_, hW⟩
  rcases List.mem_cons.1 hz with rfl | hz
  · exact ⟨fun i => i = p', ⟨e2, fun _ => Iff.rfl⟩, fun i hi => by rw [hi]; exact hFU p' e5⟩
  rcases List.mem_cons.1 hz with rfl | hz
  · exact ⟨s'.fp, ⟨⟨e3.toRd, e4⟩, fun _ => Iff.rfl⟩, fun i hi => hFU i (e6 i hi)⟩
  · exact hZ z hz
theorem oR.len {a : Option Addr} {t : Tb} {w : World} {F : Nat → Prop} (h : (oR a t).holds w F) : (t.getD []).length ≤ 140737488355328 := by
  cases t with
  | none => simp
  | some M => obtain ⟨p, s, _, _, _, h4, _⟩ := h; exact h4
theorem Gw.St.lenR (h : St A N w0 w L Z) (k : Nat) {a : Option Addr} {t : Tb} (e : L[k]? = some (oR a t) := by rfl) : (t.getD []).length ≤ 140737488355328 := (h.own k e).elim fun _ h => oR.len h
theorem Gw.St.lenRZ (h : St A N w0 w L Z) (k : Nat) {a : Option Addr} {t : Tb} (e : Z[k]? = some (oR a t) := by rfl) : (t.getD []).length ≤ 140737488355328 := (h.frz k e).elim fun _ h => oR.len h
end
section
variable {A : Nat → Prop} {N : Oth} {w : World}
def formula_Table_Node.f (t : Tb) (i : Int) : Option (Nd × Bool) := t.map fun N => nodeS N i
theorem formula_Table_Node_st {a : Option Addr} {t : Tb} {i : Int} (S : St A N w w [] [oT a t]) {r : Nd × Bool} (H : formula_Table_Node.f t i = some r) : Calls PP F_formula_Table_Node #[.pointer a, .int .i64 i] w fun e w' => ∃ v, e = .returned v ∧ (v = .tuple #[.agg (Nd.C r.1).toArray, .bool r.2] ∧ St A N w w' [] []) := by
  cases t with
  | none => cases H
  | some M =>
    cases H
    obtain ⟨F, p, rfl, T, hN⟩ := S.frz 0 rfl
    exact toSt (formula_Table_Node_ok w i T) S
def formula_Table_Len.f (t : Tb) : Option Int := t.map fun N => (N.length : Int)
theorem formula_Table_Len_st {a : Option Addr} {t : Tb} (S : St A N w w [] [oT a t]) {r : Int} (H : formula_Table_Len.f t = some r) : Calls PP F_formula_Table_Len #[.pointer a] w fun e w' => ∃ v, e = .returned v ∧ (v = .int .i64 r ∧ St A N w w' [] []) := by
  cases t with
  | none => cases H
  | some M =>
    cases H
    obtain ⟨F, p, rfl, T, hN⟩ := S.frz 0 rfl
    exact toSt (formula_Table_Len_ok w T) S
/-- what turns a table -/
theorem mutT {P : Program} {g : FuncId} {args : Array Value} {p : Nat} {M M' : List Nd} {v0 : Value} (S : St A N w w [oT (some ⟨p, 0, none⟩) (some M)] []) (hM : M'.length ≤ 1024)
    (h : ∀ F, TabAt w p M F → M.length ≤ 1024 → Calls P g args w fun e w' => ∃ v, e = .returned v ∧ (∃ A', v = v0 ∧ TabAt w' p M' A' ∧ Chg F w w' ∧ (∀ i, A' i → F i ∨ w.heap.size ≤ i))) :
    Calls P g args w fun e w' => ∃ v, e = .returned v ∧ (v = v0 ∧ St A N w w' [oT (some ⟨p, 0, none⟩) (some M')] []) := by
  obtain ⟨U, hU, hN, hA, ⟨F, hF, hFU, _⟩, hZ, hW⟩ := S
  obtain ⟨p', hp, T, hl⟩ := hF
  cases hp
  refine calls_mono (h F T hl) ?_
  rintro v w' ⟨A', rfl, T', hc, hg⟩
  refine ⟨rfl, fun i => F i ∨ A' i, fun i hi => ⟨?_, ?_, ?_⟩, fun i hi => Nat.lt_of_lt_of_le (hN i hi) hc.size, hc.mono fun i hi hf => ((hU i (hFU i hf)).1).elim id (fun q => absurd hi (by omega)), ⟨A', ⟨p, rfl, T', hM⟩, fun i hi => .inr hi, trivial⟩, fun z hz => by simp at hz, hW.chg hc (fun i hi => (hU i (hFU i hi)).2.2)⟩
  · rcases hi with hi | hi
    · exact (hU i (hFU i hi)).1
    · exact (hg i hi).elim (fun q => (hU i (hFU i q)).1) .inr
  · rcases hi with hi | hi
    · exact Nat.lt_of_lt_of_le (hU i (hFU i hi)).2.1 hc.size
    · exact T'.lt i hi
  · rcases hi with hi | hi
    · exact (hU i (hFU i hi)).2.2
    · exact (hg i hi).elim (fun q => (hU i (hFU i q)).2.2) (fun q hn => absurd (hN i hn) (by omega))
def formula_Table_Not.f (t : Tb) (i : Int) : Option (Tb × Int × Int) := some (match t with | none => (none, 0, 1) | some N => (some (notS N i).1, (notS N i).2))
theorem not_len {M : List Nd} {i : Int} (h : M.length ≤ 1024) : (notS M i).1.length ≤ 1024 := by
  unfold notS
  split
  · exact h
  · split
    · exact put_len h
    · exact put_len (put_len h)
theorem formula_Table_Not_st {a : Option Addr} {t : Tb} {i : Int} (S : St A N w w [oT a t] []) {r : Tb × Int × Int} (H : formula_Table_Not.f t i = some r) : Calls PP F_formula_Table_Not #[.pointer a, .int .i64 i] w fun e w' => ∃ v, e = .returned v ∧ (v = .tuple #[.int .i64 r.2.1, .int .i64 r.2.2] ∧ St A N w w' [oT a r.1] []) := by
  cases t with
  | none =>
    cases H
    obtain ⟨F, hF⟩ := S.own 0 rfl
    exact toSt (formula_Table_Not_dead w i (oT.dead hF)) S
  | some M =>
    cases H
    obtain ⟨F, p, rfl, T, hN⟩ := S.own 0 rfl
    exact mutT S (not_len hN) fun F T hl => formula_Table_Not_ok w i T hl
/-- asked for no row, it leaves the table as it was -/
def formula_Table_Not_neg.f (t : Tb) (_ : Int) : Option (Int × Int) := some (match t with | none => (0, 1) | some _ => (0, 31))
theorem formula_Table_Not_neg_st {a : Option Addr} {t : Tb} {i : Int} (S : St A N w w [] [oT a t]) (hi : i = -1) {r : Int × Int} (H : formula_Table_Not_neg.f t i = some r) : Calls PP F_formula_Table_Not #[.pointer a, .int .i64 i] w fun e w' => ∃ v, e = .returned v ∧ (v = .tuple #[.int .i64 r.1, .int .i64 r.2] ∧ St A N w w' [] []) := by
  subst hi
  cases t with
  | none =>
    cases H
    obtain ⟨F, hF⟩ := S.frz 0 rfl
    exact toSt (formula_Table_Not_dead w _ (oT.dead hF)) S
  | some M =>
    cases H
    obtain ⟨F, p, rfl, T, hN⟩ := S.frz 0 rfl
    exact toSt (formula_Table_Not_neg_ok w T) S
def formula_Table_Imp.f (t : Tb) (a b : Int) : Option (Tb × Int × Int) := t.map fun N => (some (putS N (impN a b)).1, (putS N (impN a b)).2)
theorem formula_Table_Imp_st {p : Option Addr} {t : Tb} {a b : Int} (S : St A N w w [oT p t] []) {r : Tb × Int × Int} (H : formula_Table_Imp.f t a b = some r) : Calls PP F_formula_Table_Imp #[.pointer p, .int .i64 a, .int .i64 b] w fun e w' => ∃ v, e = .returned v ∧ (v = .tuple #[.int .i64 r.2.1, .int .i64 r.2.2] ∧ St A N w w' [oT p r.1] []) := by
  cases t with
  | none => cases H
  | some M =>
    cases H
    obtain ⟨F, p, rfl, T, hN⟩ := S.own 0 rfl
    exact mutT S (put_len hN) fun F T hl => formula_Table_Imp_ok w a b T hl
def formula_Table_Put.f (t : Tb) (n : Nd) : Option (Tb × Int × Int) := chk (decide (n.name.size < 9223372036854775808)) (t.map fun N => (some (putS N n).1, (putS N n).2))
theorem formula_Table_Put_st {p : Option Addr} {t : Tb} {n : Nd} (S : St A N w w [oT p t] []) {r : Tb × Int × Int} (H : formula_Table_Put.f t n = some r) : Calls PP F_formula_Table_Put #[.pointer p, .agg (Nd.C n).toArray] w fun e w' => ∃ v, e = .returned v ∧ (v = .tuple #[.int .i64 r.2.1, .int .i64 r.2.2] ∧ St A N w w' [oT p r.1] []) := by
  obtain ⟨hs, H⟩ := chk_ex H
  cases t with
  | none => cases H
  | some M =>
    cases H
    obtain ⟨F, p, rfl, T, hN⟩ := S.own 0 rfl
    exact mutT S (put_len hN) fun F T hl => formula_Table_Put_ok w n T (of_decide_eq_true hs) hl
def formula_Word.f (s : ByteArray) : Option Bool := chk (decide (s.size < 9223372036854775808)) (some (decide (isWord s)))
theorem formula_Word_st {s : ByteArray} (S : St A N w w [] []) {r : Bool} (H : formula_Word.f s = some r) : Calls PP F_formula_Word #[.string s] w fun e w' => ∃ v, e = .returned v ∧ (v = .bool r ∧ St A N w w' [] []) := by
  obtain ⟨hs, H⟩ := chk_ex H
  cases H
  exact toSt (formula_Word_ok w s (of_decide_eq_true hs)) S
def ref03_Word.f (s : ByteArray) : Option Bool := chk (decide (s.size < 9223372036854775808)) (some (decide (isWord s)))
theorem ref03_Word_st {s : ByteArray} (S : St A N w w [] []) {r : Bool} (H : ref03_Word.f s = some r) : Calls PP F_ref03_Word #[.string s] w fun e w' => ∃ v, e = .returned v ∧ (v = .bool r ∧ St A N w w' [] []) := by
  obtain ⟨hs, H⟩ := chk_ex H
  cases H
  exact toSt (ref03_Word_ok w s (of_decide_eq_true hs)) S
end
end Go.Proofs.YtjjkhjieegmphaaDoor
