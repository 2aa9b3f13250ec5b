/- What the cards of the laws share: arguments read as they did; the table of trailing zeros; values out of what the rows tell of them. -/
import Derived.Test.YtjjkhjieegmphaaDoorFormNew
import Derived.Test.YtjjkhjieegmphaaDoorCards
import Derived.Test.YtjjkhjieegmphaaDoorTie
import Derived.WalkKit
import Derived.ProofKit
import Derived.OpenShut
import Derived.Deep.DeepHandedRow
import Derived.Lib.LaidTab
namespace Go.Proofs.YtjjkhjieegmphaaDoor
open Gw Go.ChangeShapes Go.WideShapes Go.ChangeAt Go.RowKit
set_option linter.unusedVariables false
set_option maxRecDepth 100000
theorem ownKnob_none : ownKnob PP.godebug = none := by kernel_rfl
theorem laidOut_PP : laidOutB PP = true := by kernel_rfl
theorem gTab : PP.globalNamed "math/bits.deBruijn64tab" = some 0 := by kernel_rfl
/-- arguments read as they did -/
theorem trodAll_stays {H : Type} {enc : TypeId × Value → H} {W W' : World} {sp : Nat → Bool} : ∀ {ts : List TypeId} {vs : List Value} {ds : List (DataW H)} {ps : List MemPlace}, (∀ t ∈ ts, PP.readableRec t = true ∧ t < PP.types.size) →
    DataW.TrodAll enc PP W 0 (fun _ => true) true ts vs ds ps → (∀ p ∈ ps, W.sameAt W' p) → (∀ p ∈ ps, sp p.block = true) → DataW.TrodAll enc PP W' 0 sp true ts vs ds ps
  | [], vs, ds, ps, _, h, _, _ => by
    obtain ⟨rfl, rfl, rfl⟩ := trodAll_nil h
    exact trodAll_mk0
  | t :: ts, vs, ds, ps, hr, h, h1, h2 => by
    obtain ⟨v, vs, d, ds, p, q, rfl, rfl, rfl, h0, h3⟩ := trodAll_cons h
    have ht := hr t (by simp)
    exact trodAll_cons_mk (WideElems.Trod_stays laidOut_PP ht.1 ht.2 h0 (fun x hx => h1 x (by simp [hx])) (fun x hx => h2 x (by simp [hx])))
      (trodAll_stays (fun t ht => hr t (by simp [ht])) h3 (fun x hx => h1 x (by simp [hx])) (fun x hx => h2 x (by simp [hx])))
/-- no blocks of others -/
def oth0 : Oth := ⟨fun _ => False, [], fun _ h => by cases h⟩
theorem st0 (w : World) : St (fun _ => False) oth0 w w [] [] :=
  ⟨fun _ => False, fun _ h => h.elim, fun _ h => h.elim, Chg.refl _ _, trivial, fun z hz => absurd hz (by simp), fun d hd => absurd hd (by simp [oth0])⟩
/-- the table of trailing zeros, as the rows lay it -/
def tzs : List Int := Lib.deBruijn64tab.map fun (z : Nat) => (z : Int)
theorem tz_of {W : World} (h : laidMetH PP Rows.ruleNobodyRow.laid W) : Tz W := by
  have ht : Lib.TabIs PP W "math/bits.deBruijn64tab" .u8 tzs := Lib.tabIs_of_head (rest := []) gTab (t := T_64_uint8) (e := T_uint8) (n := 64) (by kernel_rfl) ar_64_uint8.1 (by kernel_rfl) (by kernel_rfl) (by kernel_rfl) h
  intro i v hv
  have hi : i < Lib.deBruijn64tab.length := by
    have := (List.getElem?_eq_some_iff.1 hv).1
    simpa using this
  have h1 := ht.cell gTab i (by simpa [tzs] using hi)
  rw [List.getElem?_map, List.getElem?_eq_getElem hi] at hv
  cases hv
  rw [Nat.zero_add, h1]
  simp [tzs, List.getD, hi]
section
variable {P : Program} {W : World} {b t : Nat} {k : IntKind} {v : Value}
theorem cell_int (ht : P.underlying t = some (.int k)) (h : Cell.okWide P W .any b t v) : ∃ n, v = .int k n ∧ k.has n := by
  simp only [Cell.okWide, ht] at h
  cases v <;> simp_all [Cell.ok]
theorem cell_str (ht : P.underlying t = some .string) (h : Cell.okWide P W .any b t v) : ∃ s, v = .string s ∧ (s.size : Int) ≤ IntKind.i64.max := by
  simp only [Cell.okWide, ht] at h
  cases v <;> simp_all [Cell.ok]
theorem agg_of {n : Nat} {ts : List TypeId} (ht : AggT P t n) (h : Value.okWide P W .any b t v) (hts : P.cellTypes P.depth t = some ts) (hc : P.cellsOf t = n) (hn : ts.length = n) :
    ∃ cs : List Value, v = .agg cs.toArray ∧ cs.length = n ∧ ∀ (i : Nat) (v : Value) (u : TypeId), cs[i]? = some v → ts[i]? = some u → Cell.okWide P W .any b u v := by
  obtain ⟨⟨d, ht, hk⟩, -⟩ := ht
  have h : ∃ cs, v = .agg cs ∧ cs.size = P.cellsOf t ∧ Row.okWide P W .any b t cs := by
    unfold Value.okWide at h
    rw [ht] at h
    cases d <;> first | exact h | cases hk
  obtain ⟨cs, rfl, hsz, ts', hts', -, hcell⟩ := h
  obtain rfl := Option.some.inj (hts'.symm.trans hts)
  refine ⟨cs.toList, rfl, by simpa using hsz.trans hc, fun i v u hv hu => ?_⟩
  obtain ⟨u', hu', h1⟩ := hcell i v (by simpa using hv)
  rw [Nat.mod_eq_of_lt (List.getElem?_eq_some_iff.1 hu).1] at hu'
  rw [hu'] at hu; cases hu
  exact h1
theorem int_of (ht : P.underlying t = some (.int k)) (h : Value.okWide P W .any b t v) : ∃ n, v = .int k n ∧ k.has n := by
  unfold Value.okWide at h
  rw [ht] at h
  exact cell_int ht h
end
theorem stz (W : World) (h : Tz W) : St (fun _ => False) oth0 W W [] [oTz] :=
  ⟨fun _ => False, fun _ h => h.elim, fun _ h => h.elim, Chg.refl _ _, trivial, fun z hz => by
    rcases List.mem_singleton.1 hz with rfl
    exact ⟨fun i => i = 0, ⟨h, fun _ => Iff.rfl⟩, fun i _ q => q.elim (fun x => x) (fun x => x)⟩, fun d hd => absurd hd (by simp [oth0])⟩
def intOf : Value → Int | .int _ n => n | _ => 0
def ts_Sq : List TypeId := List.replicate 16 T_uint64 ++ [T_int]
theorem ct_Sq : PP.cellTypes PP.depth T_Sq = some ts_Sq := by kernel_rfl
theorem co_Sq : PP.cellsOf T_Sq = 17 := by kernel_rfl
/-- the bits of 16 cells -/
def bitsOf (l : List Value) : Bits := Vector.ofFn fun i : Fin 16 => intOf (l.getD i .nilFunc)
theorem sq_of {W : World} {b : Nat} {v : Value} (h : Value.okWide PP W .any b T_Sq v) : ∃ a : Sq, v = .agg (Sq.C a).toArray ∧ a.left.okB = true ∧ IntKind.i64.has a.goal := by
  obtain ⟨cs, rfl, hl, hc⟩ := agg_of (P := PP) (t := T_Sq) (ts := ts_Sq) ag_Sq h ct_Sq co_Sq rfl
  have hl : cs.length = 17 := hl
  have h16 : ∀ i, i < 16 → ∃ n, cs[i]? = some (.int .u64 n) ∧ IntKind.u64.has n := fun i hi => by
    obtain ⟨n, e, hn⟩ := cell_int un_uint64 (hc i cs[i] T_uint64 (List.getElem?_eq_getElem (by omega)) (by rw [ts_Sq, List.getElem?_append_left (by simpa using hi), List.getElem?_replicate, if_pos hi]))
    exact ⟨n, by rw [List.getElem?_eq_getElem (by omega), e], hn⟩
  obtain ⟨g, e, hg⟩ := cell_int un_int (hc 16 cs[16] T_int (List.getElem?_eq_getElem (by omega)) rfl)
  refine ⟨⟨bitsOf cs, g⟩, ?_, ?_, hg⟩
  · congr 2
    refine List.ext_getElem? fun i => ?_
    by_cases hi : i < 16
    · obtain ⟨n, hn, _⟩ := h16 i hi
      rw [hn, Sq.C, List.getElem?_append_left (by rw [Bits.len]; exact hi), Bits.get _ _ hi]
      simp [bitsOf, hn, intOf, List.getD]
    · by_cases h2 : i = 16
      · subst h2; rw [Sq.get_goal, List.getElem?_eq_getElem (by omega), e]
      · rw [List.getElem?_eq_none (by omega), List.getElem?_eq_none (by rw [Sq.len]; omega)]
  · unfold Bits.okB
    rw [List.all_eq_true]
    intro x hx
    obtain ⟨i, hi⟩ := List.getElem?_of_mem hx
    have hi16 : i < 16 := by have := (List.getElem?_eq_some_iff.1 hi).1; simpa using this
    obtain ⟨n, hn, hh⟩ := h16 i hi16
    have hxn : x = n := by
      have := (List.getElem?_eq_some_iff.1 hi).2
      rw [← this]; simp [bitsOf, hn, intOf, List.getD]
    subst hxn
    have h2 : 0 ≤ x ∧ x ≤ 18446744073709551615 := hh
    simp only [Bool.and_eq_true, decide_eq_true_eq]
    omega
end Go.Proofs.YtjjkhjieegmphaaDoor
