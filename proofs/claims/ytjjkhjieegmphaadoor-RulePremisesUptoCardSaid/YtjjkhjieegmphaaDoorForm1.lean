/- Words: what may be a name (program and reference). -/
import Derived.Test.YtjjkhjieegmphaaDoorBits3
namespace Go.Proofs.YtjjkhjieegmphaaDoor
open Gw Go.RowKit
set_option linter.unusedVariables false
set_option linter.unusedSimpArgs false

/-- a letter -/
def isL (c : Int) : Bool := (decide (97 ≤ c) && decide (c ≤ 122)) || (decide (65 ≤ c) && decide (c ≤ 90))
/-- what may stand behind a name's first letter -/
def isC (c : Int) : Bool := isL c || (decide (48 ≤ c) && decide (c ≤ 57)) || decide (c = 95) || decide (c = 39)
def resv : List ByteArray := [⟨#[97, 98, 111, 114, 116]⟩, ⟨#[99, 97, 115, 101]⟩, ⟨#[102, 97, 108, 115, 101]⟩, ⟨#[102, 115, 116]⟩, ⟨#[102, 117, 110]⟩, ⟨#[105, 110]⟩, ⟨#[105, 110, 108]⟩, ⟨#[105, 110, 114]⟩, ⟨#[108, 101, 116]⟩, ⟨#[111, 102]⟩, ⟨#[115, 110, 100]⟩, ⟨#[116, 114, 117, 101]⟩]
def isResv (s : ByteArray) : Bool := resv.any fun t => decide (s = t)
theorem resv_at {s : ByteArray} (t : ByteArray) (h : isResv t = true) (e : s = t) : Value.bool true = Value.bool (isResv s) := by rw [e, h]
theorem resv_no {s : ByteArray} (h : ¬ s = ⟨#[97, 98, 111, 114, 116]⟩ ∧ ¬ s = ⟨#[99, 97, 115, 101]⟩ ∧ ¬ s = ⟨#[102, 97, 108, 115, 101]⟩ ∧ ¬ s = ⟨#[102, 115, 116]⟩ ∧ ¬ s = ⟨#[102, 117, 110]⟩ ∧ ¬ s = ⟨#[105, 110]⟩ ∧ ¬ s = ⟨#[105, 110, 108]⟩ ∧ ¬ s = ⟨#[105, 110, 114]⟩ ∧ ¬ s = ⟨#[108, 101, 116]⟩ ∧ ¬ s = ⟨#[111, 102]⟩ ∧ ¬ s = ⟨#[115, 110, 100]⟩ ∧ ¬ s = ⟨#[116, 114, 117, 101]⟩) : Value.bool false = Value.bool (isResv s) := by
  obtain ⟨h1, h2, h3, h4, h5, h6, h7, h8, h9, h10, h11, h12⟩ := h
  simp only [isResv, resv, List.any_cons, List.any_nil, decide_eq_false h1, decide_eq_false h2, decide_eq_false h3, decide_eq_false h4, decide_eq_false h5, decide_eq_false h6, decide_eq_false h7, decide_eq_false h8, decide_eq_false h9, decide_eq_false h10, decide_eq_false h11, decide_eq_false h12, Bool.or_false]
/-- the cells of a text -/
def SC (s : ByteArray) : List Value := [.string s]
def okAt (s : ByteArray) (i : Nat) : Prop := (if i = 0 then isL (sb s i) else isC (sb s i)) = true
instance (s : ByteArray) (i : Nat) : Decidable (okAt s i) := inferInstanceAs (Decidable ((if i = 0 then isL (sb s i) else isC (sb s i)) = true))
def isWord (s : ByteArray) : Prop := 1 ≤ s.size ∧ s.size ≤ 31 ∧ (∀ i, i < s.size → okAt s i) ∧ isResv s = false
instance (s : ByteArray) : Decidable (isWord s) := inferInstanceAs (Decidable (1 ≤ s.size ∧ s.size ≤ 31 ∧ (∀ i, i < s.size → okAt s i) ∧ isResv s = false))
theorem letter_walk (c : Int) : (decide (97 ≤ c) && decide (c ≤ 122) || decide (65 ≤ c) && decide (c ≤ 90)) = isL c := rfl
theorem small_walk : ∀ c : Nat, c < 256 → (decide (97 ≤ bitsOp .or .u8 (c : Int) 32) && decide (bitsOp .or .u8 (c : Int) 32 ≤ 122)) = isL c := by decide +kernel
theorem small_byte {c : Int} (h : 0 ≤ c ∧ c < 256) : (decide (97 ≤ bitsOp .or .u8 c 32) && decide (bitsOp .or .u8 c 32 ≤ 122)) = isL c := by
  have := small_walk c.toNat (by omega)
  rwa [show ((c.toNat : Nat) : Int) = c by omega] at this

/-- one place of a name, as the program asks it -/
theorem word_cond {s : ByteArray} {x : Nat} : (!(decide (97 ≤ bitsOp .or .u8 (sb s (x : Int).toNat) 32) && decide (bitsOp .or .u8 (sb s (x : Int).toNat) 32 ≤ 122)) && (decide ((x : Int) = 0) || decide (sb s (x : Int).toNat ≠ 95) && decide (sb s (x : Int).toNat ≠ 39) && (decide (sb s (x : Int).toNat < 48) || decide (57 < sb s (x : Int).toNat)))) = !decide (okAt s x) := by
  rw [small_byte (sb_byte s _)]
  rw [Int.toNat_natCast, Bool.eq_iff_iff]
  have e : decide (okAt s x) = true ↔ (if x = 0 then isL (sb s x) else isC (sb s x)) = true := decide_eq_true_iff
  rw [Bool.not_eq_true', ← Bool.not_eq_true, e]
  unfold isC
  generalize sb s x = c
  by_cases hx : x = 0
  · subst hx; simp
  · have hx' : ¬ (x : Int) = 0 := by omega
    rw [if_neg hx]
    cases h1 : isL c <;> simp [hx', h1]
    omega
theorem word_end {s : ByteArray} (h : ∀ i, i < s.size → okAt s i) : Value.bool (decide (s ≠ ⟨#[]⟩) && decide ((s.size : Int) ≤ 31) && !isResv s) = Value.bool (decide (isWord s)) := by
  congr 1
  rw [Bool.eq_iff_iff]
  have e0 : decide (isWord s) = true ↔ (1 ≤ s.size ∧ s.size ≤ 31 ∧ (∀ i, i < s.size → okAt s i) ∧ isResv s = false) := decide_eq_true_iff
  rw [e0]
  simp only [Bool.and_eq_true, decide_eq_true_eq, Bool.not_eq_true']
  have e : s ≠ ⟨#[]⟩ ↔ 1 ≤ s.size := by
    constructor
    · intro hn
      refine Nat.pos_of_ne_zero fun e => hn ?_
      exact ByteArray.ext (Array.eq_empty_of_size_eq_zero e)
    · rintro h rfl
      exact absurd h (by decide)
  rw [e]
  constructor
  · rintro ⟨⟨h1, h2⟩, h3⟩; exact ⟨h1, by omega, h, h3⟩
  · rintro ⟨h1, h2, h3, h4⟩; exact ⟨⟨h1, by omega⟩, h4⟩
theorem word_cond2 {s : ByteArray} {x : Nat} : (!isL (sb s (x : Int).toNat) && !(decide (48 ≤ sb s (x : Int).toNat) && decide (sb s (x : Int).toNat ≤ 57)) && decide (sb s (x : Int).toNat ≠ 95) && decide (sb s (x : Int).toNat ≠ 39)) = !isC (sb s x) := by
  rw [Int.toNat_natCast]
  unfold isC
  generalize sb s x = c
  cases h1 : isL c <;> simp
theorem okAt_0 {s : ByteArray} {i : Nat} (h : i < 1) (hl : isL (sb s 0) = true) : okAt s i := by
  have : i = 0 := by omega
  subst this
  exact hl
theorem okAt_C {s : ByteArray} {i : Nat} (h : 1 ≤ i) (hl : isC (sb s i) = true) : okAt s i := by
  unfold okAt; rw [if_neg (by omega)]; exact hl
theorem okAt_not {s : ByteArray} {i : Nat} (h : 1 ≤ i) (hl : isC (sb s i) = false) (ho : okAt s i) : False := by
  unfold okAt at ho; rw [if_neg (by omega), hl] at ho; cases ho
theorem word_bad {s : ByteArray} (h : ((s.size : Int) < 1 ∨ 31 < (s.size : Int)) ∨ isL (sb s (Int.toNat 0)) = false) : Value.bool false = Value.bool (decide (isWord s)) := by
  rw [decide_eq_false]
  rintro ⟨h1, h2, h3, _⟩
  rcases h with h | h
  · omega
  · have := h3 0 h1
    unfold okAt at this
    rw [if_pos rfl] at this
    rw [show Int.toNat 0 = 0 from rfl, this] at h; cases h
theorem word_res {s t : ByteArray} {i : Nat} (h : resv[i]? = some t) (e : s = t) : Value.bool false = Value.bool (decide (isWord s)) := by
  rw [decide_eq_false]
  rintro ⟨_, _, _, h4⟩
  have : isResv s = true := by
    unfold isResv
    rw [List.any_eq_true]
    exact ⟨t, List.mem_of_getElem? h, by simpa using e⟩
  rw [this] at h4; cases h4
theorem word_yes {s : ByteArray} (h1 : 1 ≤ s.size) (h2 : s.size ≤ 31) (h3 : ∀ i, i < s.size → okAt s i) (h4 : ∀ (i : Nat) t, resv[i]? = some t → s ≠ t) : Value.bool true = Value.bool (decide (isWord s)) := by
  rw [decide_eq_true (show isWord s from ⟨h1, h2, h3, ?_⟩)]
  unfold isResv
  rw [List.any_eq_false]
  intro t ht
  obtain ⟨i, hi⟩ := List.getElem?_of_mem ht
  simpa using h4 i t hi
theorem word_no {s : ByteArray} {x : Nat} (hx : x < s.size) (h : ¬ okAt s x) : Value.bool false = Value.bool (decide (isWord s)) := by
  rw [decide_eq_false (fun hw => h (hw.2.2.1 x hx))]

theorem ref03_letter_ok (w : World) (c : Int) : Calls PP F_ref03_letter #[.int .u8 c] w fun e w' => ∃ v, e = .returned v ∧ (v = .bool (isL c) ∧ Ext w w') := by
  refine calls_of_wc (n := 17) fn_ref03_letter rfl rfl (by simp) ?_
  have E := Ext.refl w
  refine wc_seq ?_
  refine wc_region ?_
  refine wl_does (does_as_b rfl) (by decide) ?_
  refine wl_nil ?_
  refine wc_seq ?_
  refine wc_region ?_
  refine wl_does (does_mv_i rfl) (by decide) ?_
  refine wl_does (does_ge rfl rfl) (by decide) ?_
  refine wl_does (does_mv_b rfl) (by decide) ?_
  refine wl_guard (j := 2) (pol := true) rfl rfl rfl (by decide) (fun hg => does_mv_i rfl) (by decide) ?_
  refine wl_guard (j := 2) (pol := true) rfl rfl rfl (by decide) (fun hg => does_le (gv_yes hg) rfl) (by decide) ?_
  refine wl_does (does_and rfl (fun hp => (gv_yes (and_1 hp)))) (by decide) ?_
  refine wl_does (does_mv_b rfl) (by decide) ?_
  refine wl_guard (j := 6) (pol := false) rfl rfl rfl (by decide) (fun hg => does_mv_i rfl) (by decide) ?_
  refine wl_guard (j := 6) (pol := false) rfl rfl rfl (by decide) (fun hg => does_ge (gv_yes hg) rfl) (by decide) ?_
  refine wl_guard (j := 6) (pol := false) rfl rfl rfl (by decide) (fun hg => does_mv_b (gv_yes hg)) (by decide) ?_
  refine wl_guard2 (j := 9) (pol := true) rfl rfl rfl (by decide) (fun hg => does_mv_i rfl) (by decide) ?_
  refine wl_guard2 (j := 9) (pol := true) rfl rfl rfl (by decide) (fun hg => does_le (gv_yes hg) rfl) (by decide) ?_
  refine wl_guard (j := 6) (pol := false) rfl rfl rfl (by decide) (fun hg => does_and (gv_yes hg) (fun hp => (gv_yes (and_b hg hp)))) (by decide) ?_
  refine wl_does (does_or rfl (fun hp => (gv_yes (and_1 hp)))) (by decide) ?_
  refine wl_does (does_as_b rfl) (by decide) ?_
  refine wl_nil ?_
  refine wc_ret ?_
  exact ⟨_, (rets1 (retOne_tmp rfl)), congrArg Value.bool (letter_walk c), E⟩

theorem formula_reserved_ok (w : World) (s : ByteArray) : Calls PP F_formula_reserved #[.string s] w fun e w' => ∃ v, e = .returned v ∧ (v = .bool (isResv s) ∧ Ext w w') := by
  refine calls_of_wc (n := 17) fn_formula_reserved rfl rfl (by simp) ?_
  have E := Ext.refl w
  refine wc_seq ?_
  refine wc_region ?_
  refine wl_does (does_as_b rfl) (by decide) ?_
  refine wl_nil ?_
  refine wc_seq ?_
  refine wc_seq ?_
  refine wc_region ?_
  refine wl_does (does_mv_s rfl) (by decide) ?_
  refine wl_nil ?_
  refine wc_block ?_
  refine wc_seq ?_
  refine wc_seq ?_
  refine wc_region ?_
  refine wl_does (does_eqs rfl rfl) (by decide) ?_
  refine wl_does (does_as_b rfl) (by decide) ?_
  refine wl_nil ?_
  refine wc_if rfl (fun hc1 => ?_) (fun hc1 => ?_)
  all_goals try simp only [decide_eq_true_eq, decide_eq_false_iff_not, Bool.and_eq_true, Bool.or_eq_true, Bool.and_eq_false_iff, Bool.or_eq_false_iff, Bool.not_eq_true', Bool.not_eq_false', Int.not_lt, Int.not_le, ne_eq, Decidable.not_not] at hc1
  · refine wc_skip ?_
    refine wc_if rfl (fun hc2 => ?_) (fun hc2 => ?_)
    all_goals try simp only [decide_eq_true_eq, decide_eq_false_iff_not, Bool.and_eq_true, Bool.or_eq_true, Bool.and_eq_false_iff, Bool.or_eq_false_iff, Bool.not_eq_true', Bool.not_eq_false', Int.not_lt, Int.not_le, ne_eq, Decidable.not_not] at hc2
    · refine wc_seq ?_
      refine wc_region ?_
      refine wl_does (does_as_b rfl) (by decide) ?_
      refine wl_nil ?_
      refine wc_ret ?_
      first | contradiction | (refine ⟨.bool true, (rets1 (retOne_tmp rfl)), ?_, E⟩; first | exact (resv_at ⟨#[97, 98, 111, 114, 116]⟩ (by decide) ‹_›) | exact (resv_at ⟨#[99, 97, 115, 101]⟩ (by decide) ‹_›) | exact (resv_at ⟨#[102, 97, 108, 115, 101]⟩ (by decide) ‹_›) | exact (resv_at ⟨#[102, 115, 116]⟩ (by decide) ‹_›) | exact (resv_at ⟨#[102, 117, 110]⟩ (by decide) ‹_›) | exact (resv_at ⟨#[105, 110]⟩ (by decide) ‹_›) | exact (resv_at ⟨#[105, 110, 108]⟩ (by decide) ‹_›) | exact (resv_at ⟨#[105, 110, 114]⟩ (by decide) ‹_›) | exact (resv_at ⟨#[108, 101, 116]⟩ (by decide) ‹_›) | exact (resv_at ⟨#[111, 102]⟩ (by decide) ‹_›) | exact (resv_at ⟨#[115, 110, 100]⟩ (by decide) ‹_›) | exact (resv_at ⟨#[116, 114, 117, 101]⟩ (by decide) ‹_›)) | (refine ⟨.bool false, (rets1 (retOne_tmp rfl)), ?_, E⟩; exact resv_no (by refine ⟨?_, ?_, ?_, ?_, ?_, ?_, ?_, ?_, ?_, ?_, ?_, ?_⟩ <;> assumption))
    refine wc_skip ?_
    refine wc_seq ?_
    refine wc_region ?_
    refine wl_does (does_as_b rfl) (by decide) ?_
    refine wl_nil ?_
    refine wc_ret ?_
    first | contradiction | (refine ⟨.bool true, (rets1 (retOne_tmp rfl)), ?_, E⟩; first | exact (resv_at ⟨#[97, 98, 111, 114, 116]⟩ (by decide) ‹_›) | exact (resv_at ⟨#[99, 97, 115, 101]⟩ (by decide) ‹_›) | exact (resv_at ⟨#[102, 97, 108, 115, 101]⟩ (by decide) ‹_›) | exact (resv_at ⟨#[102, 115, 116]⟩ (by decide) ‹_›) | exact (resv_at ⟨#[102, 117, 110]⟩ (by decide) ‹_›) | exact (resv_at ⟨#[105, 110]⟩ (by decide) ‹_›) | exact (resv_at ⟨#[105, 110, 108]⟩ (by decide) ‹_›) | exact (resv_at ⟨#[105, 110, 114]⟩ (by decide) ‹_›) | exact (resv_at ⟨#[108, 101, 116]⟩ (by decide) ‹_›) | exact (resv_at ⟨#[111, 102]⟩ (by decide) ‹_›) | exact (resv_at ⟨#[115, 110, 100]⟩ (by decide) ‹_›) | exact (resv_at ⟨#[116, 114, 117, 101]⟩ (by decide) ‹_›)) | (refine ⟨.bool false, (rets1 (retOne_tmp rfl)), ?_, E⟩; exact resv_no (by refine ⟨?_, ?_, ?_, ?_, ?_, ?_, ?_, ?_, ?_, ?_, ?_, ?_⟩ <;> assumption))
  · refine wc_seq ?_
    refine wc_region ?_
    refine wl_does (does_eqs rfl rfl) (by decide) ?_
    refine wl_does (does_as_b rfl) (by decide) ?_
    refine wl_nil ?_
    refine wc_if rfl (fun hc3 => ?_) (fun hc3 => ?_)
    all_goals try simp only [decide_eq_true_eq, decide_eq_false_iff_not, Bool.and_eq_true, Bool.or_eq_true, Bool.and_eq_false_iff, Bool.or_eq_false_iff, Bool.not_eq_true', Bool.not_eq_false', Int.not_lt, Int.not_le, ne_eq, Decidable.not_not] at hc3
    · refine wc_skip ?_
      refine wc_if rfl (fun hc4 => ?_) (fun hc4 => ?_)
      all_goals try simp only [decide_eq_true_eq, decide_eq_false_iff_not, Bool.and_eq_true, Bool.or_eq_true, Bool.and_eq_false_iff, Bool.or_eq_false_iff, Bool.not_eq_true', Bool.not_eq_false', Int.not_lt, Int.not_le, ne_eq, Decidable.not_not] at hc4
      · refine wc_seq ?_
        refine wc_region ?_
        refine wl_does (does_as_b rfl) (by decide) ?_
        refine wl_nil ?_
        refine wc_ret ?_
        first | contradiction | (refine ⟨.bool true, (rets1 (retOne_tmp rfl)), ?_, E⟩; first | exact (resv_at ⟨#[97, 98, 111, 114, 116]⟩ (by decide) ‹_›) | exact (resv_at ⟨#[99, 97, 115, 101]⟩ (by decide) ‹_›) | exact (resv_at ⟨#[102, 97, 108, 115, 101]⟩ (by decide) ‹_›) | exact (resv_at ⟨#[102, 115, 116]⟩ (by decide) ‹_›) | exact (resv_at ⟨#[102, 117, 110]⟩ (by decide) ‹_›) | exact (resv_at ⟨#[105, 110]⟩ (by decide) ‹_›) | exact (resv_at ⟨#[105, 110, 108]⟩ (by decide) ‹_›) | exact (resv_at ⟨#[105, 110, 114]⟩ (by decide) ‹_›) | exact (resv_at ⟨#[108, 101, 116]⟩ (by decide) ‹_›) | exact (resv_at ⟨#[111, 102]⟩ (by decide) ‹_›) | exact (resv_at ⟨#[115, 110, 100]⟩ (by decide) ‹_›) | exact (resv_at ⟨#[116, 114, 117, 101]⟩ (by decide) ‹_›)) | (refine ⟨.bool false, (rets1 (retOne_tmp rfl)), ?_, E⟩; exact resv_no (by refine ⟨?_, ?_, ?_, ?_, ?_, ?_, ?_, ?_, ?_, ?_, ?_, ?_⟩ <;> assumption))
      refine wc_skip ?_
      refine wc_seq ?_
      refine wc_region ?_
      refine wl_does (does_as_b rfl) (by decide) ?_
      refine wl_nil ?_
      refine wc_ret ?_
      first | contradiction | (refine ⟨.bool true, (rets1 (retOne_tmp rfl)), ?_, E⟩; first | exact (resv_at ⟨#[97, 98, 111, 114, 116]⟩ (by decide) ‹_›) | exact (resv_at ⟨#[99, 97, 115, 101]⟩ (by decide) ‹_›) | exact (resv_at ⟨#[102, 97, 108, 115, 101]⟩ (by decide) ‹_›) | exact (resv_at ⟨#[102, 115, 116]⟩ (by decide) ‹_›) | exact (resv_at ⟨#[102, 117, 110]⟩ (by decide) ‹_›) | exact (resv_at ⟨#[105, 110]⟩ (by decide) ‹_›) | exact (resv_at ⟨#[105, 110, 108]⟩ (by decide) ‹_›) | exact (resv_at ⟨#[105, 110, 114]⟩ (by decide) ‹_›) | exact (resv_at ⟨#[108, 101, 116]⟩ (by decide) ‹_›) | exact (resv_at ⟨#[111, 102]⟩ (by decide) ‹_›) | exact (resv_at ⟨#[115, 110, 100]⟩ (by decide) ‹_›) | exact (resv_at ⟨#[116, 114, 117, 101]⟩ (by decide) ‹_›)) | (refine ⟨.bool false, (rets1 (retOne_tmp rfl)), ?_, E⟩; exact resv_no (by refine ⟨?_, ?_, ?_, ?_, ?_, ?_, ?_, ?_, ?_, ?_, ?_, ?_⟩ <;> assumption))
    · refine wc_seq ?_
      refine wc_region ?_
      refine wl_does (does_eqs rfl rfl) (by decide) ?_
      refine wl_does (does_as_b rfl) (by decide) ?_
      refine wl_nil ?_
      refine wc_if rfl (fun hc5 => ?_) (fun hc5 => ?_)
      all_goals try simp only [decide_eq_true_eq, decide_eq_false_iff_not, Bool.and_eq_true, Bool.or_eq_true, Bool.and_eq_false_iff, Bool.or_eq_false_iff, Bool.not_eq_true', Bool.not_eq_false', Int.not_lt, Int.not_le, ne_eq, Decidable.not_not] at hc5
      · refine wc_skip ?_
        refine wc_if rfl (fun hc6 => ?_) (fun hc6 => ?_)
        all_goals try simp only [decide_eq_true_eq, decide_eq_false_iff_not, Bool.and_eq_true, Bool.or_eq_true, Bool.and_eq_false_iff, Bool.or_eq_false_iff, Bool.not_eq_true', Bool.not_eq_false', Int.not_lt, Int.not_le, ne_eq, Decidable.not_not] at hc6
        · refine wc_seq ?_
          refine wc_region ?_
          refine wl_does (does_as_b rfl) (by decide) ?_
          refine wl_nil ?_
          refine wc_ret ?_
          first | contradiction | (refine ⟨.bool true, (rets1 (retOne_tmp rfl)), ?_, E⟩; first | exact (resv_at ⟨#[97, 98, 111, 114, 116]⟩ (by decide) ‹_›) | exact (resv_at ⟨#[99, 97, 115, 101]⟩ (by decide) ‹_›) | exact (resv_at ⟨#[102, 97, 108, 115, 101]⟩ (by decide) ‹_›) | exact (resv_at ⟨#[102, 115, 116]⟩ (by decide) ‹_›) | exact (resv_at ⟨#[102, 117, 110]⟩ (by decide) ‹_›) | exact (resv_at ⟨#[105, 110]⟩ (by decide) ‹_›) | exact (resv_at ⟨#[105, 110, 108]⟩ (by decide) ‹_›) | exact (resv_at ⟨#[105, 110, 114]⟩ (by decide) ‹_›) | exact (resv_at ⟨#[108, 101, 116]⟩ (by decide) ‹_›) | exact (resv_at ⟨#[111, 102]⟩ (by decide) ‹_›) | exact (resv_at ⟨#[115, 110, 100]⟩ (by decide) ‹_›) | exact (resv_at ⟨#[116, 114, 117, 101]⟩ (by decide) ‹_›)) | (refine ⟨.bool false, (rets1 (retOne_tmp rfl)), ?_, E⟩; exact resv_no (by refine ⟨?_, ?_, ?_, ?_, ?_, ?_, ?_, ?_, ?_, ?_, ?_, ?_⟩ <;> assumption))
        refine wc_skip ?_
        refine wc_seq ?_
        refine wc_region ?_
        refine wl_does (does_as_b rfl) (by decide) ?_
        refine wl_nil ?_
        refine wc_ret ?_
        first | contradiction | (refine ⟨.bool true, (rets1 (retOne_tmp rfl)), ?_, E⟩; first | exact (resv_at ⟨#[97, 98, 111, 114, 116]⟩ (by decide) ‹_›) | exact (resv_at ⟨#[99, 97, 115, 101]⟩ (by decide) ‹_›) | exact (resv_at ⟨#[102, 97, 108, 115, 101]⟩ (by decide) ‹_›) | exact (resv_at ⟨#[102, 115, 116]⟩ (by decide) ‹_›) | exact (resv_at ⟨#[102, 117, 110]⟩ (by decide) ‹_›) | exact (resv_at ⟨#[105, 110]⟩ (by decide) ‹_›) | exact (resv_at ⟨#[105, 110, 108]⟩ (by decide) ‹_›) | exact (resv_at ⟨#[105, 110, 114]⟩ (by decide) ‹_›) | exact (resv_at ⟨#[108, 101, 116]⟩ (by decide) ‹_›) | exact (resv_at ⟨#[111, 102]⟩ (by decide) ‹_›) | exact (resv_at ⟨#[115, 110, 100]⟩ (by decide) ‹_›) | exact (resv_at ⟨#[116, 114, 117, 101]⟩ (by decide) ‹_›)) | (refine ⟨.bool false, (rets1 (retOne_tmp rfl)), ?_, E⟩; exact resv_no (by refine ⟨?_, ?_, ?_, ?_, ?_, ?_, ?_, ?_, ?_, ?_, ?_, ?_⟩ <;> assumption))
      · refine wc_seq ?_
        refine wc_region ?_
        refine wl_does (does_eqs rfl rfl) (by decide) ?_
        refine wl_does (does_as_b rfl) (by decide) ?_
        refine wl_nil ?_
        refine wc_if rfl (fun hc7 => ?_) (fun hc7 => ?_)
        all_goals try simp only [decide_eq_true_eq, decide_eq_false_iff_not, Bool.and_eq_true, Bool.or_eq_true, Bool.and_eq_false_iff, Bool.or_eq_false_iff, Bool.not_eq_true', Bool.not_eq_false', Int.not_lt, Int.not_le, ne_eq, Decidable.not_not] at hc7
        · refine wc_skip ?_
          refine wc_if rfl (fun hc8 => ?_) (fun hc8 => ?_)
          all_goals try simp only [decide_eq_true_eq, decide_eq_false_iff_not, Bool.and_eq_true, Bool.or_eq_true, Bool.and_eq_false_iff, Bool.or_eq_false_iff, Bool.not_eq_true', Bool.not_eq_false', Int.not_lt, Int.not_le, ne_eq, Decidable.not_not] at hc8
          · refine wc_seq ?_
            refine wc_region ?_
            refine wl_does (does_as_b rfl) (by decide) ?_
            refine wl_nil ?_
            refine wc_ret ?_
            first | contradiction | (refine ⟨.bool true, (rets1 (retOne_tmp rfl)), ?_, E⟩; first | exact (resv_at ⟨#[97, 98, 111, 114, 116]⟩ (by decide) ‹_›) | exact (resv_at ⟨#[99, 97, 115, 101]⟩ (by decide) ‹_›) | exact (resv_at ⟨#[102, 97, 108, 115, 101]⟩ (by decide) ‹_›) | exact (resv_at ⟨#[102, 115, 116]⟩ (by decide) ‹_›) | exact (resv_at ⟨#[102, 117, 110]⟩ (by decide) ‹_›) | exact (resv_at ⟨#[105, 110]⟩ (by decide) ‹_›) | exact (resv_at ⟨#[105, 110, 108]⟩ (by decide) ‹_›) | exact (resv_at ⟨#[105, 110, 114]⟩ (by decide) ‹_›) | exact (resv_at ⟨#[108, 101, 116]⟩ (by decide) ‹_›) | exact (resv_at ⟨#[111, 102]⟩ (by decide) ‹_›) | exact (resv_at ⟨#[115, 110, 100]⟩ (by decide) ‹_›) | exact (resv_at ⟨#[116, 114, 117, 101]⟩ (by decide) ‹_›)) | (refine ⟨.bool false, (rets1 (retOne_tmp rfl)), ?_, E⟩; exact resv_no (by refine ⟨?_, ?_, ?_, ?_, ?_, ?_, ?_, ?_, ?_, ?_, ?_, ?_⟩ <;> assumption))
          refine wc_skip ?_
          refine wc_seq ?_
          refine wc_region ?_
          refine wl_does (does_as_b rfl) (by decide) ?_
          refine wl_nil ?_
          refine wc_ret ?_
          first | contradiction | (refine ⟨.bool true, (rets1 (retOne_tmp rfl)), ?_, E⟩; first | exact (resv_at ⟨#[97, 98, 111, 114, 116]⟩ (by decide) ‹_›) | exact (resv_at ⟨#[99, 97, 115, 101]⟩ (by decide) ‹_›) | exact (resv_at ⟨#[102, 97, 108, 115, 101]⟩ (by decide) ‹_›) | exact (resv_at ⟨#[102, 115, 116]⟩ (by decide) ‹_›) | exact (resv_at ⟨#[102, 117, 110]⟩ (by decide) ‹_›) | exact (resv_at ⟨#[105, 110]⟩ (by decide) ‹_›) | exact (resv_at ⟨#[105, 110, 108]⟩ (by decide) ‹_›) | exact (resv_at ⟨#[105, 110, 114]⟩ (by decide) ‹_›) | exact (resv_at ⟨#[108, 101, 116]⟩ (by decide) ‹_›) | exact (resv_at ⟨#[111, 102]⟩ (by decide) ‹_›) | exact (resv_at ⟨#[115, 110, 100]⟩ (by decide) ‹_›) | exact (resv_at ⟨#[116, 114, 117, 101]⟩ (by decide) ‹_›)) | (refine ⟨.bool false, (rets1 (retOne_tmp rfl)), ?_, E⟩; exact resv_no (by refine ⟨?_, ?_, ?_, ?_, ?_, ?_, ?_, ?_, ?_, ?_, ?_, ?_⟩ <;> assumption))
        · refine wc_seq ?_
          refine wc_region ?_
          refine wl_does (does_eqs rfl rfl) (by decide) ?_
          refine wl_does (does_as_b rfl) (by decide) ?_
          refine wl_nil ?_
          refine wc_if rfl (fun hc9 => ?_) (fun hc9 => ?_)
          all_goals try simp only [decide_eq_true_eq, decide_eq_false_iff_not, Bool.and_eq_true, Bool.or_eq_true, Bool.and_eq_false_iff, Bool.or_eq_false_iff, Bool.not_eq_true', Bool.not_eq_false', Int.not_lt, Int.not_le, ne_eq, Decidable.not_not] at hc9
          · refine wc_skip ?_
            refine wc_if rfl (fun hc10 => ?_) (fun hc10 => ?_)
            all_goals try simp only [decide_eq_true_eq, decide_eq_false_iff_not, Bool.and_eq_true, Bool.or_eq_true, Bool.and_eq_false_iff, Bool.or_eq_false_iff, Bool.not_eq_true', Bool.not_eq_false', Int.not_lt, Int.not_le, ne_eq, Decidable.not_not] at hc10
            · refine wc_seq ?_
              refine wc_region ?_
              refine wl_does (does_as_b rfl) (by decide) ?_
              refine wl_nil ?_
              refine wc_ret ?_
              first | contradiction | (refine ⟨.bool true, (rets1 (retOne_tmp rfl)), ?_, E⟩; first | exact (resv_at ⟨#[97, 98, 111, 114, 116]⟩ (by decide) ‹_›) | exact (resv_at ⟨#[99, 97, 115, 101]⟩ (by decide) ‹_›) | exact (resv_at ⟨#[102, 97, 108, 115, 101]⟩ (by decide) ‹_›) | exact (resv_at ⟨#[102, 115, 116]⟩ (by decide) ‹_›) | exact (resv_at ⟨#[102, 117, 110]⟩ (by decide) ‹_›) | exact (resv_at ⟨#[105, 110]⟩ (by decide) ‹_›) | exact (resv_at ⟨#[105, 110, 108]⟩ (by decide) ‹_›) | exact (resv_at ⟨#[105, 110, 114]⟩ (by decide) ‹_›) | exact (resv_at ⟨#[108, 101, 116]⟩ (by decide) ‹_›) | exact (resv_at ⟨#[111, 102]⟩ (by decide) ‹_›) | exact (resv_at ⟨#[115, 110, 100]⟩ (by decide) ‹_›) | exact (resv_at ⟨#[116, 114, 117, 101]⟩ (by decide) ‹_›)) | (refine ⟨.bool false, (rets1 (retOne_tmp rfl)), ?_, E⟩; exact resv_no (by refine ⟨?_, ?_, ?_, ?_, ?_, ?_, ?_, ?_, ?_, ?_, ?_, ?_⟩ <;> assumption))
            refine wc_skip ?_
            refine wc_seq ?_
            refine wc_region ?_
            refine wl_does (does_as_b rfl) (by decide) ?_
            refine wl_nil ?_
            refine wc_ret ?_
            first | contradiction | (refine ⟨.bool true, (rets1 (retOne_tmp rfl)), ?_, E⟩; first | exact (resv_at ⟨#[97, 98, 111, 114, 116]⟩ (by decide) ‹_›) | exact (resv_at ⟨#[99, 97, 115, 101]⟩ (by decide) ‹_›) | exact (resv_at ⟨#[102, 97, 108, 115, 101]⟩ (by decide) ‹_›) | exact (resv_at ⟨#[102, 115, 116]⟩ (by decide) ‹_›) | exact (resv_at ⟨#[102, 117, 110]⟩ (by decide) ‹_›) | exact (resv_at ⟨#[105, 110]⟩ (by decide) ‹_›) | exact (resv_at ⟨#[105, 110, 108]⟩ (by decide) ‹_›) | exact (resv_at ⟨#[105, 110, 114]⟩ (by decide) ‹_›) | exact (resv_at ⟨#[108, 101, 116]⟩ (by decide) ‹_›) | exact (resv_at ⟨#[111, 102]⟩ (by decide) ‹_›) | exact (resv_at ⟨#[115, 110, 100]⟩ (by decide) ‹_›) | exact (resv_at ⟨#[116, 114, 117, 101]⟩ (by decide) ‹_›)) | (refine ⟨.bool false, (rets1 (retOne_tmp rfl)), ?_, E⟩; exact resv_no (by refine ⟨?_, ?_, ?_, ?_, ?_, ?_, ?_, ?_, ?_, ?_, ?_, ?_⟩ <;> assumption))
          · refine wc_seq ?_
            refine wc_region ?_
            refine wl_does (does_eqs rfl rfl) (by decide) ?_
            refine wl_does (does_as_b rfl) (by decide) ?_
            refine wl_nil ?_
            refine wc_if rfl (fun hc11 => ?_) (fun hc11 => ?_)
            all_goals try simp only [decide_eq_true_eq, decide_eq_false_iff_not, Bool.and_eq_true, Bool.or_eq_true, Bool.and_eq_false_iff, Bool.or_eq_false_iff, Bool.not_eq_true', Bool.not_eq_false', Int.not_lt, Int.not_le, ne_eq, Decidable.not_not] at hc11
            · refine wc_skip ?_
              refine wc_if rfl (fun hc12 => ?_) (fun hc12 => ?_)
              all_goals try simp only [decide_eq_true_eq, decide_eq_false_iff_not, Bool.and_eq_true, Bool.or_eq_true, Bool.and_eq_false_iff, Bool.or_eq_false_iff, Bool.not_eq_true', Bool.not_eq_false', Int.not_lt, Int.not_le, ne_eq, Decidable.not_not] at hc12
              · refine wc_seq ?_
                refine wc_region ?_
                refine wl_does (does_as_b rfl) (by decide) ?_
                refine wl_nil ?_
                refine wc_ret ?_
                first | contradiction | (refine ⟨.bool true, (rets1 (retOne_tmp rfl)), ?_, E⟩; first | exact (resv_at ⟨#[97, 98, 111, 114, 116]⟩ (by decide) ‹_›) | exact (resv_at ⟨#[99, 97, 115, 101]⟩ (by decide) ‹_›) | exact (resv_at ⟨#[102, 97, 108, 115, 101]⟩ (by decide) ‹_›) | exact (resv_at ⟨#[102, 115, 116]⟩ (by decide) ‹_›) | exact (resv_at ⟨#[102, 117, 110]⟩ (by decide) ‹_›) | exact (resv_at ⟨#[105, 110]⟩ (by decide) ‹_›) | exact (resv_at ⟨#[105, 110, 108]⟩ (by decide) ‹_›) | exact (resv_at ⟨#[105, 110, 114]⟩ (by decide) ‹_›) | exact (resv_at ⟨#[108, 101, 116]⟩ (by decide) ‹_›) | exact (resv_at ⟨#[111, 102]⟩ (by decide) ‹_›) | exact (resv_at ⟨#[115, 110, 100]⟩ (by decide) ‹_›) | exact (resv_at ⟨#[116, 114, 117, 101]⟩ (by decide) ‹_›)) | (refine ⟨.bool false, (rets1 (retOne_tmp rfl)), ?_, E⟩; exact resv_no (by refine ⟨?_, ?_, ?_, ?_, ?_, ?_, ?_, ?_, ?_, ?_, ?_, ?_⟩ <;> assumption))
              refine wc_skip ?_
              refine wc_seq ?_
              refine wc_region ?_
              refine wl_does (does_as_b rfl) (by decide) ?_
              refine wl_nil ?_
              refine wc_ret ?_
              first | contradiction | (refine ⟨.bool true, (rets1 (retOne_tmp rfl)), ?_, E⟩; first | exact (resv_at ⟨#[97, 98, 111, 114, 116]⟩ (by decide) ‹_›) | exact (resv_at ⟨#[99, 97, 115, 101]⟩ (by decide) ‹_›) | exact (resv_at ⟨#[102, 97, 108, 115, 101]⟩ (by decide) ‹_›) | exact (resv_at ⟨#[102, 115, 116]⟩ (by decide) ‹_›) | exact (resv_at ⟨#[102, 117, 110]⟩ (by decide) ‹_›) | exact (resv_at ⟨#[105, 110]⟩ (by decide) ‹_›) | exact (resv_at ⟨#[105, 110, 108]⟩ (by decide) ‹_›) | exact (resv_at ⟨#[105, 110, 114]⟩ (by decide) ‹_›) | exact (resv_at ⟨#[108, 101, 116]⟩ (by decide) ‹_›) | exact (resv_at ⟨#[111, 102]⟩ (by decide) ‹_›) | exact (resv_at ⟨#[115, 110, 100]⟩ (by decide) ‹_›) | exact (resv_at ⟨#[116, 114, 117, 101]⟩ (by decide) ‹_›)) | (refine ⟨.bool false, (rets1 (retOne_tmp rfl)), ?_, E⟩; exact resv_no (by refine ⟨?_, ?_, ?_, ?_, ?_, ?_, ?_, ?_, ?_, ?_, ?_, ?_⟩ <;> assumption))
            · refine wc_seq ?_
              refine wc_region ?_
              refine wl_does (does_eqs rfl rfl) (by decide) ?_
              refine wl_does (does_as_b rfl) (by decide) ?_
              refine wl_nil ?_
              refine wc_if rfl (fun hc13 => ?_) (fun hc13 => ?_)
              all_goals try simp only [decide_eq_true_eq, decide_eq_false_iff_not, Bool.and_eq_true, Bool.or_eq_true, Bool.and_eq_false_iff, Bool.or_eq_false_iff, Bool.not_eq_true', Bool.not_eq_false', Int.not_lt, Int.not_le, ne_eq, Decidable.not_not] at hc13
              · refine wc_skip ?_
                refine wc_if rfl (fun hc14 => ?_) (fun hc14 => ?_)
                all_goals try simp only [decide_eq_true_eq, decide_eq_false_iff_not, Bool.and_eq_true, Bool.or_eq_true, Bool.and_eq_false_iff, Bool.or_eq_false_iff, Bool.not_eq_true', Bool.not_eq_false', Int.not_lt, Int.not_le, ne_eq, Decidable.not_not] at hc14
                · refine wc_seq ?_
                  refine wc_region ?_
                  refine wl_does (does_as_b rfl) (by decide) ?_
                  refine wl_nil ?_
                  refine wc_ret ?_
                  first | contradiction | (refine ⟨.bool true, (rets1 (retOne_tmp rfl)), ?_, E⟩; first | exact (resv_at ⟨#[97, 98, 111, 114, 116]⟩ (by decide) ‹_›) | exact (resv_at ⟨#[99, 97, 115, 101]⟩ (by decide) ‹_›) | exact (resv_at ⟨#[102, 97, 108, 115, 101]⟩ (by decide) ‹_›) | exact (resv_at ⟨#[102, 115, 116]⟩ (by decide) ‹_›) | exact (resv_at ⟨#[102, 117, 110]⟩ (by decide) ‹_›) | exact (resv_at ⟨#[105, 110]⟩ (by decide) ‹_›) | exact (resv_at ⟨#[105, 110, 108]⟩ (by decide) ‹_›) | exact (resv_at ⟨#[105, 110, 114]⟩ (by decide) ‹_›) | exact (resv_at ⟨#[108, 101, 116]⟩ (by decide) ‹_›) | exact (resv_at ⟨#[111, 102]⟩ (by decide) ‹_›) | exact (resv_at ⟨#[115, 110, 100]⟩ (by decide) ‹_›) | exact (resv_at ⟨#[116, 114, 117, 101]⟩ (by decide) ‹_›)) | (refine ⟨.bool false, (rets1 (retOne_tmp rfl)), ?_, E⟩; exact resv_no (by refine ⟨?_, ?_, ?_, ?_, ?_, ?_, ?_, ?_, ?_, ?_, ?_, ?_⟩ <;> assumption))
                refine wc_skip ?_
                refine wc_seq ?_
                refine wc_region ?_
                refine wl_does (does_as_b rfl) (by decide) ?_
                refine wl_nil ?_
                refine wc_ret ?_
                first | contradiction | (refine ⟨.bool true, (rets1 (retOne_tmp rfl)), ?_, E⟩; first | exact (resv_at ⟨#[97, 98, 111, 114, 116]⟩ (by decide) ‹_›) | exact (resv_at ⟨#[99, 97, 115, 101]⟩ (by decide) ‹_›) | exact (resv_at ⟨#[102, 97, 108, 115, 101]⟩ (by decide) ‹_›) | exact (resv_at ⟨#[102, 115, 116]⟩ (by decide) ‹_›) | exact (resv_at ⟨#[102, 117, 110]⟩ (by decide) ‹_›) | exact (resv_at ⟨#[105, 110]⟩ (by decide) ‹_›) | exact (resv_at ⟨#[105, 110, 108]⟩ (by decide) ‹_›) | exact (resv_at ⟨#[105, 110, 114]⟩ (by decide) ‹_›) | exact (resv_at ⟨#[108, 101, 116]⟩ (by decide) ‹_›) | exact (resv_at ⟨#[111, 102]⟩ (by decide) ‹_›) | exact (resv_at ⟨#[115, 110, 100]⟩ (by decide) ‹_›) | exact (resv_at ⟨#[116, 114, 117, 101]⟩ (by decide) ‹_›)) | (refine ⟨.bool false, (rets1 (retOne_tmp rfl)), ?_, E⟩; exact resv_no (by refine ⟨?_, ?_, ?_, ?_, ?_, ?_, ?_, ?_, ?_, ?_, ?_, ?_⟩ <;> assumption))
              · refine wc_seq ?_
                refine wc_region ?_
                refine wl_does (does_eqs rfl rfl) (by decide) ?_
                refine wl_does (does_as_b rfl) (by decide) ?_
                refine wl_nil ?_
                refine wc_if rfl (fun hc15 => ?_) (fun hc15 => ?_)
                all_goals try simp only [decide_eq_true_eq, decide_eq_false_iff_not, Bool.and_eq_true, Bool.or_eq_true, Bool.and_eq_false_iff, Bool.or_eq_false_iff, Bool.not_eq_true', Bool.not_eq_false', Int.not_lt, Int.not_le, ne_eq, Decidable.not_not] at hc15
                · refine wc_skip ?_
                  refine wc_if rfl (fun hc16 => ?_) (fun hc16 => ?_)
                  all_goals try simp only [decide_eq_true_eq, decide_eq_false_iff_not, Bool.and_eq_true, Bool.or_eq_true, Bool.and_eq_false_iff, Bool.or_eq_false_iff, Bool.not_eq_true', Bool.not_eq_false', Int.not_lt, Int.not_le, ne_eq, Decidable.not_not] at hc16
                  · refine wc_seq ?_
                    refine wc_region ?_
                    refine wl_does (does_as_b rfl) (by decide) ?_
                    refine wl_nil ?_
                    refine wc_ret ?_
                    first | contradiction | (refine ⟨.bool true, (rets1 (retOne_tmp rfl)), ?_, E⟩; first | exact (resv_at ⟨#[97, 98, 111, 114, 116]⟩ (by decide) ‹_›) | exact (resv_at ⟨#[99, 97, 115, 101]⟩ (by decide) ‹_›) | exact (resv_at ⟨#[102, 97, 108, 115, 101]⟩ (by decide) ‹_›) | exact (resv_at ⟨#[102, 115, 116]⟩ (by decide) ‹_›) | exact (resv_at ⟨#[102, 117, 110]⟩ (by decide) ‹_›) | exact (resv_at ⟨#[105, 110]⟩ (by decide) ‹_›) | exact (resv_at ⟨#[105, 110, 108]⟩ (by decide) ‹_›) | exact (resv_at ⟨#[105, 110, 114]⟩ (by decide) ‹_›) | exact (resv_at ⟨#[108, 101, 116]⟩ (by decide) ‹_›) | exact (resv_at ⟨#[111, 102]⟩ (by decide) ‹_›) | exact (resv_at ⟨#[115, 110, 100]⟩ (by decide) ‹_›) | exact (resv_at ⟨#[116, 114, 117, 101]⟩ (by decide) ‹_›)) | (refine ⟨.bool false, (rets1 (retOne_tmp rfl)), ?_, E⟩; exact resv_no (by refine ⟨?_, ?_, ?_, ?_, ?_, ?_, ?_, ?_, ?_, ?_, ?_, ?_⟩ <;> assumption))
                  refine wc_skip ?_
                  refine wc_seq ?_
                  refine wc_region ?_
                  refine wl_does (does_as_b rfl) (by decide) ?_
                  refine wl_nil ?_
                  refine wc_ret ?_
                  first | contradiction | (refine ⟨.bool true, (rets1 (retOne_tmp rfl)), ?_, E⟩; first | exact (resv_at ⟨#[97, 98, 111, 114, 116]⟩ (by decide) ‹_›) | exact (resv_at ⟨#[99, 97, 115, 101]⟩ (by decide) ‹_›) | exact (resv_at ⟨#[102, 97, 108, 115, 101]⟩ (by decide) ‹_›) | exact (resv_at ⟨#[102, 115, 116]⟩ (by decide) ‹_›) | exact (resv_at ⟨#[102, 117, 110]⟩ (by decide) ‹_›) | exact (resv_at ⟨#[105, 110]⟩ (by decide) ‹_›) | exact (resv_at ⟨#[105, 110, 108]⟩ (by decide) ‹_›) | exact (resv_at ⟨#[105, 110, 114]⟩ (by decide) ‹_›) | exact (resv_at ⟨#[108, 101, 116]⟩ (by decide) ‹_›) | exact (resv_at ⟨#[111, 102]⟩ (by decide) ‹_›) | exact (resv_at ⟨#[115, 110, 100]⟩ (by decide) ‹_›) | exact (resv_at ⟨#[116, 114, 117, 101]⟩ (by decide) ‹_›)) | (refine ⟨.bool false, (rets1 (retOne_tmp rfl)), ?_, E⟩; exact resv_no (by refine ⟨?_, ?_, ?_, ?_, ?_, ?_, ?_, ?_, ?_, ?_, ?_, ?_⟩ <;> assumption))
                · refine wc_seq ?_
                  refine wc_region ?_
                  refine wl_does (does_eqs rfl rfl) (by decide) ?_
                  refine wl_does (does_as_b rfl) (by decide) ?_
                  refine wl_nil ?_
                  refine wc_if rfl (fun hc17 => ?_) (fun hc17 => ?_)
                  all_goals try simp only [decide_eq_true_eq, decide_eq_false_iff_not, Bool.and_eq_true, Bool.or_eq_true, Bool.and_eq_false_iff, Bool.or_eq_false_iff, Bool.not_eq_true', Bool.not_eq_false', Int.not_lt, Int.not_le, ne_eq, Decidable.not_not] at hc17
                  · refine wc_skip ?_
                    refine wc_if rfl (fun hc18 => ?_) (fun hc18 => ?_)
                    all_goals try simp only [decide_eq_true_eq, decide_eq_false_iff_not, Bool.and_eq_true, Bool.or_eq_true, Bool.and_eq_false_iff, Bool.or_eq_false_iff, Bool.not_eq_true', Bool.not_eq_false', Int.not_lt, Int.not_le, ne_eq, Decidable.not_not] at hc18
                    · refine wc_seq ?_
                      refine wc_region ?_
                      refine wl_does (does_as_b rfl) (by decide) ?_
                      refine wl_nil ?_
                      refine wc_ret ?_
                      first | contradiction | (refine ⟨.bool true, (rets1 (retOne_tmp rfl)), ?_, E⟩; first | exact (resv_at ⟨#[97, 98, 111, 114, 116]⟩ (by decide) ‹_›) | exact (resv_at ⟨#[99, 97, 115, 101]⟩ (by decide) ‹_›) | exact (resv_at ⟨#[102, 97, 108, 115, 101]⟩ (by decide) ‹_›) | exact (resv_at ⟨#[102, 115, 116]⟩ (by decide) ‹_›) | exact (resv_at ⟨#[102, 117, 110]⟩ (by decide) ‹_›) | exact (resv_at ⟨#[105, 110]⟩ (by decide) ‹_›) | exact (resv_at ⟨#[105, 110, 108]⟩ (by decide) ‹_›) | exact (resv_at ⟨#[105, 110, 114]⟩ (by decide) ‹_›) | exact (resv_at ⟨#[108, 101, 116]⟩ (by decide) ‹_›) | exact (resv_at ⟨#[111, 102]⟩ (by decide) ‹_›) | exact (resv_at ⟨#[115, 110, 100]⟩ (by decide) ‹_›) | exact (resv_at ⟨#[116, 114, 117, 101]⟩ (by decide) ‹_›)) | (refine ⟨.bool false, (rets1 (retOne_tmp rfl)), ?_, E⟩; exact resv_no (by refine ⟨?_, ?_, ?_, ?_, ?_, ?_, ?_, ?_, ?_, ?_, ?_, ?_⟩ <;> assumption))
                    refine wc_skip ?_
                    refine wc_seq ?_
                    refine wc_region ?_
                    refine wl_does (does_as_b rfl) (by decide) ?_
                    refine wl_nil ?_
                    refine wc_ret ?_
                    first | contradiction | (refine ⟨.bool true, (rets1 (retOne_tmp rfl)), ?_, E⟩; first | exact (resv_at ⟨#[97, 98, 111, 114, 116]⟩ (by decide) ‹_›) | exact (resv_at ⟨#[99, 97, 115, 101]⟩ (by decide) ‹_›) | exact (resv_at ⟨#[102, 97, 108, 115, 101]⟩ (by decide) ‹_›) | exact (resv_at ⟨#[102, 115, 116]⟩ (by decide) ‹_›) | exact (resv_at ⟨#[102, 117, 110]⟩ (by decide) ‹_›) | exact (resv_at ⟨#[105, 110]⟩ (by decide) ‹_›) | exact (resv_at ⟨#[105, 110, 108]⟩ (by decide) ‹_›) | exact (resv_at ⟨#[105, 110, 114]⟩ (by decide) ‹_›) | exact (resv_at ⟨#[108, 101, 116]⟩ (by decide) ‹_›) | exact (resv_at ⟨#[111, 102]⟩ (by decide) ‹_›) | exact (resv_at ⟨#[115, 110, 100]⟩ (by decide) ‹_›) | exact (resv_at ⟨#[116, 114, 117, 101]⟩ (by decide) ‹_›)) | (refine ⟨.bool false, (rets1 (retOne_tmp rfl)), ?_, E⟩; exact resv_no (by refine ⟨?_, ?_, ?_, ?_, ?_, ?_, ?_, ?_, ?_, ?_, ?_, ?_⟩ <;> assumption))
                  · refine wc_seq ?_
                    refine wc_region ?_
                    refine wl_does (does_eqs rfl rfl) (by decide) ?_
                    refine wl_does (does_as_b rfl) (by decide) ?_
                    refine wl_nil ?_
                    refine wc_if rfl (fun hc19 => ?_) (fun hc19 => ?_)
                    all_goals try simp only [decide_eq_true_eq, decide_eq_false_iff_not, Bool.and_eq_true, Bool.or_eq_true, Bool.and_eq_false_iff, Bool.or_eq_false_iff, Bool.not_eq_true', Bool.not_eq_false', Int.not_lt, Int.not_le, ne_eq, Decidable.not_not] at hc19
                    · refine wc_skip ?_
                      refine wc_if rfl (fun hc20 => ?_) (fun hc20 => ?_)
                      all_goals try simp only [decide_eq_true_eq, decide_eq_false_iff_not, Bool.and_eq_true, Bool.or_eq_true, Bool.and_eq_false_iff, Bool.or_eq_false_iff, Bool.not_eq_true', Bool.not_eq_false', Int.not_lt, Int.not_le, ne_eq, Decidable.not_not] at hc20
                      · refine wc_seq ?_
                        refine wc_region ?_
                        refine wl_does (does_as_b rfl) (by decide) ?_
                        refine wl_nil ?_
                        refine wc_ret ?_
                        first | contradiction | (refine ⟨.bool true, (rets1 (retOne_tmp rfl)), ?_, E⟩; first | exact (resv_at ⟨#[97, 98, 111, 114, 116]⟩ (by decide) ‹_›) | exact (resv_at ⟨#[99, 97, 115, 101]⟩ (by decide) ‹_›) | exact (resv_at ⟨#[102, 97, 108, 115, 101]⟩ (by decide) ‹_›) | exact (resv_at ⟨#[102, 115, 116]⟩ (by decide) ‹_›) | exact (resv_at ⟨#[102, 117, 110]⟩ (by decide) ‹_›) | exact (resv_at ⟨#[105, 110]⟩ (by decide) ‹_›) | exact (resv_at ⟨#[105, 110, 108]⟩ (by decide) ‹_›) | exact (resv_at ⟨#[105, 110, 114]⟩ (by decide) ‹_›) | exact (resv_at ⟨#[108, 101, 116]⟩ (by decide) ‹_›) | exact (resv_at ⟨#[111, 102]⟩ (by decide) ‹_›) | exact (resv_at ⟨#[115, 110, 100]⟩ (by decide) ‹_›) | exact (resv_at ⟨#[116, 114, 117, 101]⟩ (by decide) ‹_›)) | (refine ⟨.bool false, (rets1 (retOne_tmp rfl)), ?_, E⟩; exact resv_no (by refine ⟨?_, ?_, ?_, ?_, ?_, ?_, ?_, ?_, ?_, ?_, ?_, ?_⟩ <;> assumption))
                      refine wc_skip ?_
                      refine wc_seq ?_
                      refine wc_region ?_
                      refine wl_does (does_as_b rfl) (by decide) ?_
                      refine wl_nil ?_
                      refine wc_ret ?_
                      first | contradiction | (refine ⟨.bool true, (rets1 (retOne_tmp rfl)), ?_, E⟩; first | exact (resv_at ⟨#[97, 98, 111, 114, 116]⟩ (by decide) ‹_›) | exact (resv_at ⟨#[99, 97, 115, 101]⟩ (by decide) ‹_›) | exact (resv_at ⟨#[102, 97, 108, 115, 101]⟩ (by decide) ‹_›) | exact (resv_at ⟨#[102, 115, 116]⟩ (by decide) ‹_›) | exact (resv_at ⟨#[102, 117, 110]⟩ (by decide) ‹_›) | exact (resv_at ⟨#[105, 110]⟩ (by decide) ‹_›) | exact (resv_at ⟨#[105, 110, 108]⟩ (by decide) ‹_›) | exact (resv_at ⟨#[105, 110, 114]⟩ (by decide) ‹_›) | exact (resv_at ⟨#[108, 101, 116]⟩ (by decide) ‹_›) | exact (resv_at ⟨#[111, 102]⟩ (by decide) ‹_›) | exact (resv_at ⟨#[115, 110, 100]⟩ (by decide) ‹_›) | exact (resv_at ⟨#[116, 114, 117, 101]⟩ (by decide) ‹_›)) | (refine ⟨.bool false, (rets1 (retOne_tmp rfl)), ?_, E⟩; exact resv_no (by refine ⟨?_, ?_, ?_, ?_, ?_, ?_, ?_, ?_, ?_, ?_, ?_, ?_⟩ <;> assumption))
                    · refine wc_seq ?_
                      refine wc_region ?_
                      refine wl_does (does_eqs rfl rfl) (by decide) ?_
                      refine wl_does (does_as_b rfl) (by decide) ?_
                      refine wl_nil ?_
                      refine wc_if rfl (fun hc21 => ?_) (fun hc21 => ?_)
                      all_goals try simp only [decide_eq_true_eq, decide_eq_false_iff_not, Bool.and_eq_true, Bool.or_eq_true, Bool.and_eq_false_iff, Bool.or_eq_false_iff, Bool.not_eq_true', Bool.not_eq_false', Int.not_lt, Int.not_le, ne_eq, Decidable.not_not] at hc21
                      · refine wc_skip ?_
                        refine wc_if rfl (fun hc22 => ?_) (fun hc22 => ?_)
                        all_goals try simp only [decide_eq_true_eq, decide_eq_false_iff_not, Bool.and_eq_true, Bool.or_eq_true, Bool.and_eq_false_iff, Bool.or_eq_false_iff, Bool.not_eq_true', Bool.not_eq_false', Int.not_lt, Int.not_le, ne_eq, Decidable.not_not] at hc22
                        · refine wc_seq ?_
                          refine wc_region ?_
                          refine wl_does (does_as_b rfl) (by decide) ?_
                          refine wl_nil ?_
                          refine wc_ret ?_
                          first | contradiction | (refine ⟨.bool true, (rets1 (retOne_tmp rfl)), ?_, E⟩; first | exact (resv_at ⟨#[97, 98, 111, 114, 116]⟩ (by decide) ‹_›) | exact (resv_at ⟨#[99, 97, 115, 101]⟩ (by decide) ‹_›) | exact (resv_at ⟨#[102, 97, 108, 115, 101]⟩ (by decide) ‹_›) | exact (resv_at ⟨#[102, 115, 116]⟩ (by decide) ‹_›) | exact (resv_at ⟨#[102, 117, 110]⟩ (by decide) ‹_›) | exact (resv_at ⟨#[105, 110]⟩ (by decide) ‹_›) | exact (resv_at ⟨#[105, 110, 108]⟩ (by decide) ‹_›) | exact (resv_at ⟨#[105, 110, 114]⟩ (by decide) ‹_›) | exact (resv_at ⟨#[108, 101, 116]⟩ (by decide) ‹_›) | exact (resv_at ⟨#[111, 102]⟩ (by decide) ‹_›) | exact (resv_at ⟨#[115, 110, 100]⟩ (by decide) ‹_›) | exact (resv_at ⟨#[116, 114, 117, 101]⟩ (by decide) ‹_›)) | (refine ⟨.bool false, (rets1 (retOne_tmp rfl)), ?_, E⟩; exact resv_no (by refine ⟨?_, ?_, ?_, ?_, ?_, ?_, ?_, ?_, ?_, ?_, ?_, ?_⟩ <;> assumption))
                        refine wc_skip ?_
                        refine wc_seq ?_
                        refine wc_region ?_
                        refine wl_does (does_as_b rfl) (by decide) ?_
                        refine wl_nil ?_
                        refine wc_ret ?_
                        first | contradiction | (refine ⟨.bool true, (rets1 (retOne_tmp rfl)), ?_, E⟩; first | exact (resv_at ⟨#[97, 98, 111, 114, 116]⟩ (by decide) ‹_›) | exact (resv_at ⟨#[99, 97, 115, 101]⟩ (by decide) ‹_›) | exact (resv_at ⟨#[102, 97, 108, 115, 101]⟩ (by decide) ‹_›) | exact (resv_at ⟨#[102, 115, 116]⟩ (by decide) ‹_›) | exact (resv_at ⟨#[102, 117, 110]⟩ (by decide) ‹_›) | exact (resv_at ⟨#[105, 110]⟩ (by decide) ‹_›) | exact (resv_at ⟨#[105, 110, 108]⟩ (by decide) ‹_›) | exact (resv_at ⟨#[105, 110, 114]⟩ (by decide) ‹_›) | exact (resv_at ⟨#[108, 101, 116]⟩ (by decide) ‹_›) | exact (resv_at ⟨#[111, 102]⟩ (by decide) ‹_›) | exact (resv_at ⟨#[115, 110, 100]⟩ (by decide) ‹_›) | exact (resv_at ⟨#[116, 114, 117, 101]⟩ (by decide) ‹_›)) | (refine ⟨.bool false, (rets1 (retOne_tmp rfl)), ?_, E⟩; exact resv_no (by refine ⟨?_, ?_, ?_, ?_, ?_, ?_, ?_, ?_, ?_, ?_, ?_, ?_⟩ <;> assumption))
                      · refine wc_region ?_
                        refine wl_does (does_eqs rfl rfl) (by decide) ?_
                        refine wl_does (does_as_b rfl) (by decide) ?_
                        refine wl_nil ?_
                        refine wc_if rfl (fun hc23 => ?_) (fun hc23 => ?_)
                        all_goals try simp only [decide_eq_true_eq, decide_eq_false_iff_not, Bool.and_eq_true, Bool.or_eq_true, Bool.and_eq_false_iff, Bool.or_eq_false_iff, Bool.not_eq_true', Bool.not_eq_false', Int.not_lt, Int.not_le, ne_eq, Decidable.not_not] at hc23
                        · refine wc_seq ?_
                          refine wc_region ?_
                          refine wl_does (does_as_b rfl) (by decide) ?_
                          refine wl_nil ?_
                          refine wc_ret ?_
                          first | contradiction | (refine ⟨.bool true, (rets1 (retOne_tmp rfl)), ?_, E⟩; first | exact (resv_at ⟨#[97, 98, 111, 114, 116]⟩ (by decide) ‹_›) | exact (resv_at ⟨#[99, 97, 115, 101]⟩ (by decide) ‹_›) | exact (resv_at ⟨#[102, 97, 108, 115, 101]⟩ (by decide) ‹_›) | exact (resv_at ⟨#[102, 115, 116]⟩ (by decide) ‹_›) | exact (resv_at ⟨#[102, 117, 110]⟩ (by decide) ‹_›) | exact (resv_at ⟨#[105, 110]⟩ (by decide) ‹_›) | exact (resv_at ⟨#[105, 110, 108]⟩ (by decide) ‹_›) | exact (resv_at ⟨#[105, 110, 114]⟩ (by decide) ‹_›) | exact (resv_at ⟨#[108, 101, 116]⟩ (by decide) ‹_›) | exact (resv_at ⟨#[111, 102]⟩ (by decide) ‹_›) | exact (resv_at ⟨#[115, 110, 100]⟩ (by decide) ‹_›) | exact (resv_at ⟨#[116, 114, 117, 101]⟩ (by decide) ‹_›)) | (refine ⟨.bool false, (rets1 (retOne_tmp rfl)), ?_, E⟩; exact resv_no (by refine ⟨?_, ?_, ?_, ?_, ?_, ?_, ?_, ?_, ?_, ?_, ?_, ?_⟩ <;> assumption))
                        refine wc_skip ?_
                        refine wc_seq ?_
                        refine wc_region ?_
                        refine wl_does (does_as_b rfl) (by decide) ?_
                        refine wl_nil ?_
                        refine wc_ret ?_
                        first | contradiction | (refine ⟨.bool true, (rets1 (retOne_tmp rfl)), ?_, E⟩; first | exact (resv_at ⟨#[97, 98, 111, 114, 116]⟩ (by decide) ‹_›) | exact (resv_at ⟨#[99, 97, 115, 101]⟩ (by decide) ‹_›) | exact (resv_at ⟨#[102, 97, 108, 115, 101]⟩ (by decide) ‹_›) | exact (resv_at ⟨#[102, 115, 116]⟩ (by decide) ‹_›) | exact (resv_at ⟨#[102, 117, 110]⟩ (by decide) ‹_›) | exact (resv_at ⟨#[105, 110]⟩ (by decide) ‹_›) | exact (resv_at ⟨#[105, 110, 108]⟩ (by decide) ‹_›) | exact (resv_at ⟨#[105, 110, 114]⟩ (by decide) ‹_›) | exact (resv_at ⟨#[108, 101, 116]⟩ (by decide) ‹_›) | exact (resv_at ⟨#[111, 102]⟩ (by decide) ‹_›) | exact (resv_at ⟨#[115, 110, 100]⟩ (by decide) ‹_›) | exact (resv_at ⟨#[116, 114, 117, 101]⟩ (by decide) ‹_›)) | (refine ⟨.bool false, (rets1 (retOne_tmp rfl)), ?_, E⟩; exact resv_no (by refine ⟨?_, ?_, ?_, ?_, ?_, ?_, ?_, ?_, ?_, ?_, ?_, ?_⟩ <;> assumption))

theorem formula_Word_ok (w : World) (s : ByteArray) (hs : s.size < 9223372036854775808) : Calls PP F_formula_Word #[.string s] w fun e w' => ∃ v, e = .returned v ∧ (v = .bool (decide (isWord s)) ∧ Ext w w') := by
  refine calls_of_wc (n := 58) fn_formula_Word rfl rfl (by simp) ?_
  have E := Ext.refl w
  refine wc_seq ?_
  refine wc_region ?_
  refine wl_does (does_as_b rfl) (by decide) ?_
  refine wl_nil ?_
  refine wc_seq ?_
  refine wc_seq ?_
  refine wc_region ?_
  refine wl_does (does_mv_s rfl) (by decide) ?_
  refine wl_does (does_lenStr un_string rfl) (by decide) ?_
  refine wl_does (does_mv_i rfl) (by decide) ?_
  refine wl_nil ?_
  refine wc_block ?_
  refine wc_loopm (α := Nat) [2, 3, 4, 5, 6, 9, 10, 11, 12, 13, 14, 15, 16, 17, 18, 19, 20, 21, 22, 23, 24, 25, 26, 27, 28, 29, 30, 31, 32, 33, 34, 35, 36, 37, 38, 39, 40, 41, 42, 43, 44, 45] (fun x fr W => (fr 9 = .int .i64 (x : Nat)) ∧ (Ext w W) ∧ (x ≤ s.size) ∧ (∀ i, i < x → okAt s i)) (fun x => s.size - x) 0 ⟨rfl, Chg.refl _ _, by omega, fun i h => by omega⟩ ?_
  rintro x g0 u0 ⟨s0_9, K0, hx, hp⟩
  replace E := E.thenExt K0
  refine wc_seq ?_
  refine wc_region ?_
  refine wl_does (does_lt s0_9 rfl) (by decide) ?_
  refine wl_nil ?_
  refine wc_seq ?_
  refine wc_if rfl (fun hc1 => ?_) (fun hc1 => ?_)
  all_goals try simp only [decide_eq_true_eq, decide_eq_false_iff_not, Bool.and_eq_true, Bool.or_eq_true, Bool.and_eq_false_iff, Bool.or_eq_false_iff, Bool.not_eq_true', Bool.not_eq_false', Int.not_lt, Int.not_le, ne_eq, Decidable.not_not] at hc1
  rotate_left
  · refine wc_exit ?_
    refine wc_seq ?_
    refine wc_region ?_
    refine wl_does (does_mv_s rfl) (by decide) ?_
    refine wl_does (does_nes rfl rfl) (by decide) ?_
    refine wl_does (does_mv_b rfl) (by decide) ?_
    refine wl_guard (j := 2) (pol := true) rfl rfl rfl (by decide) (fun hg => does_mv_s rfl) (by decide) ?_
    refine wl_guard (j := 2) (pol := true) rfl rfl rfl (by decide) (fun hg => does_lenStr un_string (gv_yes hg)) (by decide) ?_
    refine wl_guard (j := 2) (pol := true) rfl rfl rfl (by decide) (fun hg => does_le (gv_yes hg) rfl) (by decide) ?_
    refine wl_does (does_and rfl (fun hp => (gv_yes (and_1 hp)))) (by decide) ?_
    refine wl_does (does_mv_b rfl) (by decide) ?_
    refine wl_guard (j := 7) (pol := true) rfl rfl rfl (by decide) (fun hg => does_mv_s rfl) (by decide) ?_
    refine wl_gcall (j := 7) (pol := true) rfl rfl rfl (by decide) (fun hg => does_callg ca_formula_reserved (cons2 (gv_yes hg) rfl)) (by decide) (fun hg => formula_reserved_ok _ _) fun w1 h1 => ?_
    replace E := E.thenExt h1
    refine wl_guard (j := 7) (pol := true) rfl rfl rfl (by decide) (fun hg => does_not (gv_yes hg)) (by decide) ?_
    refine wl_does (does_and rfl (fun hp => (gv_yes (and_1 hp)))) (by decide) ?_
    refine wl_does (does_as_b rfl) (by decide) ?_
    refine wl_nil ?_
    refine wc_ret ?_
    exact ⟨.bool (decide (s ≠ ⟨#[]⟩) && decide ((s.size : Int) ≤ 31) && !isResv s), (rets1 (retOne_tmp rfl)), word_end (fun i h => hp i (by omega)), E⟩
  refine wc_skip ?_
  refine wc_seq ?_
  refine wc_block ?_
  refine wc_seq ?_
  refine wc_region ?_
  refine wl_does (does_mv_i s0_9) (by decide) ?_
  refine wl_does (does_as_i rfl) (by decide) ?_
  refine wl_nil ?_
  refine wc_seq ?_
  refine wc_region ?_
  refine wl_does (does_mv_s rfl) (by decide) ?_
  refine wl_does (does_mv_i rfl) (by decide) ?_
  refine wl_does (does_indexStr un_string rfl rfl (by omega) (by omega)) (by decide) ?_
  refine wl_does (does_as_i rfl) (by decide) ?_
  refine wl_nil ?_
  refine wc_seq ?_
  refine wc_region ?_
  refine wl_does (does_mv_i rfl) (by decide) ?_
  refine wl_does (does_bits (by simp) rfl rfl) (by decide) ?_
  refine wl_does (does_as_i rfl) (by decide) ?_
  refine wl_nil ?_
  refine wc_seq ?_
  refine wc_region ?_
  refine wl_does (does_mv_i rfl) (by decide) ?_
  refine wl_does (does_ge rfl rfl) (by decide) ?_
  refine wl_does (does_mv_b rfl) (by decide) ?_
  refine wl_guard (j := 2) (pol := true) rfl rfl rfl (by decide) (fun hg => does_mv_i rfl) (by decide) ?_
  refine wl_guard (j := 2) (pol := true) rfl rfl rfl (by decide) (fun hg => does_le (gv_yes hg) rfl) (by decide) ?_
  refine wl_does (does_and rfl (fun hp => (gv_yes (and_1 hp)))) (by decide) ?_
  refine wl_does (does_as_b rfl) (by decide) ?_
  refine wl_nil ?_
  refine wc_seq ?_
  refine wc_region ?_
  refine wl_does (does_mv_b rfl) (by decide) ?_
  refine wl_does (does_not rfl) (by decide) ?_
  refine wl_does (does_mv_b rfl) (by decide) ?_
  refine wl_guard (j := 2) (pol := true) rfl rfl rfl (by decide) (fun hg => does_mv_i rfl) (by decide) ?_
  refine wl_guard (j := 2) (pol := true) rfl rfl rfl (by decide) (fun hg => does_eq (gv_yes hg) rfl) (by decide) ?_
  refine wl_guard (j := 2) (pol := true) rfl rfl rfl (by decide) (fun hg => does_mv_b (gv_yes hg)) (by decide) ?_
  refine wl_guard2 (j := 5) (pol := false) rfl rfl rfl (by decide) (fun hg => does_mv_i rfl) (by decide) ?_
  refine wl_guard2 (j := 5) (pol := false) rfl rfl rfl (by decide) (fun hg => does_ne (gv_yes hg) rfl) (by decide) ?_
  refine wl_guard2 (j := 5) (pol := false) rfl rfl rfl (by decide) (fun hg => does_mv_b (gv_yes hg)) (by decide) ?_
  refine wl_guard2 (j := 8) (pol := true) rfl rfl rfl (by decide) (fun hg => does_mv_i rfl) (by decide) ?_
  refine wl_guard2 (j := 8) (pol := true) rfl rfl rfl (by decide) (fun hg => does_ne (gv_yes hg) rfl) (by decide) ?_
  refine wl_guard2 (j := 5) (pol := false) rfl rfl rfl (by decide) (fun hg => does_and (gv_yes hg) (fun hp => (gv_yes (and_b hg hp)))) (by decide) ?_
  refine wl_guard2 (j := 5) (pol := false) rfl rfl rfl (by decide) (fun hg => does_mv_b (gv_yes hg)) (by decide) ?_
  refine wl_guard2 (j := 12) (pol := true) rfl rfl rfl (by decide) (fun hg => does_mv_i rfl) (by decide) ?_
  refine wl_guard2 (j := 12) (pol := true) rfl rfl rfl (by decide) (fun hg => does_lt (gv_yes hg) rfl) (by decide) ?_
  refine wl_guard2 (j := 12) (pol := true) rfl rfl rfl (by decide) (fun hg => does_mv_b (gv_yes hg)) (by decide) ?_
  refine wl_guard2 (j := 15) (pol := false) rfl rfl rfl (by decide) (fun hg => does_mv_i rfl) (by decide) ?_
  refine wl_guard2 (j := 15) (pol := false) rfl rfl rfl (by decide) (fun hg => does_gt (gv_yes hg) rfl) (by decide) ?_
  refine wl_guard2 (j := 12) (pol := true) rfl rfl rfl (by decide) (fun hg => does_or (gv_yes hg) (fun hp => (gv_yes (and_b hg hp)))) (by decide) ?_
  refine wl_guard2 (j := 5) (pol := false) rfl rfl rfl (by decide) (fun hg => does_and (gv_yes hg) (fun hp => (gv_yes (and_b hg hp)))) (by decide) ?_
  refine wl_guard (j := 2) (pol := true) rfl rfl rfl (by decide) (fun hg => does_or (gv_yes hg) (fun hp => (gv_yes (and_b hg hp)))) (by decide) ?_
  refine wl_does (does_and rfl (fun hp => (gv_yes (and_1 hp)))) (by decide) ?_
  refine wl_nil ?_
  refine wc_if rfl (fun hc2 => ?_) (fun hc2 => ?_)
  all_goals rw [word_cond] at hc2; simp only [Bool.not_eq_true', Bool.not_eq_false', decide_eq_false_iff_not, decide_eq_true_eq] at hc2
  · refine wc_seq ?_
    refine wc_region ?_
    refine wl_does (does_as_b rfl) (by decide) ?_
    refine wl_nil ?_
    refine wc_ret ?_
    exact ⟨.bool false, (rets1 (retOne_tmp rfl)), word_no (by omega) hc2, E⟩
  refine wc_skip ?_
  refine wc_region ?_
  refine wl_does (does_addc s0_9 rfl (c := _) rfl (by omega) (by omega)) (by decide) ?_
  refine wl_does (does_mv_i rfl) (by decide) ?_
  refine wl_nil ?_
  exact ⟨rfl, ((((((((((((((((((((((((((((((((((((((((((Dif.self _ _ _).upd rfl _).upd rfl _).upd rfl _).upd rfl _).upd rfl _).upd rfl _).upd rfl _).upd rfl _).upd rfl _).upd rfl _).upd rfl _).upd rfl _).upd rfl _).upd rfl _).upd rfl _).upd rfl _).upd rfl _).upd rfl _).upd rfl _).upd rfl _).upd rfl _).upd rfl _).upd rfl _).upd rfl _).upd rfl _).upd rfl _).upd rfl _).upd rfl _).upd rfl _).upd rfl _).upd rfl _).upd rfl _).upd rfl _).upd rfl _).upd rfl _).upd rfl _).upd rfl _).upd rfl _).upd rfl _).upd rfl _).upd rfl _), x + 1, ⟨rfl, K0, by omega, fun i h => (Nat.lt_or_eq_of_le (Nat.le_of_lt_succ h)).elim (hp i) (fun e => by subst e; exact hc2)⟩, by (try dsimp only); omega⟩

theorem ref03_Reserved_ok (w : World) : Calls PP F_ref03_Reserved #[] w fun e w' => ∃ v, e = .returned v ∧ (∃ s, v = SlV.v s ∧ Rd w' 1 s (resv.map SC) ∧ (∀ i, s.fp i → w.heap.size ≤ i) ∧ Ext w w') := by
  refine calls_of_wc (n := 2) fn_ref03_Reserved rfl rfl (by simp) ?_
  have E := Ext.refl w
  refine wc_seq ?_
  refine wc_region ?_
  refine wl_does (does_as_nil) (by decide) ?_
  refine wl_nil ?_
  refine wc_seq ?_
  refine wc_region ?_
  refine wl_buildSlice (vs := resv.map Value.string) (rows := resv.map SC) sl_L_string el_string.zero rfl rfl (by decide) rfl (by decide) (by decide) fun b1 w1 s1 h1 q1 => ?_
  have l_b1 : w.heap.size ≤ b1 := by have := h1.at_; have := E.size; omega
  have B1 := h1.blk
  replace E := E.thenExt h1.ext
  refine wl_does (does_as_l rfl) (by decide) ?_
  refine wl_nil ?_
  refine wc_ret ?_
  exact ⟨_, (rets1 (retOne_tmp rfl)), s1, rfl, B1.rdl (fun a _ => rfl) q1 rfl, (fun i hi => by rw [fp_at q1 hi]; exact l_b1), E⟩

theorem ref03_Word_ok (w : World) (s : ByteArray) (hs : s.size < 9223372036854775808) : Calls PP F_ref03_Word #[.string s] w fun e w' => ∃ v, e = .returned v ∧ (v = .bool (decide (isWord s)) ∧ Ext w w') := by
  refine calls_of_wc (n := 69) fn_ref03_Word rfl rfl (by simp) ?_
  have E := Ext.refl w
  refine wc_seq ?_
  refine wc_region ?_
  refine wl_does (does_as_b rfl) (by decide) ?_
  refine wl_nil ?_
  refine wc_seq ?_
  refine wc_seq ?_
  refine wc_region ?_
  refine wl_does (does_mv_s rfl) (by decide) ?_
  refine wl_does (does_lenStr un_string rfl) (by decide) ?_
  refine wl_does (does_lt rfl rfl) (by decide) ?_
  refine wl_does (does_mv_b rfl) (by decide) ?_
  refine wl_guard (j := 3) (pol := false) rfl rfl rfl (by decide) (fun hg => does_mv_s rfl) (by decide) ?_
  refine wl_guard (j := 3) (pol := false) rfl rfl rfl (by decide) (fun hg => does_lenStr un_string (gv_yes hg)) (by decide) ?_
  refine wl_guard (j := 3) (pol := false) rfl rfl rfl (by decide) (fun hg => does_gt (gv_yes hg) rfl) (by decide) ?_
  refine wl_does (does_or rfl (fun hp => (gv_yes (and_1 hp)))) (by decide) ?_
  refine wl_does (does_mv_b rfl) (by decide) ?_
  refine wl_guard (j := 8) (pol := false) rfl rfl rfl (by decide) (fun hg => does_mv_s rfl) (by decide) ?_
  refine wl_guard (j := 8) (pol := false) rfl rfl rfl (by decide) (fun hg => does_indexStr un_string (gv_yes hg) rfl (by simp at hg; omega) (by simp at hg; omega)) (by decide) ?_
  refine wl_gcall (j := 8) (pol := false) rfl rfl rfl (by decide) (fun hg => does_callg ca_ref03_letter (cons2 (gv_yes hg) rfl)) (by decide) (fun hg => ref03_letter_ok _ _) fun w1 h1 => ?_
  replace E := E.thenExt h1
  refine wl_guard (j := 8) (pol := false) rfl rfl rfl (by decide) (fun hg => does_not (gv_yes hg)) (by decide) ?_
  refine wl_does (does_or rfl (fun hp => (gv_yes (and_1 hp)))) (by decide) ?_
  refine wl_nil ?_
  refine wc_if rfl (fun hc1 => ?_) (fun hc1 => ?_)
  all_goals try simp only [decide_eq_true_eq, decide_eq_false_iff_not, Bool.and_eq_true, Bool.or_eq_true, Bool.and_eq_false_iff, Bool.or_eq_false_iff, Bool.not_eq_true', Bool.not_eq_false', Int.not_lt, Int.not_le, ne_eq, Decidable.not_not] at hc1
  · refine wc_seq ?_
    refine wc_region ?_
    refine wl_does (does_as_b rfl) (by decide) ?_
    refine wl_nil ?_
    refine wc_ret ?_
    exact ⟨.bool false, (rets1 (retOne_tmp rfl)), word_bad hc1, E⟩
  refine wc_skip ?_
  refine wc_seq ?_
  refine wc_seq ?_
  refine wc_region ?_
  refine wl_does (does_as_i rfl) (by decide) ?_
  refine wl_nil ?_
  refine wc_block ?_
  refine wc_loopm (α := Nat) [2, 3, 20, 21, 22, 23, 24, 25, 26, 27, 28, 29, 30, 31, 32, 33, 34, 35, 36, 37, 38, 39, 40, 41, 42, 43, 44, 45, 46, 47, 48, 49, 50, 51, 52, 53, 54, 55] (fun x fr W => (fr 3 = .int .i64 (x : Nat)) ∧ (Ext w1 W) ∧ (1 ≤ x ∧ x ≤ s.size) ∧ (∀ i, i < x → okAt s i)) (fun x => s.size - x) 1 ⟨rfl, Chg.refl _ _, by omega, fun i h => okAt_0 h hc1.2⟩ ?_
  rintro x g0 u0 ⟨s0_3, K0, hx, hp⟩
  replace E := E.thenExt K0
  refine wc_seq ?_
  refine wc_seq ?_
  refine wc_region ?_
  refine wl_does (does_mv_i s0_3) (by decide) ?_
  refine wl_does (does_mv_s rfl) (by decide) ?_
  refine wl_does (does_lenStr un_string rfl) (by decide) ?_
  refine wl_does (does_lt rfl rfl) (by decide) ?_
  refine wl_nil ?_
  refine wc_if rfl (fun hc2 => ?_) (fun hc2 => ?_)
  all_goals try simp only [decide_eq_true_eq, decide_eq_false_iff_not, Bool.and_eq_true, Bool.or_eq_true, Bool.and_eq_false_iff, Bool.or_eq_false_iff, Bool.not_eq_true', Bool.not_eq_false', Int.not_lt, Int.not_le, ne_eq, Decidable.not_not] at hc2
  rotate_left
  · refine wc_exit ?_
    refine wc_seq ?_
    refine wc_region ?_
    refine wl_call (does_call ca_ref03_Reserved) (by decide) (ref03_Reserved_ok _ ) ?_
    rintro _ w2 ⟨s56, rfl, R56, m56, h2⟩
    have n_R56 : ∀ i, s56.fp i → w.heap.size ≤ i := fun i e => by have := m56 _ e; have := E.size; omega
    replace E := E.thenExt h2
    refine wl_does (does_as_l rfl) (by decide) ?_
    refine wl_nil ?_
    refine wc_seq ?_
    refine wc_seq ?_
    refine wc_region ?_
    refine wl_does (does_as_i rfl) (by decide) ?_
    refine wl_nil ?_
    refine wc_block ?_
    refine wc_loopm (α := Nat) [2, 5, 57, 58, 59, 60, 61, 62, 63, 64, 65, 66, 67, 68] (fun y fr W => (fr 5 = .int .i64 (y : Nat)) ∧ (Ext w2 W) ∧ (y ≤ 12) ∧ (∀ (i : Nat) t, i < y → resv[i]? = some t → s ≠ t)) (fun y => 12 - y) 0 ⟨rfl, Chg.refl _ _, by omega, fun i t h => by omega⟩ ?_
    rintro y g1 u1 ⟨s1_5, K1, hy, hq⟩
    replace R56 := R56.ext K1
    replace E := E.thenExt K1
    have hrl : resv.length = 12 := rfl
    obtain ⟨a, ha⟩ : ∃ a, y < 12 → resv[y]? = some a := ⟨resv.getD y ⟨#[]⟩, fun h => by have : y < resv.length := h; simp [this]⟩
    refine wc_seq ?_
    refine wc_seq ?_
    refine wc_region ?_
    refine wl_does (does_mv_i s1_5) (by decide) ?_
    refine wl_does (does_mv_l rfl) (by decide) ?_
    refine wl_does (does_lenR sl_L_string rfl R56) (by decide) ?_
    refine wl_does (does_lt rfl rfl) (by decide) ?_
    refine wl_nil ?_
    refine wc_if rfl (fun hc3 => ?_) (fun hc3 => ?_)
    all_goals try simp only [decide_eq_true_eq, decide_eq_false_iff_not, Bool.and_eq_true, Bool.or_eq_true, Bool.and_eq_false_iff, Bool.or_eq_false_iff, Bool.not_eq_true', Bool.not_eq_false', Int.not_lt, Int.not_le, ne_eq, Decidable.not_not] at hc3
    rotate_left
    · refine wc_exit ?_
      refine wc_seq ?_
      refine wc_region ?_
      refine wl_does (does_as_b rfl) (by decide) ?_
      refine wl_nil ?_
      refine wc_ret ?_
      exact ⟨.bool true, (rets1 (retOne_tmp rfl)), word_yes (by omega) (by omega) (fun i h => hp i (by omega)) (fun i t h => hq i t (by have : i < resv.length := (List.getElem?_eq_some_iff.1 h).1; have : resv.length = 12 := rfl; omega) h), E⟩
    refine wc_skip ?_
    refine wc_seq ?_
    refine wc_block ?_
    refine wc_seq ?_
    refine wc_region ?_
    refine wl_does (does_mv_l rfl) (by decide) ?_
    refine wl_does (does_mv_i s1_5) (by decide) ?_
    refine wl_does (does_indexR sl_L_string rfl rfl R56 (by omega) (by omega)) (by decide) ?_
    refine wl_does (does_load on_string rfl (R56.one (ha (by omega)) rfl)) (by decide) ?_
    refine wl_does (does_mv_s rfl) (by decide) ?_
    refine wl_does (does_eqs rfl rfl) (by decide) ?_
    refine wl_nil ?_
    refine wc_if rfl (fun hc4 => ?_) (fun hc4 => ?_)
    all_goals try simp only [decide_eq_true_eq, decide_eq_false_iff_not, Bool.and_eq_true, Bool.or_eq_true, Bool.and_eq_false_iff, Bool.or_eq_false_iff, Bool.not_eq_true', Bool.not_eq_false', Int.not_lt, Int.not_le, ne_eq, Decidable.not_not] at hc4
    · refine wc_seq ?_
      refine wc_region ?_
      refine wl_does (does_as_b rfl) (by decide) ?_
      refine wl_nil ?_
      refine wc_ret ?_
      exact ⟨.bool false, (rets1 (retOne_tmp rfl)), word_res (ha (by omega)) hc4.symm, E⟩
    refine wc_skip ?_
    refine wc_region ?_
    refine wl_does (does_mv_i s1_5) (by decide) ?_
    refine wl_does (does_addc rfl rfl (c := _) rfl (by omega) (by omega)) (by decide) ?_
    refine wl_does (does_as_i rfl) (by decide) ?_
    refine wl_nil ?_
    exact ⟨rfl, ((((((((((((((Dif.self _ _ _).upd rfl _).upd rfl _).upd rfl _).upd rfl _).upd rfl _).upd rfl _).upd rfl _).upd rfl _).upd rfl _).upd rfl _).upd rfl _).upd rfl _).upd rfl _), y + 1, ⟨rfl, K1, by omega, fun i t h e => (Nat.lt_or_eq_of_le (Nat.le_of_lt_succ h)).elim (fun h => hq i t h e) (fun e2 => by subst e2; rw [ha (by omega)] at e; injection e with e; subst e; exact fun h => hc4 h.symm)⟩, by (try dsimp only); omega⟩
  refine wc_skip ?_
  refine wc_seq ?_
  refine wc_block ?_
  refine wc_seq ?_
  refine wc_region ?_
  refine wl_does (does_mv_s rfl) (by decide) ?_
  refine wl_does (does_mv_i s0_3) (by decide) ?_
  refine wl_does (does_indexStr un_string rfl rfl (by omega) (by omega)) (by decide) ?_
  refine wl_call (does_call ca_ref03_letter) (by decide) (ref03_letter_ok _ _) ?_
  rintro _ w3 ⟨rfl, h3⟩
  replace E := E.thenExt h3
  replace K0 := K0.thenExt h3
  refine wl_does (does_not rfl) (by decide) ?_
  refine wl_does (does_mv_b rfl) (by decide) ?_
  refine wl_guard (j := 5) (pol := true) rfl rfl rfl (by decide) (fun hg => does_mv_s rfl) (by decide) ?_
  refine wl_guard (j := 5) (pol := true) rfl rfl rfl (by decide) (fun hg => does_mv_i s0_3) (by decide) ?_
  refine wl_guard (j := 5) (pol := true) rfl rfl rfl (by decide) (fun hg => does_indexStr un_string (gv_yes hg) (gv_yes hg) (by simp at hg; omega) (by simp at hg; omega)) (by decide) ?_
  refine wl_guard (j := 5) (pol := true) rfl rfl rfl (by decide) (fun hg => does_ge (gv_yes hg) rfl) (by decide) ?_
  refine wl_guard (j := 5) (pol := true) rfl rfl rfl (by decide) (fun hg => does_mv_b (gv_yes hg)) (by decide) ?_
  refine wl_guard2 (j := 10) (pol := true) rfl rfl rfl (by decide) (fun hg => does_mv_s rfl) (by decide) ?_
  refine wl_guard2 (j := 10) (pol := true) rfl rfl rfl (by decide) (fun hg => does_mv_i s0_3) (by decide) ?_
  refine wl_guard2 (j := 10) (pol := true) rfl rfl rfl (by decide) (fun hg => does_indexStr un_string (gv_yes hg) (gv_yes hg) (by simp at hg; omega) (by simp at hg; omega)) (by decide) ?_
  refine wl_guard2 (j := 10) (pol := true) rfl rfl rfl (by decide) (fun hg => does_le (gv_yes hg) rfl) (by decide) ?_
  refine wl_guard (j := 5) (pol := true) rfl rfl rfl (by decide) (fun hg => does_and (gv_yes hg) (fun hp => (gv_yes (and_b hg hp)))) (by decide) ?_
  refine wl_guard (j := 5) (pol := true) rfl rfl rfl (by decide) (fun hg => does_not (gv_yes hg)) (by decide) ?_
  refine wl_does (does_and rfl (fun hp => (gv_yes (and_1 hp)))) (by decide) ?_
  refine wl_does (does_mv_b rfl) (by decide) ?_
  refine wl_guard (j := 18) (pol := true) rfl rfl rfl (by decide) (fun hg => does_mv_s rfl) (by decide) ?_
  refine wl_guard (j := 18) (pol := true) rfl rfl rfl (by decide) (fun hg => does_mv_i s0_3) (by decide) ?_
  refine wl_guard (j := 18) (pol := true) rfl rfl rfl (by decide) (fun hg => does_indexStr un_string (gv_yes hg) (gv_yes hg) (by simp at hg; omega) (by simp at hg; omega)) (by decide) ?_
  refine wl_guard (j := 18) (pol := true) rfl rfl rfl (by decide) (fun hg => does_ne (gv_yes hg) rfl) (by decide) ?_
  refine wl_does (does_and rfl (fun hp => (gv_yes (and_1 hp)))) (by decide) ?_
  refine wl_does (does_mv_b rfl) (by decide) ?_
  refine wl_guard (j := 24) (pol := true) rfl rfl rfl (by decide) (fun hg => does_mv_s rfl) (by decide) ?_
  refine wl_guard (j := 24) (pol := true) rfl rfl rfl (by decide) (fun hg => does_mv_i s0_3) (by decide) ?_
  refine wl_guard (j := 24) (pol := true) rfl rfl rfl (by decide) (fun hg => does_indexStr un_string (gv_yes hg) (gv_yes hg) (by simp at hg; omega) (by simp at hg; omega)) (by decide) ?_
  refine wl_guard (j := 24) (pol := true) rfl rfl rfl (by decide) (fun hg => does_ne (gv_yes hg) rfl) (by decide) ?_
  refine wl_does (does_and rfl (fun hp => (gv_yes (and_1 hp)))) (by decide) ?_
  refine wl_nil ?_
  refine wc_if rfl (fun hc5 => ?_) (fun hc5 => ?_)
  all_goals rw [word_cond2] at hc5; simp only [Bool.not_eq_true', Bool.not_eq_false'] at hc5
  · refine wc_seq ?_
    refine wc_region ?_
    refine wl_does (does_as_b rfl) (by decide) ?_
    refine wl_nil ?_
    refine wc_ret ?_
    exact ⟨.bool false, (rets1 (retOne_tmp rfl)), word_no (by omega) (fun h => okAt_not (by omega) hc5 h), E⟩
  refine wc_skip ?_
  refine wc_region ?_
  refine wl_does (does_mv_i s0_3) (by decide) ?_
  refine wl_does (does_addc rfl rfl (c := _) rfl (by omega) (by omega)) (by decide) ?_
  refine wl_does (does_as_i rfl) (by decide) ?_
  refine wl_nil ?_
  exact ⟨rfl, ((((((((((((((((((((((((((((((((((((((Dif.self _ _ _).upd rfl _).upd rfl _).upd rfl _).upd rfl _).upd rfl _).upd rfl _).upd rfl _).upd rfl _).upd rfl _).upd rfl _).upd rfl _).upd rfl _).upd rfl _).upd rfl _).upd rfl _).upd rfl _).upd rfl _).upd rfl _).upd rfl _).upd rfl _).upd rfl _).upd rfl _).upd rfl _).upd rfl _).upd rfl _).upd rfl _).upd rfl _).upd rfl _).upd rfl _).upd rfl _).upd rfl _).upd rfl _).upd rfl _).upd rfl _).upd rfl _).upd rfl _).upd rfl _), x + 1, ⟨rfl, K0, by omega, fun i h => (Nat.lt_or_eq_of_le (Nat.le_of_lt_succ h)).elim (hp i) (fun e => by subst e; exact okAt_C (by omega) hc5)⟩, by (try dsimp only); omega⟩

end Go.Proofs.YtjjkhjieegmphaaDoor
