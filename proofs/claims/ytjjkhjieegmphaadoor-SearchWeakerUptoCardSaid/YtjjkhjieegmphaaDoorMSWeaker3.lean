/- Texts put together: Regions that draw their order, cut into segments at operations that come behind all ahead of them: each segment is shown by itself. Loops over functions, by what a call knows of memory. Contracts of the sets' functions, as the printed walks use them. Contracts of the tables' functions, as the printed walks use them. A table is some rows, or none (a table that no call made). Tables of formulas (program): a new one; one cut short; its rows. Chapter 09, rules that are chosen: Lean functions with the answers of the Go functions. Printed by pp.py, a program of mine. Chapter 09, premises: Lean functions with the answers of the Go functions. Printed by pp.py, a program of mine. Pieces put together: apart from each other; told by what is not seen; slices of structs with references. Over whatever program. Chapter 11: steps, findings, searches on their way: what they are, and the pieces that hold them. Chapter 11, the search: Lean functions with the answers of the Go functions. Printed by pp.py, a program of mine. Chapter 09, the heads: Lean functions with the answers of the Go functions. Printed by pp.py, a program of mine. Chapter 09, the document's functions: Lean functions with the answers of the Go functions. Printed by pp.py, a program of mine. Chapter 11, the heads: Lean functions with the answers of the Go functions. Printed by pp.py, a program of mine. Chapter 11, weakening, cut, deduction, truth: Lean functions with the answers of the Go functions. Printed by pp.py, a program of mine. -/
import Derived.Test.YtjjkhjieegmphaaDoorMSWeaker2
set_option linter.unusedVariables false
set_option linter.unusedSimpArgs false
section
namespace Go.Proofs.YtjjkhjieegmphaaDoor
open Go.RowKit
namespace Gw
def ws (P : Program) (rd : Option Nat) (n : Nat) (dm : List Nat) (l : List Oper) (lo : Nat) (Q : Post) (f : Fr) (w : World) : Prop :=
  ∀ (a : Act) (listed : Array Bool), Is n dm a f → listed.size = l.length → Closed l.toArray listed → (∀ j, j < l.length → (listed.getD j false = true ↔ j < lo)) → wpAnyIn (fen rd) 0 P .any l.toArray (lift n Q) (l.length - lo) listed a w
def drawS (ops : Array Oper) (m : Nat) : Bool :=
  (ops.toList.take m).all (fun o => o.dst.isSome) &&
  decide (((ops.toList.take m).filterMap (·.dst)).Nodup) &&
  ops.toList.zipIdx.all (fun q => q.1.after.toList.all fun e => !Region.binds .any e || decide (e.on < q.2)) &&
  ops.toList.zipIdx.all (fun q => decide (q.2 < m) || (List.range m).all fun i => ((Region.before ops).getD q.2 0).testBit i) &&
  decide (m ≤ ops.size)
def chainS (ops : Array Oper) (lo hi : Nat) : Bool :=
  ops.toList.zipIdx.all (fun q => q.1.after.toList.all fun e => !Region.binds .any e || decide (e.on < q.2)) &&
  ops.toList.zipIdx.all (fun q => decide (q.2 < lo) || (List.range (min q.2 hi)).all fun i => ((Region.before ops).getD q.2 0).testBit i) &&
  decide (hi ≤ ops.size)
theorem cnt_pre (listed : Array Bool) (m n : Nat) (hmn : m ≤ n) (h1 : ∀ j, j < m → listed.getD j false = true) (h2 : ∀ j, m ≤ j → j < n → listed.getD j false = false) : cnt listed n = m := by
  have hz : ∀ k, m ≤ k → k ≤ n → cnt listed k = m := by
    intro k
    induction k with
    | zero => intro h _; rw [show m = 0 by omega]; rfl
    | succ k ihk =>
      intro h3 h4
      by_cases hk : m ≤ k
      · rw [cnt_succ, ihk hk (by omega), h2 k hk (by omega)]; simp
      · have : k + 1 = m := by omega
        rw [this]
        exact cnt_all listed m h1
  exact hz n hmn (Nat.le_refl _)
section
variable {P : Program} {rd : Option Nat} {n m : Nat} {dm : List Nat} {ops : Array Oper} {Q : Post} {f : Fr} {w : World}
theorem wc_ws {id : Nat} {l : List Oper} (hm : P.follows .mixedOrders = true) (h : ∀ w', Ext w w' → ws P rd n dm l 0 Q f w') : wc P rd n dm (.region id l.toArray true) Q f w := by
  intro a ha
  refine wpIn_region_any hm ?_
  have := h _ (Ext.drawn w) a (Array.replicate l.toArray.size false) ha (by simp) (by intro j o _ h; rw [repl_false] at h; cases h) (by intro j _; rw [repl_false]; simp)
  simpa using this
theorem back_of {l : List Oper} (hback : ∀ q ∈ l.toArray.toList.zipIdx, (q.1.after.toList.all fun e => !Region.binds .any e || decide (e.on < q.2)) = true) : Back l.toArray := by
  intro i o hi e he hbd
  have := List.all_eq_true.1 (hback (o, i) (by
    rw [List.mem_zipIdx_iff_getElem?]
    simpa using hi)) e (by simpa using he)
  simp only [hbd, Bool.not_true, Bool.false_or, decide_eq_true_eq] at this
  exact this
theorem ord_of {l : List Oper} {k j : Nat} (hk : k < l.length) (h2 : ((Region.before l.toArray).getD k 0).testBit j = true) {listed : Array Bool} (hr : k ∈ Region.ready .any l.toArray listed) (hc : Closed l.toArray listed) : listed.getD j false = true := by
  rw [mem_ready] at hr
  obtain ⟨_, o, ho', hall⟩ := hr
  refine before_sound hc [] #[] rfl (by simp) (by simp) l.toArray.toList (by simp) k (by simpa using hk) j ?_ ?_
  · unfold Region.before at h2
    rw [← Array.foldl_toList] at h2
    exact h2
  · rw [ho']
    simpa using hall
theorem ws_chain {l : List Oper} (lo hi : Nat) (hB : chainS l.toArray lo hi = true) (hlh : lo ≤ hi) (h : wl P rd n dm l.toArray ((l.take hi).drop lo) (fun dm' e f' w' => e = .normal ∧ ws P rd n dm' l hi Q f' w') f w) : ws P rd n dm l lo Q f w := by
  simp only [chainS, Bool.and_eq_true, decide_eq_true_eq] at hB
  obtain ⟨⟨hback, htail⟩, hhi⟩ := hB
  rw [List.all_eq_true] at hback htail
  simp only [List.size_toArray] at hhi
  have hb : Back l.toArray := back_of hback
  have hord : ∀ k, lo ≤ k → k < l.length → ∀ listed : Array Bool, k ∈ Region.ready .any l.toArray listed → Closed l.toArray listed → ∀ j, j < k → j < hi → listed.getD j false = true := by
    intro k hmk hk listed hr hc j hj hjh
    have h1 := htail (l[k], k) (by
      rw [List.mem_zipIdx_iff_getElem?]
      simp)
    simp only [Bool.or_eq_true, decide_eq_true_eq] at h1
    rcases h1 with h1 | h1
    · omega
    · rw [List.all_eq_true] at h1
      exact ord_of hk (h1 j (by simp; omega)) hr hc
  intro a listed ha hs hc hl
  have hR := h a ha
  clear h
  have main : ∀ (fuel k : Nat) (listed : Array Bool) (a : Act) (w : World), lo ≤ k → k ≤ hi → listed.size = l.length → Closed l.toArray listed → (∀ j, j < l.length → (listed.getD j false = true ↔ j < k)) → fuel + k = hi →
      wpListIn (fen rd) 0 P l.toArray (lift n (fun dm' e f' w' => e = .normal ∧ ws P rd n dm' l hi Q f' w')) ((l.take hi).drop k) a w → wpAnyIn (fen rd) 0 P .any l.toArray (lift n Q) (l.length - k) listed a w := by
    intro fuel
    induction fuel with
    | zero =>
      intro k listed a w hlk hkh hs hc hl hf h
      have : k = hi := by omega
      subst this
      rw [List.drop_eq_nil_of_le (by simp; omega)] at h
      obtain ⟨dm', f', ha', _, hws⟩ := h
      exact hws a listed ha' hs hc hl
    | succ fuel ih =>
      intro k listed a w hlk hkh hs hc hl hf h
      have hs' : listed.size = l.toArray.size := by simpa using hs
      have hkl : k < l.length := by omega
      have hd : (l.take hi).drop k = l[k] :: (l.take hi).drop (k + 1) := by
        rw [List.drop_eq_getElem_cons (by simp; omega)]
        simp
      rw [hd] at h
      rw [show l.length - k = (l.length - (k + 1)) + 1 by omega]
      refine ⟨fun hr => ?_, fun i hi' => ?_⟩
      · have := ready_nil hb hs' hr k (by simpa using hkl)
        rw [hl k hkl] at this
        omega
      · obtain ⟨h1, h2⟩ := ready_lt hs' hi'
        have h1' : i < l.length := by simpa using h1
        have hge : k ≤ i := by
          refine Nat.le_of_not_lt fun hlt => ?_
          rw [(hl i h1').2 hlt] at h2
          cases h2
        have hik : i = k := by
          by_cases hki : k < i
          · have := hord i (by omega) h1' listed hi' hc k hki (by omega)
            rw [hl k hkl] at this
            omega
          · omega
        subst hik
        have h' := wpOp_of_wpList (i := i) (o := l[i]) (by simp) h
        have hr' : ∀ e a w, lift n (fun dm' e f' w' => e = .normal ∧ ws P rd n dm' l hi Q f' w') e a w → e = .normal := by
          rintro e a w ⟨_, _, _, he, _⟩; exact he
        unfold wpOpIn at h' ⊢
        rw [show l.toArray[i]? = some l[i] by simp] at h' ⊢
        have hstep : ∀ a' w', wpListIn (fen rd) 0 P l.toArray (lift n (fun dm' e f' w' => e = .normal ∧ ws P rd n dm' l hi Q f' w')) ((l.take hi).drop (i + 1)) a' w' → wpAnyIn (fen rd) 0 P .any l.toArray (lift n Q) (l.length - (i + 1)) (listed.setIfInBounds i true) a' w' := by
          intro a' w' h''
          refine ih (i + 1) _ a' w' (by omega) (by omega) (by simpa using hs) (hc.set hs' hi') (fun j hj => ?_) (by omega) h''
          rw [getD_set _ _ _ (by omega)]
          by_cases hij : i = j
          · subst hij; simp
          · rw [if_neg hij, hl j hj]
            omega
        show if _ then _ else _
        have h' : if _ then _ else _ := h'
        split at h'
        · rename_i hw
          rw [if_pos hw]
          exact upon_mono2 hstep (fun e a w he q => absurd (hr' e a w q) he) h'
        · rename_i hw
          rw [if_neg hw]
          exact ⟨h'.1, hstep _ _ h'.2⟩
  exact main (hi - lo) lo listed a w (Nat.le_refl _) hlh hs hc hl (by omega) hR
theorem ws_tail {l : List Oper} (lo : Nat) (hB : chainS l.toArray lo l.length = true) (hlo : lo ≤ l.length) (h : wl P rd n dm l.toArray (l.drop lo) Q f w) : ws P rd n dm l lo Q f w := by
  simp only [chainS, Bool.and_eq_true, decide_eq_true_eq] at hB
  obtain ⟨⟨hback, htail⟩, hhi⟩ := hB
  rw [List.all_eq_true] at hback htail
  have hb : Back l.toArray := back_of hback
  have hord : ∀ k, lo ≤ k → k < l.toArray.size → ∀ listed : Array Bool, listed.size = l.toArray.size → k ∈ Region.ready .any l.toArray listed → Closed l.toArray listed → ∀ j, j < k → listed.getD j false = true := by
    intro k hmk hk listed _ hr hc j hj
    have hkl : k < l.length := by simpa using hk
    have h1 := htail (l[k], k) (by
      rw [List.mem_zipIdx_iff_getElem?]
      simp)
    simp only [Bool.or_eq_true, decide_eq_true_eq] at h1
    rcases h1 with h1 | h1
    · omega
    · rw [List.all_eq_true] at h1
      exact ord_of hkl (h1 j (by simp; omega)) hr hc
  intro a listed ha hs hc hl
  exact any_tail (rd := rd) (P := P) (m := lo) (R := lift n Q) hb hord (l.length - lo) lo listed a w (Nat.le_refl _) (by simpa using hs) hc (by simpa using hl) (by simp; omega) (h a ha)
theorem ws_draw {l : List Oper} (lo m : Nat) (D : Draw) (hB : drawS l.toArray m = true) (hlm : lo ≤ m)
    (hst : ∀ L i v w w', L i = true → D.Le L w w' → D.V i v w → D.V i v w') (hT : D.T (fun j => decide (j < lo)) w) (hV0 : ∀ j o, j < lo → l[j]? = some o → D.V j (f (o.dst.getD 0)) w)
    (ho : Owes P rd n dm l.toArray ((l.take m).filterMap (·.dst)) D f (l.take m) 0)
    (hq : ∀ L g w, (∀ j, L j = decide (j < m)) → D.T L w → allV D g w (l.take m) 0 (ws P rd n dm l m Q (mask ((l.take m).filterMap (·.dst)) g f) w)) : ws P rd n dm l lo Q f w := by
  intro a listed0 ha hs0 hc0 hl0
  simp only [drawS, Bool.and_eq_true, decide_eq_true_eq, List.all_eq_true] at hB
  obtain ⟨⟨⟨⟨hsome, hnd⟩, hback⟩, htail⟩, hml⟩ := hB
  simp only [List.size_toArray] at hml
  generalize hds : (l.take m).filterMap (·.dst) = ds at *
  have hb : Back l.toArray := by
    intro i o hi e he hbd
    have := hback (o, i) (by
      rw [List.mem_zipIdx_iff_getElem?]
      simpa using hi) e (by simpa using he)
    simp only [hbd, Bool.not_true, Bool.false_or, decide_eq_true_eq] at this
    exact this
  have hord : ∀ k, m ≤ k → k < l.toArray.size → ∀ listed : Array Bool, listed.size = l.toArray.size → k ∈ Region.ready .any l.toArray listed → Closed l.toArray listed → ∀ j, j < m → listed.getD j false = true := by
    intro k hmk hk listed hs hr hc j hj
    have hkl : k < l.length := by simpa using hk
    have h1 := htail (l[k], k) (by
      rw [List.mem_zipIdx_iff_getElem?]
      simp)
    simp only [Bool.or_eq_true, decide_eq_true_eq] at h1
    rcases h1 with h1 | h1
    · omega
    · rw [List.all_eq_true] at h1
      have h2 := h1 j (by simpa using hj)
      rw [mem_ready] at hr
      obtain ⟨_, o, ho', hall⟩ := hr
      refine before_sound hc [] #[] rfl (by simp) (by simp) l.toArray.toList (by simp) k hk j ?_ ?_
      · unfold Region.before at h2
        rw [← Array.foldl_toList] at h2
        exact h2
      · rw [ho']
        simpa using hall
  have hmd : ∀ j o, (l.take m)[j]? = some o → j < m ∧ l.toArray[j]? = some o ∧ ∃ d, o.dst = some d ∧ d ∈ ds := by
    intro j o hj
    have hjm : j < m := by
      have := (List.getElem?_eq_some_iff.1 hj).1
      simp at this; omega
    have hjo : l[j]? = some o := by rw [List.getElem?_take] at hj; simpa [hjm] using hj
    have hso := hsome o (List.mem_of_getElem? hj)
    cases hd : o.dst with
    | none => rw [hd] at hso; simp at hso
    | some d => exact ⟨hjm, by simpa using hjo, d, rfl, by rw [← hds]; exact List.mem_filterMap.2 ⟨o, List.mem_of_getElem? hj, hd⟩⟩
  have hinj : ∀ (i j : Nat) (oi oj : Oper) (d : Nat), (l.take m)[i]? = some oi → (l.take m)[j]? = some oj → oi.dst = some d → oj.dst = some d → i = j := by
    have hgen : ∀ (L : List Oper), (L.filterMap (·.dst)).Nodup → ∀ (i j : Nat) (oi oj : Oper) (d : Nat), L[i]? = some oi → L[j]? = some oj → oi.dst = some d → oj.dst = some d → i = j := by
      intro L
      induction L with
      | nil => intro _ i j oi oj d h; simp at h
      | cons o L ih =>
        intro hn i j oi oj d hi hj hdi hdj
        have hn' : (L.filterMap (·.dst)).Nodup := by
          rw [List.filterMap_cons] at hn
          split at hn
          · exact hn
          · exact (List.nodup_cons.1 hn).2
        have hno : ∀ (k : Nat) (ok : Oper) (dd : Nat), L[k]? = some ok → o.dst = some dd → ok.dst ≠ some dd := by
          intro k ok dd hk hod hkd
          rw [List.filterMap_cons, hod] at hn
          exact (List.nodup_cons.1 hn).1 (List.mem_filterMap.2 ⟨ok, List.mem_of_getElem? hk, hkd⟩)
        cases i with
        | zero =>
          cases j with
          | zero => rfl
          | succ j => simp at hi; subst hi; exact absurd hdj (hno j oj d (by simpa using hj) hdi)
        | succ i =>
          cases j with
          | zero => simp at hj; subst hj; exact absurd hdi (hno i oi d (by simpa using hi) hdj)
          | succ j => rw [ih hn' i j oi oj d (by simpa using hi) (by simpa using hj) hdi hdj]
    exact hgen _ (by rw [hds]; exact hnd)
  have main : ∀ (fuel : Nat) (listed : Array Bool) (g : Fr) (a : Act) (w : World), listed.size = l.length → fuel + cnt listed l.length = l.length → Closed l.toArray listed → (∀ j, m ≤ j → j < l.length → listed.getD j false = false) →
      Is n dm a (mask ds g f) → D.T (fun j => listed.getD j false) w → (∀ j o, (l.take m)[j]? = some o → listed.getD j false = true → D.V j (g (o.dst.getD 0)) w) → wpAnyIn (fen rd) 0 P .any l.toArray (lift n Q) fuel listed a w := by
    intro fuel
    induction fuel with
    | zero =>
      intro listed g a w hs hcnt hc hno ha hT hV
      have hall := cnt_full listed l.length (by omega)
      have hm' : m = l.length := by
        by_cases h : m < l.length
        · have := hno m (Nat.le_refl _) h
          rw [hall m h] at this
          cases this
        · omega
      have hfin := allV_elim (l.take m) 0 (fun j o hj => by rw [Nat.zero_add]; exact hV j o hj (hall j (by have := (hmd j o hj).1; omega))) (hq _ g w (fun j => by
        by_cases hj : j < l.length
        · rw [hall j hj, decide_eq_true (by omega)]
        · rw [out_false listed j (by omega), decide_eq_false (by omega)]) hT)
      have hf0 := hfin a listed ha hs hc (fun j hj => ⟨fun _ => by omega, fun _ => hall j hj⟩)
      rw [show l.length - m = 0 by omega] at hf0
      exact hf0
    | succ fuel ih =>
      intro listed g a w hs hcnt hc hno ha hT hV
      have hs' : listed.size = l.toArray.size := by simpa using hs
      refine ⟨fun hr => ?_, fun i hi => ?_⟩
      · have hall := ready_nil hb hs' hr
        have := cnt_all listed l.length (fun j hj => hall j (by simpa using hj))
        omega
      · obtain ⟨h1, h2⟩ := ready_lt hs' hi
        have h1' : i < l.length := by simpa using h1
        by_cases him : i < m
        · have hio : (l.take m)[i]? = some l[i] := by
            rw [List.getElem?_take, if_pos him]
            exact List.getElem?_eq_getElem h1'
          obtain ⟨_, hio', d, hd, hdds⟩ := hmd i _ hio
          have howe := owes_at _ 0 ho i _ hio (fun j => listed.getD j false) g w (by rw [Nat.zero_add]; exact h2) hT
          rw [Nat.zero_add] at howe
          have hready := hi
          rw [mem_ready] at hready
          obtain ⟨_, o, hoo, hall⟩ := hready
          rw [hio'] at hoo
          cases hoo
          have hwl := givens_elim (ops := l.toArray) (needs l[i]) (fun j hj => by
            unfold needs at hj
            obtain ⟨e, he, rfl⟩ := List.mem_map.1 hj
            obtain ⟨he1, he2⟩ := List.mem_filter.1 he
            have hbd : Region.binds .any e = true := by
              unfold Region.binds
              cases hg : e.ground <;> rw [hg] at he2 <;> simp at he2 ⊢
            have hlt := hb i _ hio' e (by simpa using he1) hbd
            have hlst := hall e (by simpa using he1) hbd
            have hjm : e.on < m := by omega
            have hjo : (l.take m)[e.on]? = some l[e.on] := by
              rw [List.getElem?_take, if_pos hjm]
              exact List.getElem?_eq_getElem (by omega)
            have := hV e.on _ hjo hlst
            unfold dstAt
            obtain ⟨_, hj2, dj, hdj, _⟩ := hmd _ _ hjo
            rw [hj2]
            simp only [Option.bind_some]
            exact this) howe
          rw [hd] at hwl
          refine wpOp_of_wl hio' hwl (fun dm e f' w' q => q.1) ?_ ha
          rintro dm' a' f' w' ha' ⟨_, rfl, hT', hL', v, rfl, hV'⟩
          have hmask : upd (mask ds g f) d v = mask ds (upd g d v) f := by
            funext k
            by_cases hk : k = d
            · subst hk
              rw [upd_same, mask_in hdds, upd_same]
            · rw [upd_other _ _ _ _ hk]
              by_cases hkd : k ∈ ds
              · rw [mask_in hkd, mask_in hkd, upd_other _ _ _ _ hk]
              · rw [mask_out hkd, mask_out hkd]
          simp only [Option.getD_some] at ha'
          rw [hmask] at ha'
          rw [plus_set listed i (by omega)] at hT'
          refine ih _ (upd g d v) a' w' (by simpa using hs) ?_ (hc.set hs' hi) ?_ ha' hT' ?_
          · rw [cnt_set listed i (by omega) h2, if_pos h1']; omega
          · intro j hmj hjl
            rw [getD_set _ _ _ (by omega), if_neg (by omega)]
            exact hno j hmj hjl
          · intro j oj hj hlj
            obtain ⟨_, _, dj, hdj, _⟩ := hmd j oj hj
            rw [getD_set _ _ _ (by omega)] at hlj
            by_cases hij : i = j
            · subst hij
              rw [hio] at hj
              cases hj
              rw [hd]
              simp only [Option.getD_some, upd_same]
              exact hV'
            · rw [if_neg hij] at hlj
              have hne : dj ≠ d := fun e => hij (hinj i j _ oj d hio hj hd (by rw [hdj, e]))
              have := hst _ j _ _ _ hlj hL' (hV j oj hj hlj)
              rw [hdj] at this ⊢
              simp only [Option.getD_some] at this ⊢
              rw [upd_other _ _ _ _ hne]
              exact this
        · have hallj := hord i (by omega) h1 listed hs' hi hc
          have hfin := allV_elim (l.take m) 0 (fun j o hj => by rw [Nat.zero_add]; exact hV j o hj (hallj j (by have := (hmd j o hj).1; omega))) (hq _ g w (fun j => by
            by_cases hj : j < m
            · rw [hallj j hj, decide_eq_true hj]
            · rw [decide_eq_false hj]
              by_cases hjl : j < l.length
              · exact hno j (by omega) hjl
              · exact out_false listed j (by omega)) hT)
          have hf0 := hfin a listed ha hs hc (fun j hj => ⟨(fun h => by
            refine Nat.lt_of_not_le fun hij => ?_
            rw [hno j hij hj] at h
            cases h), hallj j⟩)
          have hcn := cnt_pre listed m l.length (by omega) hallj hno
          rw [show l.length - m = fuel + 1 by omega] at hf0
          exact hf0.2 i hi
  have h0 : Is n dm a (mask ds f f) := by
    have : mask ds f f = f := by funext k; unfold mask; cases ds.elem k <;> rfl
    rw [this]; exact ha
  have hlm' : lo ≤ l.length := by omega
  have hz := cnt_pre listed0 lo l.length hlm' (fun j hj => (hl0 j (by omega)).2 hj) (fun j h1 h2 => by
    cases h : listed0.getD j false with
    | false => rfl
    | true => have := (hl0 j h2).1 h; omega)
  refine main _ listed0 f a w hs0 (by rw [hz]; omega) hc0 (fun j h1 h2 => ?_) h0 ?_ ?_
  · cases h : listed0.getD j false with
    | false => rfl
    | true => have := (hl0 j h2).1 h; omega
  · have he : (fun j => listed0.getD j false) = fun j => decide (j < lo) := by
      funext j
      by_cases hj : j < l.length
      · cases h : listed0.getD j false with
        | true => rw [decide_eq_true ((hl0 j hj).1 h)]
        | false =>
          refine (decide_eq_false fun h' => ?_).symm
          rw [(hl0 j hj).2 h'] at h; cases h
      · rw [out_false _ _ (by omega), decide_eq_false (by omega)]
    rw [he]; exact hT
  · intro j o hj hlj
    obtain ⟨hjm, hjo, _⟩ := hmd j o hj
    exact hV0 j o ((hl0 j (by omega)).1 hlj) (by simpa using hjo)
def needsS (ops : Array Oper) (lo m n : Nat) (sm : List Nat) : Bool :=
  let ds := (ops.toList.take m).filterMap (·.dst)
  sm.all (fun k => decide (lo ≤ k) && decide (k < m)) && (ops.toList.take m).zipIdx.all fun q => decide (q.2 < lo) || (let o := q.1
    (o.op.operands.toList.all fun x => match x with
      | .tmp t => !ds.elem t || (needs o).any fun j => (((ops[j]?).bind (·.dst)) == some t) && (sm.elem q.2 || !sm.elem j)
      | _ => true) &&
    (match o.guard with
      | none => true
      | some (j, _) => (needs o).elem j && (((ops[j]?).bind (·.dst)).any fun t => decide (t < n)) && !sm.elem j) &&
    (match o.op with | .select .. => false | _ => true) &&
    (match o.dst with | some d => decide (d < n) | none => false))
theorem ws_semi {l : List Oper} {V : Veil} (lo m : Nat) (sm : List Nat) (hB : drawS l.toArray m = true) (hlm : lo ≤ m) (hN : needsS l.toArray lo m n sm = true)
    (hst : ∀ i v w w', sm.elem i = true → Ext w w' → V i v w → V i v w')
    (h : wm P l.toArray w V sm (slotsM l.toArray sm) ((l.take m).drop lo) lo (fun f' => ∀ g w', Ext w w' → (∀ i, sm.elem i = true → i < m → V i (g (dstAt l.toArray i)) w') → ws P rd n dm l m Q (mask (slotsM l.toArray sm) g f') w') f) : ws P rd n dm l lo Q f w := by
  obtain ⟨F0, hF0', hFK, hF'⟩ := wm_vals _ _ _ h
  simp only [needsS, Bool.and_eq_true] at hN
  obtain ⟨hsm, hN⟩ := hN
  have hB' := hB
  simp only [drawS, Bool.and_eq_true, decide_eq_true_eq, List.all_eq_true] at hB
  obtain ⟨⟨⟨⟨hsome, hnd⟩, hback⟩, htail⟩, hml⟩ := hB
  simp only [List.size_toArray] at hml
  have hlen : (l.take m).length = m := by simp; omega
  have hlen' : lo + ((l.take m).drop lo).length = m := by rw [List.length_drop, hlen]; omega
  rw [hlen'] at hFK
  obtain ⟨F, hF0, hFm, hF, hFlo⟩ : ∃ F : Nat → Fr, F 0 = f ∧ F m = F0 m ∧ (∀ (k : Nat) (o : Oper), lo ≤ k → (l.take m)[k]? = some o →
      (sm.elem k = true → (∀ g, SOp P l.toArray w o (mask (slotsM l.toArray sm) g (F k)) (fun w => givs l.toArray V sm g w o) (V k)) ∧ F (k + 1) = F k) ∧ (sm.elem k = false → ∃ v, SOp P l.toArray w o (F k) (fun _ => True) (fun v' _ => v' = v) ∧ F (k + 1) = upd (F k) (o.dst.getD 0) v)) ∧ ∀ k, k ≤ lo → F k = f := by
    refine ⟨fun k => if k ≤ lo then f else F0 k, by simp, ?_, ?_, fun k hk => if_pos hk⟩
    · show (if m ≤ lo then f else F0 m) = F0 m
      split
      · rw [show m = lo by omega, hF0']
      · rfl
    · intro k o hlk hk
      have hk0 : (if k ≤ lo then f else F0 k) = F0 k := by
        split
        · rw [show k = lo by omega, hF0']
        · rfl
      have hk1 : (if k + 1 ≤ lo then f else F0 (k + 1)) = F0 (k + 1) := if_neg (by omega)
      simp only [hk0, hk1]
      have := hF' (k - lo) o (by rw [List.getElem?_drop, show lo + (k - lo) = k by omega]; exact hk)
      rw [show lo + (k - lo) = k by omega] at this
      exact this
  rw [← hFm] at hFK
  generalize hss : slotsM l.toArray sm = ss at *
  let U : Veil := fun i v w => if sm.elem i = true then V i v w else ∀ o, (l.take m)[i]? = some o → v = F (i + 1) (o.dst.getD 0)
  have hdist : ∀ (i j : Nat) (oi oj : Oper) (d : Nat), (l.take m)[i]? = some oi → (l.take m)[j]? = some oj → oi.dst = some d → oj.dst = some d → i = j := by
    have hgen : ∀ (L : List Oper), (L.filterMap (·.dst)).Nodup → ∀ (i j : Nat) (oi oj : Oper) (d : Nat), L[i]? = some oi → L[j]? = some oj → oi.dst = some d → oj.dst = some d → i = j := by
      intro L
      induction L with
      | nil => intro _ i j oi oj d h; simp at h
      | cons o L ih =>
        intro hn i j oi oj d hi hj hdi hdj
        have hn' : (L.filterMap (·.dst)).Nodup := by
          rw [List.filterMap_cons] at hn
          split at hn
          · exact hn
          · exact (List.nodup_cons.1 hn).2
        have hno : ∀ (k : Nat) (ok : Oper) (dd : Nat), L[k]? = some ok → o.dst = some dd → ok.dst ≠ some dd := by
          intro k ok dd hk hod hkd
          rw [List.filterMap_cons, hod] at hn
          exact (List.nodup_cons.1 hn).1 (List.mem_filterMap.2 ⟨ok, List.mem_of_getElem? hk, hkd⟩)
        cases i with
        | zero =>
          cases j with
          | zero => rfl
          | succ j => simp at hi; subst hi; exact absurd hdj (hno j oj d (by simpa using hj) hdi)
        | succ i =>
          cases j with
          | zero => simp at hj; subst hj; exact absurd hdi (hno i oi d (by simpa using hi) hdj)
          | succ j => rw [ih hn' i j oi oj d (by simpa using hi) (by simpa using hj) hdi hdj]
    exact hgen _ hnd
  have hdst : ∀ (i : Nat) (o : Oper), (l.take m)[i]? = some o → ∃ d, o.dst = some d := by
    intro i o hi
    have := hsome o (List.mem_of_getElem? hi)
    cases hd : o.dst with
    | none => rw [hd] at this; simp at this
    | some d => exact ⟨d, rfl⟩
  have hat : ∀ (i : Nat) (o : Oper), (l.take m)[i]? = some o → i < m ∧ l.toArray[i]? = some o := by
    intro i o hi
    have him : i < m := by have := (List.getElem?_eq_some_iff.1 hi).1; omega
    exact ⟨him, by rw [List.getElem?_take, if_pos him] at hi; simpa using hi⟩
  have hsmd : ∀ k ∈ sm, ∃ o, (l.take m)[k]? = some o ∧ o.dst = some (dstAt l.toArray k) := by
    intro k hk
    have hkm : k < m := by have := List.all_eq_true.1 hsm k hk; simp only [Bool.and_eq_true, decide_eq_true_eq] at this; omega
    have hkl : k < (l.take m).length := by omega
    obtain ⟨d, hd⟩ := hdst k _ (List.getElem?_eq_getElem hkl)
    refine ⟨_, List.getElem?_eq_getElem hkl, ?_⟩
    have := (hat k _ (List.getElem?_eq_getElem hkl)).2
    unfold dstAt
    rw [this, Option.bind_some, hd]; rfl
  -- one step of the run keeps the slots of other operations
  have hstep : ∀ (k : Nat) (o : Oper) (d : Nat), (l.take m)[k]? = some o → (∀ dk, o.dst = some dk → d ≠ dk) → F (k + 1) d = F k d := by
    intro k o d hk hne
    obtain ⟨dk, hdk⟩ := hdst k o hk
    by_cases hlk : k < lo
    · rw [hFlo (k + 1) (by omega), hFlo k (by omega)]
    replace hlk : lo ≤ k := by omega
    cases hs : sm.elem k with
    | true => rw [((hF k o hlk hk).1 hs).2]
    | false =>
      obtain ⟨v, _, hFk⟩ := (hF k o hlk hk).2 hs
      rw [hFk, hdk]
      exact upd_other _ _ _ _ (hne dk hdk)
  have hkeep : ∀ (k i : Nat) (o : Oper) (d : Nat), (l.take m)[i]? = some o → o.dst = some d → i < k → k ≤ m → F k d = F (i + 1) d := by
    intro k
    induction k with
    | zero => intro i o d _ _ h; omega
    | succ k ih =>
      intro i o d hi hd hik hkm
      by_cases hik' : i = k
      · subst hik'; rfl
      · have hkl : k < (l.take m).length := by omega
        rw [hstep k _ d (List.getElem?_eq_getElem hkl) (fun dk hdk e => by subst e; exact hik' (hdist i k o _ d hi (List.getElem?_eq_getElem hkl) hd hdk))]
        exact ih i o d hi hd (by omega) (by omega)
  have hout : ∀ (k d : Nat), k ≤ m → d ∉ (l.take m).filterMap (·.dst) → F k d = f d := by
    intro k
    induction k with
    | zero => intro d _ _; rw [hF0]
    | succ k ih =>
      intro d hkm hd
      have hkl : k < (l.take m).length := by omega
      rw [hstep k _ d (List.getElem?_eq_getElem hkl) (fun dk hdk e => by subst e; exact hd (List.mem_filterMap.2 ⟨_, List.getElem_mem hkl, hdk⟩))]
      exact ih d (by omega) hd
  have hssd : ∀ (j : Nat) (oj : Oper) (t : Nat), (l.take m)[j]? = some oj → oj.dst = some t → (t ∈ ss ↔ ∃ k, sm.elem k = true ∧ dstAt l.toArray k = t) := by
    intro j oj t _ _
    rw [← hss]
    unfold slotsM
    simp
  -- in the frame of a run, a slot that an operation of V's makes is g's; a quiet one's is the run's
  have hslot : ∀ (i : Nat) (o : Oper) (g : Fr) (w' : World), (l.take m)[i]? = some o → (∀ j ∈ needs o, U j (g (dstAt l.toArray j)) w') → ∀ (j : Nat) (oj : Oper) (t : Nat), j ∈ needs o → l.toArray[j]? = some oj → oj.dst = some t →
      (sm.elem j = false → mask ((l.take m).filterMap (·.dst)) g f t = F i t) ∧ mask ((l.take m).filterMap (·.dst)) g f t = g t ∧ j < i := by
    intro i o g w' hi hneed j oj t hj hoj hdj
    have hji : j < i := by
      unfold needs at hj
      obtain ⟨e, he, rfl⟩ := List.mem_map.1 hj
      obtain ⟨he1, he2⟩ := List.mem_filter.1 he
      have hbd : Region.binds .any e = true := by
        unfold Region.binds
        cases hg : e.ground <;> rw [hg] at he2 <;> simp at he2 ⊢
      have := hback (o, i) (by rw [List.mem_zipIdx_iff_getElem?]; simpa using (hat i o hi).2) e (by simpa using he1)
      simp only [hbd, Bool.not_true, Bool.false_or, decide_eq_true_eq] at this
      exact this
    have him := (hat i o hi).1
    have hjm : (l.take m)[j]? = some oj := by
      rw [List.getElem?_take, if_pos (by omega)]
      simpa using hoj
    have ht : t ∈ (l.take m).filterMap (·.dst) := List.mem_filterMap.2 ⟨oj, List.mem_of_getElem? hjm, hdj⟩
    have hda : dstAt l.toArray j = t := by simp [dstAt, hoj, hdj]
    refine ⟨fun hs => ?_, mask_in ht, hji⟩
    rw [mask_in ht, hkeep i j oj t hjm hdj hji (by omega)]
    have := hneed j hj
    simp only [U, hs, Bool.false_eq_true, if_false] at this
    have := this oj hjm
    rw [hda, hdj] at this
    exact this
  have hsmlo : ∀ k, k < lo → sm.elem k = false := fun k hk => by
    cases h : sm.elem k with
    | false => rfl
    | true =>
      have := List.all_eq_true.1 hsm k (by simpa using h)
      simp only [Bool.and_eq_true, decide_eq_true_eq] at this
      omega
  refine ws_draw lo m ⟨fun L w' => Ext w w' ∧ ∀ i, i < lo → L i = true, fun _ => Ext, U⟩ hB' hlm (fun L i v w1 w2 _ hl hv => ?_) ⟨Ext.refl w, fun i hi => by simpa using hi⟩ (fun j o hj ho => ?_) ?_ ?_
  · simp only [U] at hv ⊢
    split
    · rename_i hs; rw [if_pos hs] at hv; exact hst i v w1 w2 hs hl hv
    · rename_i hs; rw [if_neg hs] at hv; exact hv
  · simp only [U, hsmlo j hj, Bool.false_eq_true, if_false]
    intro o' ho'
    rw [hFlo (j + 1) (by omega)]
    have := (hat j o' ho').2
    rw [List.getElem?_toArray] at this
    rw [ho] at this; cases this; rfl
  · -- each operation
    have howe : ∀ (L : List Oper) (k : Nat), (∀ j o, L[j]? = some o → (l.take m)[k + j]? = some o) → Owes P rd n dm l.toArray ((l.take m).filterMap (·.dst)) ⟨fun L w' => Ext w w' ∧ ∀ i, i < lo → L i = true, fun _ => Ext, U⟩ f L k := by
      intro L
      induction L with
      | nil => intro k _; trivial
      | cons o L ih =>
        intro k hL
        refine ⟨?_, ih (k + 1) (fun j o' hj => by
          have := hL (j + 1) o' (by simpa using hj)
          rwa [show k + (j + 1) = k + 1 + j by omega] at this)⟩
        have hk : (l.take m)[k]? = some o := hL 0 o rfl
        obtain ⟨hkm, hko⟩ := hat k o hk
        obtain ⟨d, hd⟩ := hdst k o hk
        intro Ls g w1 hLi hTw
        have hlk : lo ≤ k := by
          refine Nat.le_of_not_lt fun h => ?_
          rw [hTw.2 k h] at hLi; cases hLi
        refine (show ∀ (p : Prop), ((∀ j ∈ needs o, U j (g (dstAt l.toArray j)) w1) → p) → givens l.toArray ⟨fun L w' => Ext w w' ∧ ∀ i, i < lo → L i = true, fun _ => Ext, U⟩ g w1 (needs o) p from ?_) _ ?_
        · intro p
          generalize needs o = nl
          induction nl with
          | nil => intro hp; exact hp (by simp)
          | cons j nl ihn =>
            intro hp hj
            exact ihn (fun h' => hp (fun j' hj' => by
              rcases List.mem_cons.1 hj' with rfl | hj'
              · exact hj
              · exact h' j' hj'))
        intro hneed
        have hNo := List.all_eq_true.1 hN (o, k) (by rw [List.mem_zipIdx_iff_getElem?]; simpa using hk)
        simp only [Bool.or_eq_true, decide_eq_true_eq] at hNo
        replace hNo := hNo.resolve_left (by omega)
        simp only [Bool.and_eq_true] at hNo
        obtain ⟨⟨⟨hops, hgd⟩, hsel⟩, hdn⟩ := hNo
        rw [hd] at hdn
        simp only [decide_eq_true_eq] at hdn
        have hsel' : ∀ cs b, o.op ≠ .select cs b := by
          intro cs b e
          rw [e] at hsel
          cases hsel
        have hsl := hslot k o g w1 hk hneed
        -- the frame that the proof of this operation has seen
        have hfr : ∀ fr : Fr, (fr = F k ∧ sm.elem k = false ∨ fr = mask ss g (F k) ∧ sm.elem k = true) → ∀ x ∈ o.op.operands, evF fr x = evF (mask ((l.take m).filterMap (·.dst)) g f) x := by
          intro fr hfr x hx
          cases x with
          | tmp t =>
            have h0 := List.all_eq_true.1 hops (.tmp t) (by simpa using hx)
            simp only [Bool.or_eq_true] at h0
            show fr t = mask _ g f t
            by_cases ht : t ∈ (l.take m).filterMap (·.dst)
            · rcases h0 with h1 | h1
              · simp at h1
                obtain ⟨x, hx1, hx2⟩ := List.mem_filterMap.1 ht
                exact absurd hx2 (h1 x hx1)
              · obtain ⟨j, hj, hjt⟩ := List.any_eq_true.1 h1
                simp only [Bool.and_eq_true, beq_iff_eq] at hjt
                obtain ⟨hjt, hjq⟩ := hjt
                cases hoj : l.toArray[j]? with
                | none => rw [hoj] at hjt; simp at hjt
                | some oj =>
                  rw [hoj] at hjt
                  have hdj : oj.dst = some t := by simpa using hjt
                  obtain ⟨q1, q2, q3⟩ := hsl j oj t hj hoj hdj
                  rcases hfr with ⟨rfl, hs⟩ | ⟨rfl, hs⟩
                  · rw [hs] at hjq
                    simp only [Bool.false_or, Bool.not_eq_true'] at hjq
                    exact (q1 hjq).symm
                  · have hda : dstAt l.toArray j = t := by simp [dstAt, hoj, hdj]
                    by_cases hjs : sm.elem j = true
                    · rw [q2]
                      refine mask_in ?_
                      rw [← hss]; unfold slotsM
                      exact List.mem_map.2 ⟨j, by simpa using hjs, hda⟩
                    · have hjs' : sm.elem j = false := by simpa using hjs
                      rw [q1 hjs']
                      refine mask_out ?_
                      rw [← hss]; unfold slotsM
                      intro hmem
                      obtain ⟨k', hk', hdk'⟩ := List.mem_map.1 hmem
                      have hjm : (l.take m)[j]? = some oj := by
                        rw [List.getElem?_take, if_pos (by omega)]
                        simpa using hoj
                      obtain ⟨ok, hok, hdk⟩ := hsmd k' hk'
                      rw [hdk'] at hdk
                      have := hdist k' j ok oj t hok hjm hdk hdj
                      subst this
                      rw [show sm.elem k' = true by simpa using hk'] at hjs'
                      cases hjs' 
            · rw [mask_out ht]
              rcases hfr with ⟨rfl, hs⟩ | ⟨rfl, hs⟩
              · exact hout k t (by omega) ht
              · rw [mask_out, hout k t (by omega) ht]
                rw [← hss]; unfold slotsM
                intro hmem
                obtain ⟨k', hk', hdk'⟩ := List.mem_map.1 hmem
                obtain ⟨ok, hok, hdk⟩ := hsmd k' hk'
                rw [hdk'] at hdk
                exact ht (List.mem_filterMap.2 ⟨ok, List.mem_of_getElem? hok, hdk⟩)
          | _ => rfl
        -- the operation, on the frame at hand
        have hgiv : givs l.toArray V sm g w1 o := fun j hj hs => by
          have := hneed j hj
          simp only [U, hs, if_true] at this
          exact this
        obtain ⟨fr, H, R, hso, hfrx, hH, hR⟩ : ∃ (fr : Fr) (H : World → Prop) (R : Value → World → Prop), SOp P l.toArray w o fr H R ∧ (fr = F k ∧ sm.elem k = false ∨ fr = mask ss g (F k) ∧ sm.elem k = true) ∧ H w1 ∧ (∀ v w', R v w' → U k v w') := by
          cases hs : sm.elem k with
          | true => exact ⟨_, _, _, ((hF k o hlk hk).1 hs).1 g, .inr ⟨rfl, rfl⟩, hgiv, fun v w' hv => by simp only [U, hs, if_true]; exact hv⟩
          | false =>
            obtain ⟨v, hv, hFk⟩ := (hF k o hlk hk).2 hs
            refine ⟨_, _, _, hv, .inl ⟨rfl, rfl⟩, trivial, fun v' w' e => ?_⟩
            simp only [U, hs, Bool.false_eq_true, if_false]
            intro o' ho'
            rw [hk] at ho'
            cases ho'
            rw [hFk, e, upd_same]
        have hoper := hfr fr hfrx
        have hfin : ∀ v w', Ext w1 w' → R v w' → obPost dm ⟨fun L w' => Ext w w' ∧ ∀ i, i < lo → L i = true, fun _ => Ext, U⟩ Ls k (o.dst.getD 0) (mask ((l.take m).filterMap (·.dst)) g f) w1 dm .normal (upd (mask ((l.take m).filterMap (·.dst)) g f) (o.dst.getD 0) v) w' :=
          fun v w' hx hv => ob (D := ⟨fun L w' => Ext w w' ∧ ∀ i, i < lo → L i = true, fun _ => Ext, U⟩) ⟨hTw.1.trans hx, fun i hi => by unfold plus; rw [hTw.2 i hi]; simp⟩ hx (hR v w' hv)
        obtain ⟨od, oop, oty, opos, oaf, ogd⟩ := o
        simp only at hd
        subst hd
        simp only [Option.getD_some] at hfin
        intro a ha
        cases ogd with
        | none =>
          have q := srun_congr hsel' hoper (show SRun P w _ fr H R from hso)
          refine wpListIn_plain rfl fun K' hK => ?_
          refine wl_of_srun q hTw.1 hH ha _ _ fun v w' hx hv => hK _ _ ?_
          exact ⟨_, _, ha.put hdn v, hfin v w' hx hv⟩
        | some gp =>
          obtain ⟨j, pol⟩ := gp
          obtain ⟨c, t, ht, hjs, hqy, hqn⟩ := hso
          simp only [Bool.and_eq_true, Bool.not_eq_true'] at hgd
          obtain ⟨⟨hjn, hjd⟩, hjq⟩ := hgd
          cases hoj : l.toArray[j]? with
          | none => rw [hoj] at hjs; simp at hjs
          | some oj =>
            rw [hoj] at hjd
            simp only [Option.bind_some, Option.any_eq_true] at hjd
            obtain ⟨dj, hdj, hdjn⟩ := hjd
            obtain ⟨q1, q2, q3⟩ := hsl j oj dj (by simpa using hjn) hoj hdj
            have hda : dstAt l.toArray j = dj := by simp [dstAt, hoj, hdj]
            have hfd : fr dj = mask ((l.take m).filterMap (·.dst)) g f dj := by
              rcases hfrx with ⟨rfl, _⟩ | ⟨rfl, _⟩
              · exact (q1 hjq).symm
              · rw [q1 hjq]
                refine mask_out ?_
                rw [← hss]; unfold slotsM
                intro hmem
                obtain ⟨k', hk', hdk'⟩ := List.mem_map.1 hmem
                obtain ⟨ok, hok, hdk⟩ := hsmd k' hk'
                rw [hdk'] at hdk
                have hjm : (l.take m)[j]? = some oj := by
                  rw [List.getElem?_take, if_pos (by omega)]
                  simpa using hoj
                have := hdist k' j ok oj dj hok hjm hdk hdj
                subst this
                rw [show sm.elem k' = true by simpa using hk'] at hjq
                cases hjq
            rw [hda, hfd] at ht
            refine wpListIn_step fun K' hK => ?_
            rw [wanted_gv ha rfl hoj hdj ht (by simpa using hdjn)]
            cases hc : (c && (t == pol)) with
            | true =>
              rw [if_pos rfl]
              have q := srun_congr hsel' hoper (hqy hc)
              refine wl_of_srun q hTw.1 hH ha _ _ fun v w' hx hv => hK _ _ ?_
              exact ⟨_, _, ha.put hdn v, hfin v w' hx hv⟩
            | false =>
              rw [if_neg (by simp)]
              have := hfin undef w1 (Ext.refl w1) (hqn hc w1)
              exact ⟨fun _ _ => trivial, hK _ _ ⟨_, _, ha.put hdn undef, this⟩⟩
    exact howe _ 0 (fun j o hj => by rw [Nat.zero_add]; exact hj)
  · -- the tail
    intro Ls g w1 _ hTw
    have hall : ∀ (L : List Oper) (k : Nat) (p : Prop), ((∀ j o, L[j]? = some o → U (k + j) (g (o.dst.getD 0)) w1) → p) → allV ⟨fun L w' => Ext w w' ∧ ∀ i, i < lo → L i = true, fun _ => Ext, U⟩ g w1 L k p := by
      intro L
      induction L with
      | nil => intro k p hp; exact hp (by intro j o h; simp at h)
      | cons o L ih =>
        intro k p hp hv
        refine ih (k + 1) p fun h' => hp fun j o' hj => ?_
        cases j with
        | zero => simp at hj; subst hj; exact hv
        | succ j =>
          have := h' j o' (by simpa using hj)
          rwa [show k + 1 + j = k + (j + 1) by omega] at this
    refine hall _ 0 _ fun hv => ?_
    have heq : mask ((l.take m).filterMap (·.dst)) g f = mask ss g (F m) := by
      funext t
      by_cases ht : t ∈ (l.take m).filterMap (·.dst)
      · rw [mask_in ht]
        obtain ⟨o, ho, hd⟩ := List.mem_filterMap.1 ht
        obtain ⟨i, hi⟩ := List.getElem?_of_mem ho
        have hiv := hv i o hi
        rw [Nat.zero_add, hd] at hiv
        simp only [Option.getD_some] at hiv
        cases hs : sm.elem i with
        | true =>
          refine (mask_in ?_).symm
          rw [← hss]; unfold slotsM
          refine List.mem_map.2 ⟨i, by simpa using hs, ?_⟩
          unfold dstAt
          rw [(hat i o hi).2, Option.bind_some, hd]; rfl
        | false =>
          simp only [U, hs, Bool.false_eq_true, if_false] at hiv
          have := hiv o hi
          rw [hd] at this
          simp only [Option.getD_some] at this
          rw [this, mask_out, ← hkeep m i o t hi hd (hat i o hi).1 (Nat.le_refl _)]
          rw [← hss]; unfold slotsM
          intro hmem
          obtain ⟨k', hk', hdk'⟩ := List.mem_map.1 hmem
          obtain ⟨ok, hok, hdk⟩ := hsmd k' hk'
          rw [hdk'] at hdk
          have := hdist k' i ok o t hok hi hdk hd
          subst this
          rw [show sm.elem k' = true by simpa using hk'] at hs
          cases hs
      · rw [mask_out ht, mask_out, hout m t (Nat.le_refl _) ht]
        rw [← hss]; unfold slotsM
        intro hmem
        obtain ⟨k', hk', hdk'⟩ := List.mem_map.1 hmem
        obtain ⟨ok, hok, hdk⟩ := hsmd k' hk'
        rw [hdk'] at hdk
        exact ht (List.mem_filterMap.2 ⟨ok, List.mem_of_getElem? hok, hdk⟩)
    rw [heq]
    refine hFK g w1 hTw.1 fun i hs him => ?_
    obtain ⟨o, ho, hd⟩ := hsmd i (by simpa using hs)
    have := hv i o ho
    rw [Nat.zero_add, hd] at this
    simp only [Option.getD_some, U, hs, if_true] at this
    exact this
end
end Gw
end Go.Proofs.YtjjkhjieegmphaaDoor
end
section
namespace Go.Proofs.YtjjkhjieegmphaaDoor
open Go.RowKit
namespace Gw
section
variable {A : Nat → Prop} {N : Oth} {w0 w w' : World} {L Z : List OA}
theorem St.take {B : Nat} (h : St A (N.done B) w0 w L Z) (hB : w0.heap.size ≤ B ∧ ¬ N B ∧ ¬ N (B + 1)) : Ob w B (.deferred (some [])) ∧ ∀ w', Chg (· = B) w w' → St A N w0 w' L Z := by
  have hw := h.wats
  refine ⟨hw (B, .deferred (some [])) (by simp [Oth.done]), fun w' hc => h.others hc (fun i hi => ⟨?_, by rw [hi]; exact hB.1⟩) (fun i hi => .inl hi) fun d hd => ?_⟩
  · rw [hi]; exact .inr (.inl rfl)
  · exact (hw d (List.mem_cons_of_mem _ hd)).chg hc (fun (q : d.1 = B) => hB.2.1 (q ▸ N.ok d hd))
def bodyQ {σ ρ γ γ' : Type} (A : Nat → Prop) (w0 : World) (L : σ → γ → List OA) (Lr : ρ → γ' → List OA) (Z : List OA) (br : Bool) (bid : Nat) (N' : Oth) (q : Stp σ ρ) : Post := fun _ e _ w => match e with
  | .normal => ∃ s', q = .go s' ∧ ∃ c, St A N' w0 w (L s' c) Z
  | .ret => ∃ r, q = .ret r ∧ ∃ c, St A N' w0 w (Lr r c) Z
  | .exit id => br = true ∧ id = bid ∧ ∃ s', q = .brk s' ∧ ∃ c, St A N' w0 w (L s' c) Z
  | _ => False
end
section
variable {P : Program} {n : Nat} {dm : List Nat} {Q : Post} {f : Fr} {w : World}
theorem wc_rangeSt {g : Operand} {p : Tmp} {assign body : Code} {k : FuncId} {fi ca : Array Value} {Inv : World → Prop} {α σ ρ γ γ' : Type} {enc : α → Value} {xs : List α} {bd : α → σ → Option (Stp σ ρ)} {o : σ ⊕ ρ} {s0 : σ} {A : Nat → Prop} {N : Oth} {w0 : World} {L : σ → γ → List OA} {Lr : ρ → γ' → List OA} {Z : List OA} (c0 : γ) (br : Bool) (bid : Nat)
    (hg : evF f g = .func (.func k) fi ca) (hk : Callable P k) (hs : Gives P k (fun y => fi.toList ++ [y] ++ ca.toList) Inv (xs.map fun x => [enc x])) (hp : p < n)
    (hInv : ∀ N' s c W, St A N' w0 W (L s c) Z → Inv W) (S : St A N w0 w (L s0 c0) Z) (e : forE bd xs s0 = some o)
    (hr : ∀ x s c q N' rd u, bd x s = some q → St A N' w0 u (L s c) Z → wc P rd n [] assign (thenP (fun dm' f1 w1 => dm' = [] ∧ St A N' w0 w1 (L s c) Z ∧ ∀ N' w2, St A N' w0 w2 (L s c) Z → wc P rd n [] body (bodyQ A w0 L Lr Z br bid N' q) f1 w2) (fun _ _ _ _ => False)) (upd f p (enc x)) u)
    (hdone : ∀ s c B W, o = .inl s → St A (N.done B) w0 W (L s c) Z → (w0.heap.size ≤ B ∧ ¬ N B ∧ ¬ N (B + 1)) → Q (B :: dm) .normal f W)
    (hret : ∀ r c B W, o = .inr r → St A (N.done B) w0 W (Lr r c) Z → (w0.heap.size ≤ B ∧ ¬ N B ∧ ¬ N (B + 1)) → Q (B :: dm) .ret f W)
    (hbrk : br = true → ∀ s c B W, o = .inl s → St A (N.done B) w0 W (L s c) Z → (w0.heap.size ≤ B ∧ ¬ N B ∧ ¬ N (B + 1)) → Q (B :: dm) (.exit bid) f W) :
    wc P none n dm (.rangeFunc g #[p] assign body) Q f w := by
  have hB0 : ∀ B, w.heap.size = B → w0.heap.size ≤ B ∧ ¬ N B ∧ ¬ N (B + 1) := fun B hB => ⟨hB ▸ S.size, fun q => absurd (S.othlt _ q) (by omega), fun q => absurd (S.othlt _ q) (by omega)⟩
  generalize hB : w.heap.size = B at *
  have hBB := hB0 B rfl
  -- what holds between rounds
  let NB : Oth := N.or (fun i => i = B ∨ i = B + 1)
  have drop2 : ∀ {o1 o2 : Obj} {W : World} {LL : List OA}, St A (N.loop B o1 o2) w0 W LL Z → St A NB w0 W LL Z := fun h => h.less (fun i hi => hi) (fun d hd => h.wats d (List.mem_cons_of_mem _ (List.mem_cons_of_mem _ hd)))
  have watch : ∀ {W W' : World} {LL : List OA} {o1 o2 : Obj}, St A NB w0 W LL Z → Chg (· = B + 1) W W' → Ob W' B o1 → Ob W' (B + 1) o2 → St A (N.loop B o1 o2) w0 W' LL Z := by
    intro W W' LL o1 o2 h hc h1 h2
    refine h.others hc (fun i hi => ⟨by rw [hi]; exact .inr (.inr rfl), by rw [hi]; omega⟩) (fun i hi => hi) fun d hd => ?_
    rcases List.mem_cons.1 hd with rfl | hd
    · exact h1
    rcases List.mem_cons.1 hd with rfl | hd
    · exact h2
    · exact (h.wats d hd).chg hc (fun (q : d.1 = B + 1) => hBB.2.2 (q ▸ N.ok d hd))
  have turn : ∀ {W W' : World} {LL : List OA}, St A NB w0 W LL Z → Chg (· = B + 1) W W' → St A NB w0 W' LL Z := by
    intro W W' LL h hc
    refine h.others hc (fun i hi => ⟨by rw [hi]; exact .inr (.inr rfl), by rw [hi]; omega⟩) (fun i hi => hi) fun d hd => ?_
    exact (h.wats d hd).chg hc (fun (q : d.1 = B + 1) => hBB.2.2 (q ▸ N.ok d hd))
  have over : ∀ {W : World} {LL : List OA}, St A NB w0 W LL Z → Ob W B (.deferred (some [])) → St A (N.done B) w0 W LL Z := by
    intro W LL h h1
    refine h.less (fun i hi => hi) fun d hd => ?_
    rcases List.mem_cons.1 hd with rfl | hd
    · exact h1
    · exact h.wats d hd
  refine wc_range (ps := [p]) B hB hg hk hs (by simpa using hp) (by simp)
    (fun i W => ∃ s, forE bd (xs.drop i) s = some o ∧ ∃ c, St A NB w0 W (L s c) Z)
    (fun c W => match c with | .ret => ∃ r, o = .inr r ∧ ∃ c, St A NB w0 W (Lr r c) Z | .exit id => br = true ∧ id = bid ∧ ∃ s, o = .inl s ∧ ∃ c, St A NB w0 W (L s c) Z | _ => False)
    (fun i W ⟨s, _, c, h⟩ => hInv _ _ _ _ h) (fun i W W' ⟨s, h1, c, h2⟩ hc => ⟨s, h1, c, turn h2 hc⟩) ?_ ?_ ?_ ?_ ?_
  · intro c W W' h hc
    cases c with
    | ret => obtain ⟨r, h1, c, h2⟩ := h; exact ⟨r, h1, c, turn h2 hc⟩
    | exit id => obtain ⟨hb, h0, s, h1, c, h2⟩ := h; exact ⟨hb, h0, s, h1, c, turn h2 hc⟩
    | _ => exact h
  · intro w' hx hlt
    refine ⟨s0, by simpa using e, c0, ?_⟩
    exact S.more hx (fun i hi => by rcases hi with rfl | rfl <;> constructor <;> omega)
  · rintro i x W o1 o2 hxi ⟨s, he, c, h⟩ h1 h2
    rw [List.getElem?_map] at hxi
    cases hq : xs[i]? with
    | none => rw [hq] at hxi; cases hxi
    | some x0 =>
      rw [hq] at hxi
      obtain rfl := Option.some.inj hxi
      have hlt : i < xs.length := (List.getElem?_eq_some_iff.1 hq).1
      have hdr : xs.drop i = x0 :: xs.drop (i + 1) := by rw [List.drop_eq_getElem_cons hlt]; congr 1; exact (List.getElem?_eq_some_iff.1 hq).2
      rw [hdr] at he
      obtain ⟨q, hbd, hn⟩ := forE_s he
      refine wc_mono (hr x0 s c q _ _ W hbd (watch h (Chg.refl _ _) h1 h2)) ?_
      rintro dm' ex f1 w1 hp1
      cases ex with
      | normal =>
        obtain ⟨rfl, h3, h4⟩ := hp1
        refine ⟨rfl, h3.wats (B, o1) (by simp [Oth.loop]), h3.wats (B + 1, o2) (by simp [Oth.loop]), fun w2 o2' hc h5 h6 => ?_⟩
        refine wc_mono (h4 _ w2 (watch (drop2 h3) hc h5 h6)) ?_
        rintro dm2 ex f2 w3 hp2
        cases ex with
        | normal =>
          obtain ⟨s', rfl, c', h7⟩ := hp2
          exact ⟨h7.wats (B, o1) (by simp [Oth.loop]), h7.wats (B + 1, o2') (by simp [Oth.loop]), s', hn, c', drop2 h7⟩
        | ret =>
          obtain ⟨r, rfl, c', h7⟩ := hp2
          exact ⟨h7.wats (B, o1) (by simp [Oth.loop]), h7.wats (B + 1, o2') (by simp [Oth.loop]), r, hn, c', drop2 h7⟩
        | exit id =>
          obtain ⟨hbr, h0, s', rfl, c', h7⟩ := hp2
          exact ⟨h7.wats (B, o1) (by simp [Oth.loop]), h7.wats (B + 1, o2') (by simp [Oth.loop]), hbr, h0, s', hn, c', drop2 h7⟩
        | _ => exact hp2.elim
      | _ => exact hp1.elim
  · rintro W ⟨s, he, c, h⟩ h1
    rw [List.length_map, List.drop_length] at he
    exact hdone s c B W (forE_0 he) (over h h1) hBB
  · intro c W h h1
    cases c with
    | ret => obtain ⟨r, h2, c, h3⟩ := h; exact hret r c B W h2 (over h3 h1) hBB
    | exit id => obtain ⟨hb, rfl, s, h2, c, h3⟩ := h; exact hbrk hb s c B W h2 (over h3 h1) hBB
    | _ => trivial
def fin {σ τ ρ : Type} (k : σ → Option ρ) (k' : τ → Option ρ) : σ ⊕ τ → Option ρ
  | .inl s => k s
  | .inr r => k' r
end
end Gw
end Go.Proofs.YtjjkhjieegmphaaDoor
end
section
namespace Go.Proofs.YtjjkhjieegmphaaDoor
open Gw Go.RowKit
namespace Gw
section
variable {P : Program} {g : FuncId} {args : Array Value} {A : Nat → Prop} {N : Oth} {w : World} {L Z : List OA}
theorem calls_mono {R R' : Value → World → Prop} (h : Calls P g args w fun e w' => ∃ v, e = .returned v ∧ R v w') (hR : ∀ v w', R v w' → R' v w') : Calls P g args w fun e w' => ∃ v, e = .returned v ∧ R' v w' :=
  CallsIn.mono (F := fen none) (n := 0) (callsIn_wide.2 h) (by rintro e w' ⟨v, rfl, hv⟩; exact ⟨v, rfl, hR v w' hv⟩) |> callsIn_wide.1
theorem toSt {v0 : Value} (h : Calls P g args w fun e w' => ∃ v, e = .returned v ∧ (v = v0 ∧ Ext w w')) (S : St A N w w L Z) : Calls P g args w fun e w' => ∃ v, e = .returned v ∧ (v = v0 ∧ St A N w w' L []) :=
  calls_mono h fun _ _ h => ⟨h.1, (S.ext h.2).pickZ (by simp)⟩
end
end Gw
def Bits.okB (b : Bits) : Bool := b.toList.all fun x => decide (0 ≤ x) && decide (x < 18446744073709551616)
theorem Bits.okB_ok {b : Bits} (h : b.okB = true) : b.ok := by
  intro i
  unfold Bits.w
  rw [List.getD_eq_getElem?_getD]
  cases hq : b.toList[i]? with
  | none => simp
  | some x =>
    have := List.all_eq_true.1 h x (List.mem_of_getElem? hq)
    simpa using this
theorem Bits.ok_okB {b : Bits} (h : b.ok) : b.okB = true := by
  refine List.all_eq_true.2 fun x hx => ?_
  obtain ⟨i, hi⟩ := List.getElem?_of_mem hx
  have := h i
  unfold Bits.w at this
  rw [List.getD_eq_getElem?_getD, hi] at this
  simpa using this
def oTz : OA where
  holds := fun w F => Tz w ∧ ∀ i, F i ↔ i = 0
  loc := fun h hc hs => ⟨h.1.chg hc (hs _ ((h.2 _).2 rfl)), h.2⟩
  lt := fun h i hi => by rw [(h.2 i).1 hi]; exact h.1.lt
theorem Gw.St.tz {A : Nat → Prop} {N : Oth} {w0 w : World} {L Z : List OA} (h : St A N w0 w L Z) (k : Nat) (e : Z[k]? = some oTz := by rfl) : Tz w := (h.frz k e).elim fun _ q => q.1
section
variable {A : Nat → Prop} {N : Oth} {w : World}
def bits_Has.f (b : Bits) (n : Int) : Option Bool := chk b.okB (some (b.has n))
theorem bits_Has_st {b : Bits} {n : Int} (S : St A N w w [] []) {r : Bool} (H : bits_Has.f b n = some r) : Calls PP F_bits_Has #[.agg (Bits.C b).toArray, .int .i64 n] w fun e w' => ∃ v, e = .returned v ∧ (v = .bool r ∧ St A N w w' [] []) := by
  obtain ⟨hb, H⟩ := chk_ex H; cases H
  exact toSt (bits_Has_ok w b (Bits.okB_ok hb) n) S
def ref05_Has.f (b : Bits) (n : Int) : Option Bool := chk b.okB (some (b.has n))
def bits_Union.f (a b : Bits) : Option Bits := chk (a.okB && b.okB) (some (a.union b))
theorem bits_Union_st {a b : Bits} (S : St A N w w [] []) {r : Bits} (H : bits_Union.f a b = some r) : Calls PP F_bits_Union #[.agg (Bits.C a).toArray, .agg (Bits.C b).toArray] w fun e w' => ∃ v, e = .returned v ∧ (v = .agg (Bits.C r).toArray ∧ St A N w w' [] []) := by
  obtain ⟨hb, H⟩ := chk_ex H; cases H
  have := toSt (bits_Union_ok w a b) S
  rw [Bool.and_eq_true] at hb
  rwa [Bits.zip_union (Bits.okB_ok hb.1) (Bits.okB_ok hb.2)] at this
def bits_Drop.f (b : Bits) (n : Int) : Option Bits := chk b.okB (some (b.del n))
theorem bits_Drop_st {b : Bits} {n : Int} (S : St A N w w [] []) {r : Bits} (H : bits_Drop.f b n = some r) : Calls PP F_bits_Drop #[.agg (Bits.C b).toArray, .int .i64 n] w fun e w' => ∃ v, e = .returned v ∧ (v = .agg (Bits.C r).toArray ∧ St A N w w' [] []) := by
  obtain ⟨hb, H⟩ := chk_ex H; cases H
  exact toSt (bits_Drop_ok w b n (Bits.okB_ok hb)) S
def ref05_Drop.f (b : Bits) (n : Int) : Option Bits := chk b.okB (some (b.del n))
def ref05_With.f (b : Bits) (n : Int) : Option Bits := chk (b.okB && (decide (0 ≤ n) && decide (n < 1024))) (some (b.add n))
def ref05_Put.f (b : Bits) (n : Int) : Option (Bits × Int) := chk b.okB (some (b.putS n))
theorem ref05_Put_st {b : Bits} {n : Int} (S : St A N w w [] []) {r : Bits × Int} (H : ref05_Put.f b n = some r) : Calls PP F_ref05_Put #[.agg (Bits.C b).toArray, .int .i64 n] w fun e w' => ∃ v, e = .returned v ∧ (v = .tuple #[.agg (Bits.C r.1).toArray, .int .i64 r.2] ∧ St A N w w' [] []) := by
  obtain ⟨hb, H⟩ := chk_ex H; cases H
  exact toSt (ref05_Put_ok w b n (Bits.okB_ok hb)) S
def bits_Of.f (l : List Int) : Option (Bits × Int) := some (Bits.ofs l)
theorem bits_Of_st {l : List Int} {s : SlV} (S : St A N w w [] [fS 1 IC s l]) {r : Bits × Int} (H : bits_Of.f l = some r) : Calls PP F_bits_Of #[s.v] w fun e w' => ∃ v, e = .returned v ∧ (v = .tuple #[.agg (Bits.C r.1).toArray, .int .i64 r.2] ∧ St A N w w' [] []) := by
  cases H
  exact toSt (bits_Of_ok w s l (S.rd 0) (by have := S.len 0; omega)) S
def ref05_List.f (b : Bits) : Option (List Int) := chk b.okB (some (b.list.map fun (n : Nat) => (n : Int)))
theorem ref05_List_st {b : Bits} (S : St A N w w [] []) {r : List Int} (H : ref05_List.f b = some r) : Calls PP F_ref05_List #[.agg (Bits.C b).toArray] w fun e w' => ∃ v, e = .returned v ∧ (∃ s : SlV, v = s.v ∧ St A N w w' [oS T_int 1 IC s r] []) := by
  obtain ⟨hb, H⟩ := chk_ex H; obtain rfl := Option.some.inj H
  refine calls_mono (ref05_List_ok w b (Bits.okB_ok hb)) ?_
  rintro v w' ⟨s, rfl, O, hf, E⟩
  have hl : (b.list.map fun (n : Nat) => (n : Int)).length ≤ 140737488355328 := by
    have h := List.length_filter_le (fun n : Nat => b.has n) (List.range 1024)
    rw [List.length_range] at h
    have : b.list.length ≤ 1024 := h
    simp; omega
  exact ⟨s, rfl, S.add (b := oS T_int 1 IC s _) E ⟨⟨O, hl⟩, fun _ => Iff.rfl⟩ hf⟩
end
end Go.Proofs.YtjjkhjieegmphaaDoor
end
section
namespace Go.Proofs.YtjjkhjieegmphaaDoor
open Gw Go.RowKit
abbrev Tb := Option (List Nd)
def oT (a : Option Addr) (t : Tb) : OA where
  holds := fun w F => match t with
    | none => (a = none ∧ ∀ i, ¬ F i) ∨ ∃ p, a = some ⟨p, 0, none⟩ ∧ Blk w p T_Tab (Tab.C Tab.z) ∧ ∀ i, F i ↔ i = p
    | some N => ∃ p, a = some ⟨p, 0, none⟩ ∧ TabAt w p N F ∧ N.length ≤ 1024
  loc := fun {S w w' F} h hc hs => by
    cases t with
    | none =>
      rcases h with h | ⟨p, h1, h2, h3⟩
      · exact .inl h
      · exact .inr ⟨p, h1, h2.chg hc (hs p ((h3 p).2 rfl)), h3⟩
    | some N => obtain ⟨p, h1, h2, h3⟩ := h; exact ⟨p, h1, h2.keep hc hs, h3⟩
  lt := fun {w F} h i hi => by
    cases t with
    | none =>
      rcases h with h | ⟨p, h1, h2, h3⟩
      · exact absurd hi (h.2 i)
      · rw [(h3 i).1 hi]; exact h2.lt
    | some N => obtain ⟨p, h1, h2, h3⟩ := h; exact h2.lt i hi
theorem oT.nil (w : World) : (oT none none).holds w (fun _ => False) := .inl ⟨rfl, fun _ x => x⟩
theorem oT.dead {w : World} {a : Option Addr} {F : Nat → Prop} (h : (oT a none).holds w F) : Dead w a := by
  rcases h with h | ⟨p, h1, h2, _⟩
  · exact .inl h.1
  · exact .inr ⟨p, h1, h2⟩
def oR (a : Option Addr) (t : Tb) : OA where
  holds := fun w F => match t with
    | none => a = none ∧ ∀ i, ¬ F i
    | some N => ∃ p s, a = some ⟨p, 0, none⟩ ∧ Blk w p T_RTab (RTab.C ⟨s⟩) ∧ Own w 0 T_Nd 4 s (N.map Nd.C) ∧ N.length ≤ 140737488355328 ∧ ¬ s.fp p ∧ ∀ i, F i ↔ (i = p ∨ s.fp i)
  loc := fun {S w w' F} h hc hs => by
    cases t with
    | none => exact h
    | some N =>
      obtain ⟨p, s, h1, h2, h3, h4, h5, h6⟩ := h
      exact ⟨p, s, h1, h2.chg hc (hs p ((h6 p).2 (.inl rfl))), h3.keep hc (fun i hi => hs i ((h6 i).2 (.inr hi))), h4, h5, h6⟩
  lt := fun {w F} h i hi => by
    cases t with
    | none => exact absurd hi (h.2 i)
    | some N =>
      obtain ⟨p, s, h1, h2, h3, h4, h5, h6⟩ := h
      rcases (h6 i).1 hi with rfl | hi
      · exact h2.lt
      · exact h3.lt i hi
theorem oR.nil (w : World) : (oR none none).holds w (fun _ => False) := ⟨rfl, fun _ x => x⟩
section
variable {A : Nat → Prop} {N : Oth} {w0 w w' : World} {L Z : List OA}
theorem Gw.St.openR (h : St A N w0 w L Z) (k : Nat) {a : Option Addr} {t : Tb} {L' : List OA} (ht : t.isSome = true) (e : L[k]? = some (oR a t) := by rfl) (e' : L.eraseIdx k = L' := by rfl) : ∃ p s, a = some ⟨p, 0, none⟩ ∧ St A N w0 w (oB p T_RTab (RTab.C ⟨s⟩) :: oS T_Nd 4 Nd.C s (t.getD []) :: L') Z := by
  subst e'
  obtain ⟨M, rfl⟩ := Option.isSome_iff_exists.1 ht
  obtain ⟨U, hU, hN, hA, hL, hZ, hW⟩ := h
  obtain ⟨F, ⟨p, s, h1, h2, h3, h4, h5, h6⟩, hF, hR⟩ := hL.front k e
  refine ⟨p, s, h1, U, hU, hN, hA, ⟨fun i => i = p, ⟨h2, fun _ => Iff.rfl⟩, fun i hi => hF i ((h6 i).2 (.inl hi)), s.fp, ⟨⟨h3, h4⟩, fun _ => Iff.rfl⟩, fun i hi => ⟨hF i ((h6 i).2 (.inr hi)), fun q => h5 (q ▸ hi)⟩, ?_⟩, hZ, hW⟩
  exact hR.mono fun i hi => ⟨⟨hi.1, fun q => hi.2 ((h6 i).2 (.inl q))⟩, fun q => hi.2 ((h6 i).2 (.inr q))⟩
theorem Gw.St.shutR {p : Nat} {s : SlV} {M : List Nd} (h : St A N w0 w (oB p T_RTab (RTab.C ⟨s⟩) :: oS T_Nd 4 Nd.C s M :: L) Z) {a : Option Addr} (ha : a = some ⟨p, 0, none⟩) : St A N w0 w (oR a (some M) :: L) Z := by
  obtain ⟨U, hU, hN, hA, ⟨F, h1, hF, G, h2, hG, hR⟩, hZ, hW⟩ := h
  refine ⟨U, hU, hN, hA, ⟨fun i => F i ∨ G i, ⟨p, s, ha, h1.1, h2.1.1, h2.1.2, fun q => (hG p ((h2.2 p).2 q)).2 ((h1.2 p).2 rfl), fun i => or_congr (h1.2 i) (h2.2 i)⟩, fun i hi => hi.elim (hF i) (fun q => (hG i q).1), ?_⟩, hZ, hW⟩
  exact hR.mono fun i hi => ⟨hi.1.1, fun q => q.elim hi.1.2 hi.2⟩
theorem Gw.St.seeR (h : St A N w0 w L Z) (k : Nat) {a : Option Addr} {t : Tb} (ht : t.isSome = true) (e : Z[k]? = some (oR a t) := by rfl) : ∃ p s, a = some ⟨p, 0, none⟩ ∧ St A N w0 w L (oB p T_RTab (RTab.C ⟨s⟩) :: fS 4 Nd.C s (t.getD []) :: Z) := by
  obtain ⟨M, rfl⟩ := Option.isSome_iff_exists.1 ht
  obtain ⟨F, p, s, h1, _⟩ := h.frz k e
  have key : ∀ F, (oR a (some M)).holds w F → ∃ p' s', a = some ⟨p', 0, none⟩ ∧ Blk w p' T_RTab (RTab.C ⟨s'⟩) ∧ Own w 0 T_Nd 4 s' (M.map Nd.C) ∧ M.length ≤ 140737488355328 ∧ F p' ∧ ∀ i, s'.fp i → F i := by
    rintro F ⟨p, s, h1, h2, h3, h4, h5, h6⟩
    exact ⟨p, s, h1, h2, h3, h4, (h6 p).2 (.inl rfl), fun i hi => (h6 i).2 (.inr hi)⟩
  obtain ⟨U, hU, hN, hA, hL, hZ, hW⟩ := h
  obtain ⟨F, hF, hFU⟩ := hZ _ (List.mem_of_getElem? e)
  obtain ⟨p', s', e1, e2, e3, e4, e5, e6⟩ := key F hF
  refine ⟨p', s', e1, U, hU, hN, hA, hL, fun z hz => ?_, hW⟩
  rcases List.mem_cons.1 hz with rfl | hz
  · exact ⟨fun i => i = p', ⟨e2, fun _ => Iff.rfl⟩, fun i hi => by rw [hi]; exact hFU p' e5⟩
  rcases List.mem_cons.1 hz with rfl | hz
  · exact ⟨s'.fp, ⟨⟨e3.toRd, e4⟩, fun _ => Iff.rfl⟩, fun i hi => hFU i (e6 i hi)⟩
  · exact hZ z hz
theorem oR.len {a : Option Addr} {t : Tb} {w : World} {F : Nat → Prop} (h : (oR a t).holds w F) : (t.getD []).length ≤ 140737488355328 := by
  cases t with
  | none => simp
  | some M => obtain ⟨p, s, _, _, _, h4, _⟩ := h; exact h4
theorem Gw.St.lenRZ (h : St A N w0 w L Z) (k : Nat) {a : Option Addr} {t : Tb} (e : Z[k]? = some (oR a t) := by rfl) : (t.getD []).length ≤ 140737488355328 := (h.frz k e).elim fun _ h => oR.len h
end
section
variable {A : Nat → Prop} {N : Oth} {w : World}
def formula_Table_Node.f (t : Tb) (i : Int) : Option (Nd × Bool) := t.map fun N => nodeS N i
theorem formula_Table_Node_st {a : Option Addr} {t : Tb} {i : Int} (S : St A N w w [] [oT a t]) {r : Nd × Bool} (H : formula_Table_Node.f t i = some r) : Calls PP F_formula_Table_Node #[.pointer a, .int .i64 i] w fun e w' => ∃ v, e = .returned v ∧ (v = .tuple #[.agg (Nd.C r.1).toArray, .bool r.2] ∧ St A N w w' [] []) := by
  cases t with
  | none => cases H
  | some M =>
    cases H
    obtain ⟨F, p, rfl, T, hN⟩ := S.frz 0 rfl
    exact toSt (formula_Table_Node_ok w i T) S
def formula_Table_Len.f (t : Tb) : Option Int := t.map fun N => (N.length : Int)
theorem formula_Table_Len_st {a : Option Addr} {t : Tb} (S : St A N w w [] [oT a t]) {r : Int} (H : formula_Table_Len.f t = some r) : Calls PP F_formula_Table_Len #[.pointer a] w fun e w' => ∃ v, e = .returned v ∧ (v = .int .i64 r ∧ St A N w w' [] []) := by
  cases t with
  | none => cases H
  | some M =>
    cases H
    obtain ⟨F, p, rfl, T, hN⟩ := S.frz 0 rfl
    exact toSt (formula_Table_Len_ok w T) S
theorem mutT {P : Program} {g : FuncId} {args : Array Value} {p : Nat} {M M' : List Nd} {v0 : Value} (S : St A N w w [oT (some ⟨p, 0, none⟩) (some M)] []) (hM : M'.length ≤ 1024)
    (h : ∀ F, TabAt w p M F → M.length ≤ 1024 → Calls P g args w fun e w' => ∃ v, e = .returned v ∧ (∃ A', v = v0 ∧ TabAt w' p M' A' ∧ Chg F w w' ∧ (∀ i, A' i → F i ∨ w.heap.size ≤ i))) :
    Calls P g args w fun e w' => ∃ v, e = .returned v ∧ (v = v0 ∧ St A N w w' [oT (some ⟨p, 0, none⟩) (some M')] []) := by
  obtain ⟨U, hU, hN, hA, ⟨F, hF, hFU, _⟩, hZ, hW⟩ := S
  obtain ⟨p', hp, T, hl⟩ := hF
  cases hp
  refine calls_mono (h F T hl) ?_
  rintro v w' ⟨A', rfl, T', hc, hg⟩
  refine ⟨rfl, fun i => F i ∨ A' i, fun i hi => ⟨?_, ?_, ?_⟩, fun i hi => Nat.lt_of_lt_of_le (hN i hi) hc.size, hc.mono fun i hi hf => ((hU i (hFU i hf)).1).elim id (fun q => absurd hi (by omega)), ⟨A', ⟨p, rfl, T', hM⟩, fun i hi => .inr hi, trivial⟩, fun z hz => by simp at hz, hW.chg hc (fun i hi => (hU i (hFU i hi)).2.2)⟩
  · rcases hi with hi | hi
    · exact (hU i (hFU i hi)).1
    · exact (hg i hi).elim (fun q => (hU i (hFU i q)).1) .inr
  · rcases hi with hi | hi
    · exact Nat.lt_of_lt_of_le (hU i (hFU i hi)).2.1 hc.size
    · exact T'.lt i hi
  · rcases hi with hi | hi
    · exact (hU i (hFU i hi)).2.2
    · exact (hg i hi).elim (fun q => (hU i (hFU i q)).2.2) (fun q hn => absurd (hN i hn) (by omega))
def formula_Table_Not_neg.f (t : Tb) (_ : Int) : Option (Int × Int) := some (match t with | none => (0, 1) | some _ => (0, 31))
theorem formula_Table_Not_neg_st {a : Option Addr} {t : Tb} {i : Int} (S : St A N w w [] [oT a t]) (hi : i = -1) {r : Int × Int} (H : formula_Table_Not_neg.f t i = some r) : Calls PP F_formula_Table_Not #[.pointer a, .int .i64 i] w fun e w' => ∃ v, e = .returned v ∧ (v = .tuple #[.int .i64 r.1, .int .i64 r.2] ∧ St A N w w' [] []) := by
  subst hi
  cases t with
  | none =>
    cases H
    obtain ⟨F, hF⟩ := S.frz 0 rfl
    exact toSt (formula_Table_Not_dead w _ (oT.dead hF)) S
  | some M =>
    cases H
    obtain ⟨F, p, rfl, T, hN⟩ := S.frz 0 rfl
    exact toSt (formula_Table_Not_neg_ok w T) S
def formula_Table_Imp.f (t : Tb) (a b : Int) : Option (Tb × Int × Int) := t.map fun N => (some (putS N (impN a b)).1, (putS N (impN a b)).2)
theorem formula_Table_Imp_st {p : Option Addr} {t : Tb} {a b : Int} (S : St A N w w [oT p t] []) {r : Tb × Int × Int} (H : formula_Table_Imp.f t a b = some r) : Calls PP F_formula_Table_Imp #[.pointer p, .int .i64 a, .int .i64 b] w fun e w' => ∃ v, e = .returned v ∧ (v = .tuple #[.int .i64 r.2.1, .int .i64 r.2.2] ∧ St A N w w' [oT p r.1] []) := by
  cases t with
  | none => cases H
  | some M =>
    cases H
    obtain ⟨F, p, rfl, T, hN⟩ := S.own 0 rfl
    exact mutT S (put_len hN) fun F T hl => formula_Table_Imp_ok w a b T hl
def formula_Table_Put.f (t : Tb) (n : Nd) : Option (Tb × Int × Int) := chk (decide (n.name.size < 9223372036854775808)) (t.map fun N => (some (putS N n).1, (putS N n).2))
theorem formula_Table_Put_st {p : Option Addr} {t : Tb} {n : Nd} (S : St A N w w [oT p t] []) {r : Tb × Int × Int} (H : formula_Table_Put.f t n = some r) : Calls PP F_formula_Table_Put #[.pointer p, .agg (Nd.C n).toArray] w fun e w' => ∃ v, e = .returned v ∧ (v = .tuple #[.int .i64 r.2.1, .int .i64 r.2.2] ∧ St A N w w' [oT p r.1] []) := by
  obtain ⟨hs, H⟩ := chk_ex H
  cases t with
  | none => cases H
  | some M =>
    cases H
    obtain ⟨F, p, rfl, T, hN⟩ := S.own 0 rfl
    exact mutT S (put_len hN) fun F T hl => formula_Table_Put_ok w n T (of_decide_eq_true hs) hl
def ref03_Word.f (s : ByteArray) : Option Bool := chk (decide (s.size < 9223372036854775808)) (some (decide (isWord s)))
theorem ref03_Word_st {s : ByteArray} (S : St A N w w [] []) {r : Bool} (H : ref03_Word.f s = some r) : Calls PP F_ref03_Word #[.string s] w fun e w' => ∃ v, e = .returned v ∧ (v = .bool r ∧ St A N w w' [] []) := by
  obtain ⟨hs, H⟩ := chk_ex H
  cases H
  exact toSt (ref03_Word_ok w s (of_decide_eq_true hs)) S
end
end Go.Proofs.YtjjkhjieegmphaaDoor
end
section
namespace Go.Proofs.YtjjkhjieegmphaaDoor
open Gw Go.RowKit
section
variable {A : Nat → Prop} {N : Oth} {w0 w w' : World} {L Z : List OA}
theorem Gw.Sep.fam {w : World} : ∀ {L : List OA} {U : Nat → Prop}, Sep w U L → ∃ F : Nat → Nat → Prop, (∀ k a, L[k]? = some a → a.holds w (F k) ∧ ∀ i, F k i → U i) ∧ ∀ j k i, j ≠ k → j < L.length → k < L.length → F j i → ¬ F k i
  | [], _, _ => ⟨fun _ _ => False, by simp, by simp⟩
  | a :: L, U, ⟨G, h, hG, hL⟩ => by
    obtain ⟨F, h1, h2⟩ := Sep.fam hL
    refine ⟨fun k => match k with | 0 => G | k + 1 => F k, fun k b hb => ?_, fun j k i hjk hj hk => ?_⟩
    · cases k with
      | zero => simp at hb; subst hb; exact ⟨h, hG⟩
      | succ k => have := h1 k b (by simpa using hb); exact ⟨this.1, fun i hi => (this.2 i hi).1⟩
    · have hin : ∀ k, k < L.length → ∀ i, F k i → ¬ G i := fun k hk i hi => ((h1 k _ (List.getElem?_eq_getElem hk)).2 i hi).2
      cases j with
      | zero =>
        cases k with
        | zero => exact absurd rfl hjk
        | succ k => exact fun hi q => hin k (by simpa using hk) i q hi
      | succ j =>
        cases k with
        | zero => exact fun hi q => hin j (by simpa using hj) i hi q
        | succ k => exact h2 j k i (by omega) (by simpa using hj) (by simpa using hk)
theorem Gw.Sep.of_fam {w : World} {L : List OA} {U : Nat → Prop} {F : Nat → Nat → Prop} (h1 : ∀ k a, L[k]? = some a → a.holds w (F k) ∧ ∀ i, F k i → U i) (h2 : ∀ j k i, j ≠ k → j < L.length → k < L.length → F j i → ¬ F k i) :
    ∀ (ks : List Nat) (V : Nat → Prop), ks.Nodup → (∀ k ∈ ks, k < L.length → ∀ i, F k i → V i) → Sep w V (sel L ks)
  | [], _, _, _ => trivial
  | k :: ks, V, hn, hV => by
    have hn' := List.nodup_cons.1 hn
    cases hk : L[k]? with
    | none =>
      rw [show sel L (k :: ks) = sel L ks by simp [sel, hk]]
      exact Sep.of_fam h1 h2 ks V hn'.2 fun k' hk' => hV k' (by simp [hk'])
    | some a =>
      have hkl := (List.getElem?_eq_some_iff.1 hk).1
      rw [show sel L (k :: ks) = a :: sel L ks by simp [sel, hk]]
      refine ⟨F k, (h1 k a hk).1, hV k (by simp) hkl, Sep.of_fam h1 h2 ks _ hn'.2 fun k' hk' hl i hi => ⟨hV k' (by simp [hk']) hl i hi, ?_⟩⟩
      exact h2 k' k i (fun e => hn'.1 (e ▸ hk')) hl hkl hi
theorem Gw.St.arr (h : St A N w0 w L Z) (ks zs : List Nat) {L' Z' : List OA} (hk : ks.Nodup := by decide) (e : sel L ks = L' := by rfl) (ez : sel Z zs = Z' := by rfl) : St A N w0 w L' Z' := by
  subst e
  refine St.zs ?_ zs ez
  obtain ⟨U, hU, hN, hA, hL, hZ, hW⟩ := h
  obtain ⟨F, h1, h2⟩ := hL.fam
  exact ⟨U, hU, hN, hA, Sep.of_fam h1 h2 ks U hk fun k _ hl i hi => (h1 k _ (List.getElem?_eq_getElem hl)).2 i hi, hZ, hW⟩
theorem Gw.St.calln (h : St A N w0 w L Z) (n : Nat) {Zc : List OA} (hl : Lend (L.drop n) Z Zc) : ∃ B M, St B M w w (L.take n) Zc ∧ ∀ w' P' Z' L', St B M w w' P' Z' → P' ++ L.drop n = L' → St A N w0 w' L' Z :=
  h.call (L.take n) (L.drop n) hl (List.take_append_drop n L).symm
abbrev zipT (M : List Nd) : List (Nd × Int) := M.zipIdx.map fun q => (q.1, (q.2 : Int))
theorem Gw.St.openT {a : Option Addr} {M : List Nd} (h : St A N w0 w (oT a (some M) :: L) Z) : ∃ p s m, a = some ⟨p, 0, none⟩ ∧ M.length ≤ 1024 ∧ St A N w0 w (oB p T_Tab (Tab.C ⟨s, some m⟩) :: oM m ndV (Value.int .i64) (zipT M) :: oS T_Nd 4 Nd.C s M :: L) Z := by
  obtain ⟨U, hU, hN, hA, ⟨F, ⟨p, h1, ⟨s, m, b, o, mm, h2, h3, h4, hF⟩, hl⟩, hFU, hR⟩, hZ, hW⟩ := h
  refine ⟨p, s, m, h1, hl, U, hU, hN, hA, ⟨fun i => i = p, ⟨b, fun _ => Iff.rfl⟩, fun i hi => hFU i ((hF i).2 (.inl hi)), fun i => i = m, ⟨mm, fun _ => Iff.rfl⟩, fun i hi => ⟨hFU i ((hF i).2 (.inr (.inl hi))), fun q => h2 (q.symm.trans hi)⟩, s.fp, ⟨⟨o, by omega⟩, fun _ => Iff.rfl⟩, fun i hi => ⟨⟨hFU i ((hF i).2 (.inr (.inr hi))), fun q => h3 (q ▸ hi)⟩, fun q => h4 (q ▸ hi)⟩, ?_⟩, hZ, hW⟩
  exact hR.mono fun i hi => ⟨⟨⟨hi.1, fun q => hi.2 ((hF i).2 (.inl q))⟩, fun q => hi.2 ((hF i).2 (.inr (.inl q)))⟩, fun q => hi.2 ((hF i).2 (.inr (.inr q)))⟩
theorem Gw.St.shutT {p m : Nat} {s : SlV} {M : List Nd} (h : St A N w0 w (oB p T_Tab (Tab.C ⟨s, some m⟩) :: oM m ndV (Value.int .i64) (zipT M) :: oS T_Nd 4 Nd.C s M :: L) Z) (hl : M.length ≤ 1024) {a : Option Addr} (ha : a = some ⟨p, 0, none⟩) : St A N w0 w (oT a (some M) :: L) Z := by
  obtain ⟨U, hU, hN, hA, ⟨F, h1, hF, G, h2, hG, K, h3, hK, hR⟩, hZ, hW⟩ := h
  have p1 : F p := (h1.2 p).2 rfl
  have p2 : G m := (h2.2 m).2 rfl
  refine ⟨U, hU, hN, hA, ⟨fun i => i = p ∨ i = m ∨ s.fp i, ⟨p, ha, ⟨s, m, h1.1, h3.1.1, h2.1, fun q => (hG m p2).2 (q ▸ p1), fun q => (hK p ((h3.2 p).2 q)).1.2 p1, fun q => (hK m ((h3.2 m).2 q)).2 p2, fun i => Iff.rfl⟩, hl⟩, ?_, ?_⟩, hZ, hW⟩
  · rintro i (rfl | rfl | hi)
    · exact hF _ p1
    · exact (hG _ p2).1
    · exact (hK _ ((h3.2 i).2 hi)).1.1
  · refine hR.mono fun i hi => ⟨hi.1.1.1, ?_⟩
    rintro (rfl | rfl | q)
    · exact hi.1.1.2 p1
    · exact hi.1.2 p2
    · exact hi.2 ((h3.2 i).2 q)
end
section
variable {P : Program} {rd : Option Nat} {n : Nat} {dm : List Nat} {ops : Array Oper} {Q : Post} {f : Fr} {w w' : World} {rest : List Oper} {ty : TypeId} {pos : String} {af : Array Edge} {d : Option Tmp} {gd : Option (Nat × Bool)}
theorem Gw.wd {d : Tmp} {op : Op} {v : Value} (hr : Does P ⟨some d, op, ty, pos, af, none⟩ f w v w') (h : wl P rd n dm ops rest Q (upd f d v) w') (hd : d < n := by decide) : wl P rd n dm ops (⟨some d, op, ty, pos, af, none⟩ :: rest) Q f w := wl_does hr hd h
theorem wl_val0 {op : Op} {v : Value} (hr : Does P ⟨none, op, ty, pos, af, none⟩ f w v w') (h : wl P rd n dm ops rest Q f w') : wl P rd n dm ops (⟨none, op, ty, pos, af, none⟩ :: rest) Q f w := fun a ha => by
  refine wpListIn_plain rfl fun K hK => ?_
  exact op_wp ha hr (by simp) (hK _ _ (h _ ha))
theorem wl_gon2 {op : Op} {j : Nat} {pol c t : Bool} {oj : Oper} {dj : Tmp} (hj : ops[j]? = some oj) (hdj : oj.dst = some dj) (ht : f dj = gv c (.bool t)) (hdn : dj < n) (hg : (c && (t == pol)) = true)
    (h : wl P rd n dm ops (⟨d, op, ty, pos, af, none⟩ :: rest) Q f w) : wl P rd n dm ops (⟨d, op, ty, pos, af, some (j, pol)⟩ :: rest) Q f w := fun a ha => by
  have h1 := h a ha
  simp only [wpListIn] at h1 ⊢
  rw [wanted_gv ha rfl hj hdj ht hdn, hg]
  exact h1
theorem wl_gon {op : Op} {j : Nat} {pol t : Bool} {oj : Oper} {dj : Tmp} (hj : ops[j]? = some oj) (hdj : oj.dst = some dj) (ht : f dj = .bool t) (hdn : dj < n) (hg : (t == pol) = true)
    (h : wl P rd n dm ops (⟨d, op, ty, pos, af, none⟩ :: rest) Q f w) : wl P rd n dm ops (⟨d, op, ty, pos, af, some (j, pol)⟩ :: rest) Q f w :=
  wl_gon2 (c := true) hj hdj (by rw [ht]; exact gv_t _) hdn hg h
theorem map_er {α β : Type} (g : α → β) : ∀ (l : List α) (i : Nat), (l.eraseIdx i).map g = (l.map g).eraseIdx i
  | [], _ => rfl
  | _ :: _, 0 => rfl
  | a :: l, i + 1 => by simp [map_er g l i]
theorem wl_delete0 {α β : Type} {C : α → Value} {D : β → Value} {l : List (α × β)} {m : Nat} [DecidableEq α] {t kt et at_ : Nat} {x y : Operand} {key : α} (ht : P.underlying t = some (.map kt et)) (K : KeyT P kt C) (hx : evF f x = .map (some m)) (hy : evF f y = C key) (hm : MapB w m C D l)
    (h : ∀ w', MapB w' m C D (del key l) → Chg (· = m) w w' → w'.heap.size = w.heap.size → wl P rd n dm ops rest Q f w') : wl P rd n dm ops (⟨none, .call ⟨.builtin .delete, #[x, y], #[t, at_]⟩, ty, pos, af, none⟩ :: rest) Q f w := by
  obtain ⟨es, c, hb, he⟩ := hm
  have hf := run_findKey K key es.toList l he w
  rw [del_spot] at h
  cases hs : spot key l with
  | none =>
    rw [hs] at h hf
    obtain ⟨s1, s2, s3⟩ := map_step (w := w) (m := m) (C := C) (D := D) (es := es) (c := c) (l := l) hb he
    refine wl_val0 (v := .tuple #[]) ?_ (h _ s1 s2 s3)
    simp [Does, execOp, resolve, invoke, builtin, hx, hy, Builtin.delete_, run_underlying ht, MapKept.run_getObj_map hb, K.check, hf, run_setObj_map' _ hb]
  | some i =>
    obtain ⟨v0, hv⟩ := spot_key key l i hs
    rw [hs] at h hf
    have hmod : (es.eraseIdxIfInBounds i).toList.map (fun e => (e.key, e.val)) = (l.eraseIdx i).map fun q => (C q.1, D q.2) := by
      rw [Array.toList_eraseIdxIfInBounds, map_er, he, ← map_er]
    obtain ⟨s1, s2, s3⟩ := map_step (w := w) (m := m) (C := C) (D := D) (c := c) hb hmod
    refine wl_val0 (v := .tuple #[]) ?_ (h _ s1 s2 s3)
    simp [Does, execOp, resolve, invoke, builtin, hx, hy, Builtin.delete_, run_underlying ht, MapKept.run_getObj_map hb, K.check, hf, hv, run_setObj_map' _ hb]
theorem does_makeMap {t : TypeId} : Does P ⟨d, .makeMap t none, ty, pos, af, gd⟩ f w (.map (some w.heap.size)) (w.alloc (.map #[] 0)) := by
  simp [Does, execOp, run_makeMap]
end
section
variable {A : Nat → Prop} {N : Oth} {w : World}
def formula_New.f : Option Tb := some (some [])
theorem formula_New_st (S : St A N w w [] []) {r : Tb} (H : formula_New.f = some r) : Calls PP F_formula_New #[] w fun e w' => ∃ v, e = .returned v ∧ ∃ a : Option Addr, (v = .pointer a ∧ St A N w w' [oT a r] []) := by
  obtain rfl := Option.some.inj H
  refine calls_of_wc (n := 4) fn_formula_New rfl rfl (by simp) ?_
  repeat (first | refine wc_seq ?_ | refine wc_region ?_ | refine wc_block ?_)
  refine wl_does (does_as_p rfl) (by decide) ?_
  refine wl_nil ?_
  repeat (first | refine wc_seq ?_ | refine wc_region ?_ | refine wc_block ?_)
  refine wl_does does_makeMap (by decide) ?_
  replace S := S.nil T_Nd 4 Nd.C
  replace S : St A N w (w.alloc (.map #[] 0)) [oM w.heap.size ndV (Value.int .i64) (zipT []), oS T_Nd 4 Nd.C SlV.nil []] [] :=
    S.add (b := oM w.heap.size ndV (Value.int .i64) (zipT [])) (G := (· = w.heap.size)) (Ext.alloc _ _) ⟨⟨#[], 0, heap_alloc_new w _, rfl⟩, fun _ => Iff.rfl⟩ (fun i hi => by rw [hi]; exact Nat.le_refl _)
  refine wl_does (does_build bu_Tab (Bld.one rfl rfl (by rw [Tab.len]; decide) (Tab.set_at_ _ _) Bld.nil)) (by decide) ?_
  refine wl_box_agg rfl (by decide) fun b w2 hw2 => ?_
  replace S := S.new hw2
  refine wl_does (does_as_p rfl) (by decide) ?_
  refine wl_nil ?_
  refine wc_ret ?_
  exact ⟨_, (rets1 (retOne_tmp rfl)), _, rfl, S.shutT (by simp) rfl⟩
end
section
variable {A : Nat → Prop} {N : Oth} {w0 w w' : World} {L Z : List OA}
end
section
variable {A : Nat → Prop} {N : Oth} {w : World}
theorem del_mid {x : Nd} {v : Int} : ∀ {l r : List (Nd × Int)}, (∀ q ∈ l, q.1 ≠ x) → del x (l ++ (x, v) :: r) = l ++ r
  | [], r, _ => by unfold del; simp
  | (k, y) :: l, r, h => by
    have h1 : ¬ x = k := fun e => h (k, y) (by simp) e.symm
    rw [List.cons_append]; unfold del; rw [if_neg h1, del_mid (fun q hq => h q (by simp [hq]))]; rfl
def cutT (M : List Nd) (k i : Nat) : List (Nd × Int) := zipT (M.take k) ++ (((M.drop k).zipIdx k).map fun q => (q.1, (q.2 : Int))).drop i
theorem cutT_0 {M : List Nd} {k : Nat} (h : k ≤ M.length) : zipT M = cutT M k 0 := by
  unfold cutT zipT
  conv => lhs; rw [← List.take_append_drop k M, List.zipIdx_append]
  rw [List.map_append, List.drop_zero]; simp [Nat.min_eq_left h]
theorem cutT_end {M : List Nd} {k : Nat} : cutT M k (M.drop k).length = zipT (M.take k) := by
  unfold cutT
  rw [List.drop_eq_nil_of_le (by simp)]; simp
theorem cutT_step {M : List Nd} {k i : Nat} (nd : M.Nodup) {x : Nd} (hx : (M.drop k)[i]? = some x) : del x (cutT M k i) = cutT M k (i + 1) := by
  unfold cutT
  have hi : i < (M.drop k).length := (List.getElem?_eq_some_iff.1 hx).1
  have hx' := (List.getElem?_eq_some_iff.1 hx).2
  rw [List.drop_eq_getElem_cons (by simpa using hi)]
  simp only [List.getElem_map, List.getElem_zipIdx]
  rw [hx']
  refine del_mid fun q hq e => ?_
  obtain ⟨q', hq', rfl⟩ := List.mem_map.1 hq
  have h1 : q'.1 ∈ M.take k := by
    obtain ⟨a, b⟩ := q'
    have := List.mem_zipIdx hq'
    rw [this.2.2]; exact List.getElem_mem _
  have h2 : x ∈ M.drop k := List.mem_of_getElem? hx
  rw [← List.take_append_drop k M, List.nodup_append] at nd
  exact nd.2.2 _ h1 _ h2 e
def formula_Table_Cut.f (t : Tb) (k : Int) : Option (Tb × Int) := match t with
  | none => some (none, 1)
  | some M => if (decide (k < 0) || decide ((M.length : Int) < k)) = true then some (some M, 2) else chk (decide M.Nodup) (some (some (M.take k.toNat), 0))
theorem formula_Table_Cut_st {a : Option Addr} {t : Tb} {k : Int} (S : St A N w w [oT a t] []) {r : Tb × Int} (H : formula_Table_Cut.f t k = some r) : Calls PP F_formula_Table_Cut #[.pointer a, .int .i64 k] w fun e w' => ∃ v, e = .returned v ∧ (v = .int .i64 r.2 ∧ St A N w w' [oT a r.1] []) := by
  refine calls_of_wc (n := 49) fn_formula_Table_Cut rfl rfl (by simp) ?_
  repeat (first | refine wc_seq ?_ | refine wc_region ?_ | refine wc_block ?_)
  refine wl_does (does_as_i rfl) (by decide) ?_
  refine wl_nil ?_
  repeat (first | refine wc_seq ?_ | refine wc_region ?_ | refine wc_block ?_)
  refine wl_does (does_mv_p rfl) (by decide) ?_
  cases t with
  | none =>
    obtain ⟨F, hF⟩ := S.own 0 rfl
    refine wl_call (does_call ca_formula_Table_alive) (by decide) (formula_Table_alive_dead _ (oT.dead hF)) ?_
    rintro _ w1 ⟨rfl, h1⟩
    replace S := S.ext h1
    refine wl_does (does_not rfl) (by decide) ?_
    refine wl_does (does_as_b rfl) (by decide) ?_
    refine wl_nil ?_
    refine wc_true rfl ?_
    repeat (first | refine wc_seq ?_ | refine wc_region ?_ | refine wc_block ?_)
    refine wl_does (does_as_i rfl) (by decide) ?_
    refine wl_nil ?_
    refine wc_ret ?_
    obtain rfl := Option.some.inj H
    exact ⟨_, (rets1 (retOne_tmp rfl)), rfl, S⟩
  | some M =>
    obtain ⟨F, p, rfl, T, hN⟩ := S.own 0 rfl
    refine wl_call (does_call ca_formula_Table_alive) (by decide) (formula_Table_alive_ok _ T) ?_
    rintro _ w1 ⟨rfl, h1⟩
    replace S := S.ext h1
    refine wl_does (does_not rfl) (by decide) ?_
    refine wl_does (does_as_b rfl) (by decide) ?_
    refine wl_nil ?_
    refine wc_false rfl ?_
    obtain ⟨p', s, m, hp, _, S⟩ := S.openT
    cases hp
    repeat (first | refine wc_seq ?_ | refine wc_region ?_ | refine wc_block ?_)
    refine wl_does (does_mv_i rfl) (by decide) ?_
    refine wl_does (does_lt rfl rfl) (by decide) ?_
    refine wl_does (does_mv_b rfl) (by decide) ?_
    refine wl_guard (j := 2) (pol := false) rfl rfl rfl (by decide) (fun hg => does_mv_i rfl) (by decide) ?_
    refine wl_guard (j := 2) (pol := false) rfl rfl rfl (by decide) (fun hg => does_mv_p rfl) (by decide) ?_
    refine wl_guard (j := 2) (pol := false) rfl rfl rfl (by decide) (fun hg => does_nilCheck (gv_yes hg)) (by decide) ?_
    refine wl_guard (j := 2) (pol := false) rfl rfl rfl (by decide) (fun hg => does_fieldAddr fl_Tab_rows (gv_yes hg) (o' := 0) rfl) (by decide) ?_
    refine wl_guard (j := 2) (pol := false) rfl rfl rfl (by decide) (fun hg => does_load on_L_api_Node (gv_yes hg) ((S.blk 0).cell (Tab.get_rows _))) (by decide) ?_
    refine wl_guard (j := 2) (pol := false) rfl rfl rfl (by decide) (fun hg => does_lenR sl_L_api_Node (gv_yes hg) (S.sl 2).toRd) (by decide) ?_
    refine wl_guard (j := 2) (pol := false) rfl rfl rfl (by decide) (fun hg => does_gt (gv_yes hg) (gv_yes hg)) (by decide) ?_
    refine wl_does (does_or rfl (fun hp => (gv_yes (and_1 hp)))) (by decide) ?_
    refine wl_does (does_as_b rfl) (by decide) ?_
    refine wl_nil ?_
    dsimp only [formula_Table_Cut.f] at H
    refine wc_if rfl (fun hc => ?_) (fun hc => ?_)
    · rw [if_pos hc] at H
      repeat (first | refine wc_seq ?_ | refine wc_region ?_ | refine wc_block ?_)
      refine wl_does (does_as_i rfl) (by decide) ?_
      refine wl_nil ?_
      refine wc_ret ?_
      obtain rfl := Option.some.inj H
      exact ⟨_, (rets1 (retOne_tmp rfl)), rfl, S.shutT hN rfl⟩
    replace H : chk (decide M.Nodup) (some (some (M.take k.toNat), 0)) = some r := by simpa [hc] using H
    obtain ⟨nd, H⟩ := chk_ex H
    obtain rfl := Option.some.inj H
    clear H
    replace nd : M.Nodup := of_decide_eq_true nd
    simp only [Bool.or_eq_false_iff, decide_eq_false_iff_not] at hc
    have hk : 0 ≤ k ∧ k ≤ M.length := by omega
    refine wc_skip ?_
    repeat (first | refine wc_seq ?_ | refine wc_region ?_ | refine wc_block ?_)
    refine wl_does (does_mv_p rfl) (by decide) ?_
    refine wl_does (does_nilCheck rfl) (by decide) ?_
    refine wl_does (does_fieldAddr fl_Tab_rows rfl (o' := 0) rfl) (by decide) ?_
    refine wl_does (does_load on_L_api_Node rfl ((S.blk 0).cell (Tab.get_rows _))) (by decide) ?_
    refine wl_does (does_mv_i rfl) (by decide) ?_
    refine wl_does (does_suf sl_L_api_Node rfl rfl (S.sl 2).toRd hk) (by decide) ?_
    refine wl_does (does_lenR sl_L_api_Node rfl ((S.sl 2).toRd.suf hk).1) (by decide) ?_
    refine wl_does (does_mv_i rfl) (by decide) ?_
    refine wl_nil ?_
    rw [cutT_0 (M := M) (k := k.toNat) (by omega)] at S
    clear h1
    refine wc_cutq [6, 30, 31, 32, 33, 34, 35, 36, 37, 38, 39] (fun fr W => St A N w W [oB p T_Tab (Tab.C ⟨s, some m⟩), oM m ndV (Value.int .i64) (cutT M k.toNat (M.drop k.toNat).length), oS T_Nd 4 Nd.C s M] []) ?_ ?_
    · refine wc_block ?_
      refine wc_loopm (α := Nat) [6, 30, 31, 32, 33, 34, 35, 36, 37, 38, 39] (fun i fr W => i ≤ (M.drop k.toNat).length ∧ fr 30 = .int .i64 i ∧ St A N w W [oB p T_Tab (Tab.C ⟨s, some m⟩), oM m ndV (Value.int .i64) (cutT M k.toNat i), oS T_Nd 4 Nd.C s M] []) (fun i => (M.drop k.toNat).length - i) 0 ⟨Nat.zero_le _, rfl, S⟩ ?_
      rintro i g u ⟨hi, q, S⟩
      try dsimp only at q
      repeat (first | refine wc_seq ?_ | refine wc_region ?_ | refine wc_block ?_)
      refine wl_does (does_lt q rfl) (by decide) ?_
      refine wl_nil ?_
      repeat (first | refine wc_seq ?_ | refine wc_region ?_ | refine wc_block ?_)
      refine wc_if rfl (fun hc => ?_) (fun hc => ?_)
      rotate_left
      · refine wc_exit ?_
        have hge : ¬ ((i : Int) < ((M.drop k.toNat).length : Int)) := of_decide_eq_false hc
        obtain rfl : i = (M.drop k.toNat).length := by omega
        exact ⟨rfl, by repeat (first | exact Dif.self _ _ _ | exact Dif.refl _ _ | refine Dif.upd ?_ rfl _), S⟩
      refine wc_skip ?_
      have hlt : i < (M.drop k.toNat).length := by simpa using hc
      have hd : (M.drop k.toNat).length ≤ 1024 := by simp; omega
      have hrd := ((S.sl 2).toRd.suf hk).1
      obtain ⟨x, hx⟩ : ∃ x, (M.drop k.toNat)[i]? = some x := ⟨_, List.getElem?_eq_getElem hlt⟩
      repeat (first | refine wc_seq ?_ | refine wc_region ?_ | refine wc_block ?_)
      refine wl_does (does_indexR sl_L_api_Node rfl q hrd (by omega) (by omega)) (by decide) ?_
      refine wl_does (does_load_agg ag_Nd rfl (hrd.at (show (M.drop k.toNat)[Int.toNat (i : Int)]? = some x from hx)) (Nd.len _)) (by decide) ?_
      refine wl_alloc ze_Nd (by decide) fun b2 w2 hw2 => ?_
      replace S := S.new hw2
      refine wl_store_agg ag_Nd rfl rfl (S.blk 0) (Nd.len _) (by rw [Nd.len]; decide) (Nd.one _) (store_all (Nd.len _)) fun w3 B3 hw3 zw3 => ?_
      replace S : St A N w w3 [oB b2 T_Nd (Nd.C x), oB p T_Tab (Tab.C ⟨s, some m⟩), oM m ndV (Value.int .i64) (cutT M k.toNat i), oS T_Nd 4 Nd.C s M] [] := S.store 0 B3 hw3
      refine wl_nil ?_
      refine wc_quiet 5 (Ext w3) hmix (by kernel_rfl) (by kernel_rfl) (Ext.drawn _) ?_
      refine wq_does (fun v K => does_mv_p rfl) ?_
      refine wq_does (fun v K => does_nilCheck rfl) ?_
      refine wq_does (fun v K => does_fieldAddr fl_Tab_at_ rfl (o' := 1) rfl) ?_
      refine wq_does (fun v K => does_load on_M_api_Node_int rfl (((S.ext K).blk 1).cell (Tab.get_at_ _))) ?_
      refine wq_does (fun v K => does_load_agg ag_Nd rfl (((S.ext K).blk 0).all _ (Nd.len _)) (Nd.len _)) ?_
      refine wq_nil fun w4 K => ?_
      replace S := S.ext K
      refine wl_delete0 (C := fun x : Nd => .agg (Nd.C x).toArray) (key := x) un_M_api_Node_int key_Nd rfl rfl (S.map 2) fun w5 B5 h5 z5 => ?_
      rw [cutT_step nd hx] at B5
      replace S : St A N w w5 [oM m ndV (Value.int .i64) (cutT M k.toNat (i + 1)), oB b2 T_Nd (Nd.C x), oB p T_Tab (Tab.C ⟨s, some m⟩), oS T_Nd 4 Nd.C s M] [] := S.mapSet 2 ⟨B5, h5, z5⟩
      replace S : St A N w w5 [oM m ndV (Value.int .i64) (cutT M k.toNat (i + 1)), oB p T_Tab (Tab.C ⟨s, some m⟩), oS T_Nd 4 Nd.C s M] [] := S.drop 1
      replace S : St A N w w5 [oB p T_Tab (Tab.C ⟨s, some m⟩), oM m ndV (Value.int .i64) (cutT M k.toNat (i + 1)), oS T_Nd 4 Nd.C s M] [] := S.front 1
      refine wl_nil ?_
      repeat (first | refine wc_seq ?_ | refine wc_region ?_ | refine wc_block ?_)
      refine wl_does (does_addc q rfl (c := (i : Int) + 1) rfl (by omega) (by omega)) (by decide) ?_
      refine wl_does (does_mv_i rfl) (by decide) ?_
      refine wl_nil ?_
      exact ⟨rfl, by repeat (first | exact Dif.self _ _ _ | exact Dif.refl _ _ | refine Dif.upd ?_ rfl _), i + 1, ⟨by omega, rfl, S⟩, by omega⟩
    · rintro g u S
      rw [cutT_end] at S
      repeat (first | refine wc_seq ?_ | refine wc_region ?_ | refine wc_block ?_)
      refine wl_does (does_mv_p rfl) (by decide) ?_
      refine wl_does (does_mv_p rfl) (by decide) ?_
      refine wl_does (does_nilCheck rfl) (by decide) ?_
      refine wl_does (does_fieldAddr fl_Tab_rows rfl (o' := 0) rfl) (by decide) ?_
      refine wl_does (does_load on_L_api_Node rfl ((S.blk 0).cell (Tab.get_rows _))) (by decide) ?_
      refine wl_does (does_mv_i rfl) (by decide) ?_
      refine wl_does (does_pre sl_L_api_Node rfl rfl (S.sl 2) hk) (by decide) ?_
      refine wl_does (does_nilCheck rfl) (by decide) ?_
      refine wl_does (does_fieldAddr fl_Tab_rows rfl (o' := 0) rfl) (by decide) ?_
      refine wl_store on_L_api_Node rfl rfl (S.blk 0) (by rw [Tab.len]; decide) (SlV.one _ _ rfl) (Tab.set_rows _ _) fun w5 B h5 z5 => ?_
      replace S : St A N w w5 [oB p T_Tab (Tab.C ⟨⟨s.p, k.toNat, s.c⟩, some m⟩), oM m ndV (Value.int .i64) (zipT (M.take k.toNat)), oS T_Nd 4 Nd.C s M] [] := S.store 0 B h5
      replace S : St A N w w5 [oS T_Nd 4 Nd.C ⟨s.p, k.toNat, s.c⟩ (M.take k.toNat), oB p T_Tab (Tab.C ⟨⟨s.p, k.toNat, s.c⟩, some m⟩), oM m ndV (Value.int .i64) (zipT (M.take k.toNat))] [] := S.push 2 (s := s) (l := M) (l' := M.take k.toNat) ((S.sl 2).preL hk ((S.sl 2).clip hk) (Nat.le_refl _)) (by simp; omega) (Chg.refl _ _) (fun i hi => .inl hi)
      replace S := S.front 2
      replace S : St A N w w5 [oB p T_Tab (Tab.C ⟨⟨s.p, k.toNat, s.c⟩, some m⟩), oM m ndV (Value.int .i64) (zipT (M.take k.toNat)), oS T_Nd 4 Nd.C ⟨s.p, k.toNat, s.c⟩ (M.take k.toNat)] [] := S.front 2
      refine wl_nil ?_
      repeat (first | refine wc_seq ?_ | refine wc_region ?_ | refine wc_block ?_)
      refine wl_does (does_as_i rfl) (by decide) ?_
      refine wl_nil ?_
      refine wc_ret ?_
      exact ⟨_, (rets1 (retOne_tmp rfl)), rfl, S.shutT (by simp; omega) rfl⟩
end
section
variable {A : Nat → Prop} {N : Oth} {w0 w : World} {L Z : List OA}
end
end Go.Proofs.YtjjkhjieegmphaaDoor
end
section
namespace Go.Proofs.YtjjkhjieegmphaaDoor
open Gw
def rule_node.f (a0 : Tb) (a1 : Int) : Option Nd :=
  (formula_Table_Node.f a0 a1).bind fun r3 => some r3.1
def rule_on.f (a0 : Tb) (a1 : Sq) (a2 : Int) : Option Int :=
  (rule_node.f a0 a2).bind fun r3 => if decide (r3.kind = 2) then some 1 else if decide (r3.kind = 3) then some 3 else if decide (r3.kind = 4) then some 10 else if decide (r3.kind = 5) then (rule_node.f a0 r3.l).bind fun r13 => if decide (r13.kind = 1) then (bits_Has.f a1.left r3.l).bind fun r17 => if r17 then some 4 else some 0 else if decide (r13.kind = 2) then some 5 else if decide (r13.kind = 3) then some 6 else if decide (r13.kind = 4) then some 7 else if decide (r13.kind = 5) then some 13 else some 0 else some 0
def rule_fits.f (a0 : Tb) (a1 : Sq) (a2 : Int) (a3 : Int) : Option Bool :=
  (if (!(decide (a3 < 0))) then formula_Table_Len.f a0 else some 0).bind fun r3 => if (decide (a3 < 0)) || (decide (r3 ≤ a3)) then some false else (bits_Has.f a1.left a3).bind fun r6 => (rule_node.f a0 a3).bind fun r8 => if decide (a2 = 2) then some ((decide (a3 = a1.goal)) && r6) else if decide (a2 = 8) then some ((decide (a3 = a1.goal)) && (decide (r8.kind = 5))) else if decide (a2 = 9) then some ((decide (a3 = a1.goal)) && (decide (r8.kind = 3))) else (if decide (a2 = 11) then some (decide (a2 = 11)) else some (decide (a2 = 12))).bind fun (o14 : Bool) => if o14 then some ((decide (a3 = a1.goal)) && (decide (r8.kind = 4))) else (if ((decide (a2 ≠ 0)) && r6) then rule_on.f a0 a1 a3 else some 0).bind fun r19 => some (((decide (a2 ≠ 0)) && r6) && (decide (r19 = a2)))
def rule_with.f (a0 : Sq) (a1 : List Int) : Option Sq :=
  (bits_Of.f a1).bind fun r5 => (bits_Union.f a0.left r5.1).bind fun r11 => some ({ a0 with left := r11 })
def rule_to.f (a0 : Sq) (a1 : Int) : Option Sq :=
  some ({ a0 with goal := a1 })
def rule_look.b0 (a0 : Tb) (i15 : Int) (x15_0 : Int) : Option (Stp Int Int) :=
  (formula_Table_Len.f a0).bind fun r16 => if decide (r16 ≤ i15) then some (.ret 31) else some (.go x15_0)
def rule_look.f (a0 : Tb) (a1 : Sq) : Option Int :=
  (formula_Table_Not_neg.f a0 (-1)).bind fun r7 => if decide (r7.2 = 1) then some r7.2 else chk a1.left.okB ((forE (fun (x : Nat) (s : Int) => rule_look.b0 a0 (x : Int) s) (Bits.list a1.left) 0).bind (fin (fun (s15 : Int) => (if (!(decide (a1.goal < 0))) then formula_Table_Len.f a0 else some 0).bind fun r22 => if (decide (a1.goal < 0)) || (decide (r22 ≤ a1.goal)) then some 31 else some 0) (fun (s15 : Int) => some s15)))
def rule_apply_1_1.f (a0 : Int) : Option Bool :=
  some (decide (a0 = 1))
def rule_least__rule_apply_1_1.b0 (a0 : Tb) (a1 : Sq) (i14 : Int) (x14_0 : Bool) (x14_1 : Fnd) : Option (Stp (Bool × Fnd) (Bool × Fnd)) :=
  (rule_on.f a0 a1 i14).bind fun r15 => (rule_apply_1_1.f r15).bind fun r18 => if r18 then some (.ret (true, (⟨r15, i14⟩ : Fnd))) else some (.go (x14_0, x14_1))
def rule_least__rule_apply_1_1.f (a0 : Tb) (a1 : Sq) : Option (Fnd × Bool) :=
  chk a1.left.okB ((forE (fun (x : Nat) (s : Bool × Fnd) => rule_least__rule_apply_1_1.b0 a0 a1 (x : Int) s.1 s.2) (Bits.list a1.left) (false, Fnd.z)).bind (fin (fun (s14 : Bool × Fnd) => some (Fnd.z, false)) (fun (s14 : Bool × Fnd) => some (s14.2, s14.1))))
def rule_apply_1.f (a0 : Tb) (a1 : Sq) : Option (Fnd × Bool) :=
  (rule_least__rule_apply_1_1.f a0 a1).bind fun r3 => some (r3.1, r3.2)
def rule_apply_2.f (a0 : Sq) : Option (Fnd × Bool) :=
  (bits_Has.f a0.left a0.goal).bind fun r3 => some ((⟨2, a0.goal⟩ : Fnd), r3)
def rule_apply_3_1.f (a0 : Int) : Option Bool :=
  some ((decide (3 ≤ a0)) && (decide (a0 ≤ 7)))
def rule_least__rule_apply_3_1.b0 (a0 : Tb) (a1 : Sq) (i14 : Int) (x14_0 : Bool) (x14_1 : Fnd) : Option (Stp (Bool × Fnd) (Bool × Fnd)) :=
  (rule_on.f a0 a1 i14).bind fun r15 => (rule_apply_3_1.f r15).bind fun r18 => if r18 then some (.ret (true, (⟨r15, i14⟩ : Fnd))) else some (.go (x14_0, x14_1))
def rule_least__rule_apply_3_1.f (a0 : Tb) (a1 : Sq) : Option (Fnd × Bool) :=
  chk a1.left.okB ((forE (fun (x : Nat) (s : Bool × Fnd) => rule_least__rule_apply_3_1.b0 a0 a1 (x : Int) s.1 s.2) (Bits.list a1.left) (false, Fnd.z)).bind (fin (fun (s14 : Bool × Fnd) => some (Fnd.z, false)) (fun (s14 : Bool × Fnd) => some (s14.2, s14.1))))
def rule_apply_3.f (a0 : Tb) (a1 : Sq) : Option (Fnd × Bool) :=
  (rule_least__rule_apply_3_1.f a0 a1).bind fun r3 => some (r3.1, r3.2)
def rule_apply_4.f (a0 : Sq) (a1 : Tb) : Option (Fnd × Bool) :=
  (rule_node.f a1 a0.goal).bind fun r3 => some ((⟨8, a0.goal⟩ : Fnd), decide (r3.kind = 5))
def rule_apply_5.f (a0 : Sq) (a1 : Tb) : Option (Fnd × Bool) :=
  (rule_node.f a1 a0.goal).bind fun r3 => some ((⟨9, a0.goal⟩ : Fnd), decide (r3.kind = 3))
def rule_apply_6_1.f (a0 : Int) : Option Bool :=
  some (decide (a0 = 10))
def rule_least__rule_apply_6_1.b0 (a0 : Tb) (a1 : Sq) (i14 : Int) (x14_0 : Bool) (x14_1 : Fnd) : Option (Stp (Bool × Fnd) (Bool × Fnd)) :=
  (rule_on.f a0 a1 i14).bind fun r15 => (rule_apply_6_1.f r15).bind fun r18 => if r18 then some (.ret (true, (⟨r15, i14⟩ : Fnd))) else some (.go (x14_0, x14_1))
def rule_least__rule_apply_6_1.f (a0 : Tb) (a1 : Sq) : Option (Fnd × Bool) :=
  chk a1.left.okB ((forE (fun (x : Nat) (s : Bool × Fnd) => rule_least__rule_apply_6_1.b0 a0 a1 (x : Int) s.1 s.2) (Bits.list a1.left) (false, Fnd.z)).bind (fin (fun (s14 : Bool × Fnd) => some (Fnd.z, false)) (fun (s14 : Bool × Fnd) => some (s14.2, s14.1))))
def rule_apply_6.f (a0 : Tb) (a1 : Sq) : Option (Fnd × Bool) :=
  (rule_least__rule_apply_6_1.f a0 a1).bind fun r3 => some (r3.1, r3.2)
def rule_apply.f (a0 : Tb) (a1 : Sq) : Option Fnd :=
  (rule_apply_1.f a0 a1).bind fun r12 => if r12.2 then some r12.1 else (rule_apply_2.f a1).bind fun r22 => if r22.2 then some r22.1 else (rule_apply_3.f a0 a1).bind fun r32 => if r32.2 then some r32.1 else (rule_apply_4.f a1 a0).bind fun r42 => if r42.2 then some r42.1 else (rule_apply_5.f a1 a0).bind fun r52 => if r52.2 then some r52.1 else (rule_apply_6.f a0 a1).bind fun r62 => if r62.2 then some r62.1 else some (⟨14, 0⟩ : Fnd)
def rule_Apply.f (a0 : Tb) (a1 : Sq) : Option (Int × Int × Int) :=
  (rule_look.f a0 a1).bind fun r3 => if decide (r3 ≠ 0) then some (0, 0, r3) else (rule_apply.f a0 a1).bind fun r7 => some (r7.k, r7.main, 0)
def rule_Choices.b0 (a0 : Tb) (a1 : Sq) (i43 : Int) (x43_0 : List Int) (x43_1 : List Int) : Option (Stp (List Int × List Int) Empty) :=
  (rule_on.f a0 a1 i43).bind fun r46 => if decide (r46 = 13) then chk (decide ((x43_1.length + ([13]).length) * 8 ≤ 140737488355328)) (chk (decide ((x43_0.length + ([i43]).length) * 8 ≤ 140737488355328)) (some (.go (x43_0 ++ [i43], x43_1 ++ [13])))) else some (.go (x43_0, x43_1))
def rule_Choices.f (a0 : Tb) (a1 : Sq) : Option (List Int × List Int × Int) :=
  (rule_look.f a0 a1).bind fun r5 => if decide (r5 ≠ 0) then some (([] : List Int), ([] : List Int), r5) else (rule_apply.f a0 a1).bind fun r13 => if decide (r13.k ≠ 14) then some (([] : List Int), ([] : List Int), 0) else (rule_node.f a0 a1.goal).bind fun r17 => (if decide (r17.kind = 4) then chk (decide ((([] : List Int).length + ([11, 12]).length) * 8 ≤ 140737488355328)) (chk (decide ((([] : List Int).length + ([a1.goal, a1.goal]).length) * 8 ≤ 140737488355328)) (some ((([] : List Int) ++ [a1.goal, a1.goal], ([] : List Int) ++ [11, 12])))) else some ((([] : List Int), ([] : List Int)))).bind fun (o20 : List Int × List Int) => chk a1.left.okB ((forE (fun (x : Nat) (s : List Int × List Int) => rule_Choices.b0 a0 a1 (x : Int) s.1 s.2) (Bits.list a1.left) (o20.1, o20.2)).bind (fin (fun (s43 : List Int × List Int) => some (s43.2, s43.1, 0)) (fun (z : Empty) => z.elim)))
end Go.Proofs.YtjjkhjieegmphaaDoor
end
section
namespace Go.Proofs.YtjjkhjieegmphaaDoor
open Gw
def rule_pair_1.f (a0 : List Int) (a1 : Int) (a2 : Int) : Option (Int × Int) :=
  some (a1, a2)
def rule_pair.f (a0 : Int) (a1 : Int) : Option (Int × Int) :=
  some (a0, a1)
def rule_premises_1.f (a0 : List Int) (a1 : Nd) : Option (Int × Int) :=
  chk (inb 0 a0.length) (some (a1.l, at_ (0 : Int) a0 0))
def rule_imps__rule_pair_1__rule_premises_1.f (a0 : Tb) (a1_0 : Int) (a1_1 : Int) (a1_2 : Nd) : Option (Tb × List Int × Int) :=
  (rule_pair_1.f ([]) a1_0 a1_1).bind fun r3 => (formula_Table_Imp.f a0 r3.1 r3.2).bind fun r6 => if decide (r6.2.2 ≠ 0) then some (r6.1, ([] : List Int), r6.2.2) else chk (decide ((([] : List Int).length + ([r6.2.1]).length) * 8 ≤ 140737488355328)) ((rule_premises_1.f (([] : List Int) ++ [r6.2.1]) a1_2).bind fun r18 => (formula_Table_Imp.f r6.1 r18.1 r18.2).bind fun r21 => if decide (r21.2.2 ≠ 0) then some (r21.1, ([] : List Int), r21.2.2) else chk (decide (((([] : List Int) ++ [r6.2.1]).length + ([r21.2.1]).length) * 8 ≤ 140737488355328)) (some (r21.1, (([] : List Int) ++ [r6.2.1]) ++ [r21.2.1], 0)))
def rule_imps__rule_pair_1__rule_pair_1.f (a0 : Tb) (a1_0 : Int) (a1_1 : Int) (a1_2 : Int) (a1_3 : Int) : Option (Tb × List Int × Int) :=
  (rule_pair_1.f ([]) a1_0 a1_1).bind fun r3 => (formula_Table_Imp.f a0 r3.1 r3.2).bind fun r6 => if decide (r6.2.2 ≠ 0) then some (r6.1, ([] : List Int), r6.2.2) else chk (decide ((([] : List Int).length + ([r6.2.1]).length) * 8 ≤ 140737488355328)) ((rule_pair_1.f (([] : List Int) ++ [r6.2.1]) a1_2 a1_3).bind fun r18 => (formula_Table_Imp.f r6.1 r18.1 r18.2).bind fun r21 => if decide (r21.2.2 ≠ 0) then some (r21.1, ([] : List Int), r21.2.2) else chk (decide (((([] : List Int) ++ [r6.2.1]).length + ([r21.2.1]).length) * 8 ≤ 140737488355328)) (some (r21.1, (([] : List Int) ++ [r6.2.1]) ++ [r21.2.1], 0)))
def rule_imps__rule_pair_1.f (a0 : Tb) (a1_0 : Int) (a1_1 : Int) : Option (Tb × List Int × Int) :=
  (rule_pair_1.f ([]) a1_0 a1_1).bind fun r3 => (formula_Table_Imp.f a0 r3.1 r3.2).bind fun r6 => if decide (r6.2.2 ≠ 0) then some (r6.1, ([] : List Int), r6.2.2) else chk (decide ((([] : List Int).length + ([r6.2.1]).length) * 8 ≤ 140737488355328)) (some (r6.1, ([] : List Int) ++ [r6.2.1], 0))
def rule_premises.f (a0 : Tb) (a1 : Sq) (a2 : Int) (a3 : Int) : Option (Tb × List Sq × Int) :=
  (rule_node.f a0 a3).bind fun r3 => (rule_node.f a0 r3.l).bind fun r9 => (bits_Drop.f a1.left a3).bind fun r18 => if decide (a2 = 3) then (rule_with.f ({ a1 with left := r18 }) ([r3.l, r3.r])).bind fun r26 => some (a0, [r26], 0) else if decide (a2 = 4) then (rule_with.f ({ a1 with left := r18 }) ([r3.r])).bind fun r36 => some (a0, [r36], 0) else if decide (a2 = 5) then some (a0, [{ a1 with left := r18 }], 0) else if decide (a2 = 6) then (rule_pair.f r9.r r3.r).bind fun r47 => (rule_imps__rule_pair_1__rule_premises_1.f a0 r47.1 r47.2 r9).bind fun r55 => if decide (r55.2.2 ≠ 0) then some (r55.1, ([] : List Sq), r55.2.2) else chk (inb 1 r55.2.1.length) ((rule_with.f ({ a1 with left := r18 }) ([at_ (0 : Int) r55.2.1 1])).bind fun r64 => some (r55.1, [r64], 0)) else if decide (a2 = 7) then (rule_pair.f r9.l r3.r).bind fun r79 => (rule_pair.f r9.r r3.r).bind fun r82 => (rule_imps__rule_pair_1__rule_pair_1.f a0 r79.1 r79.2 r82.1 r82.2).bind fun r88 => if decide (r88.2.2 ≠ 0) then some (r88.1, ([] : List Sq), r88.2.2) else (rule_with.f ({ a1 with left := r18 }) r88.2.1).bind fun r95 => some (r88.1, [r95], 0) else if decide (a2 = 8) then (rule_with.f a1 ([r3.l])).bind fun r103 => (rule_to.f r103 r3.r).bind fun r106 => some (a0, [r106], 0) else if decide (a2 = 9) then (rule_to.f a1 r3.l).bind fun r113 => (rule_to.f a1 r3.r).bind fun r115 => some (a0, [r113, r115], 0) else if decide (a2 = 10) then (rule_with.f ({ a1 with left := r18 }) ([r3.l])).bind fun r123 => (rule_with.f ({ a1 with left := r18 }) ([r3.r])).bind fun r127 => some (a0, [r123, r127], 0) else if decide (a2 = 11) then (rule_to.f a1 r3.l).bind fun r134 => some (a0, [r134], 0) else if decide (a2 = 12) then (rule_to.f a1 r3.r).bind fun r141 => some (a0, [r141], 0) else if decide (a2 = 13) then (rule_pair.f r9.r r3.r).bind fun r148 => (rule_imps__rule_pair_1.f a0 r148.1 r148.2).bind fun r156 => if decide (r156.2.2 ≠ 0) then some (r156.1, ([] : List Sq), r156.2.2) else (rule_with.f ({ a1 with left := r18 }) r156.2.1).bind fun r161 => (rule_to.f r161 r3.l).bind fun r162 => (rule_with.f ({ a1 with left := r18 }) ([r3.r])).bind fun r166 => some (r156.1, [r162, r166], 0) else some (a0, ([] : List Sq), 0)
def rule_Premises.f (a0 : Tb) (a1 : Sq) (a2 : Int) (a3 : Int) : Option (Tb × List Sq × Int) :=
  (rule_look.f a0 a1).bind fun r3 => if decide (r3 ≠ 0) then some (a0, ([] : List Sq), r3) else (rule_fits.f a0 a1 a2 a3).bind fun r7 => if !r7 then some (a0, ([] : List Sq), 90) else (formula_Table_Len.f a0).bind fun r11 => (rule_premises.f a0 a1 a2 a3).bind fun r14 => if decide (r14.2.2 ≠ 0) then (formula_Table_Cut.f r14.1 r11).bind fun r19 => some (r19.1, ([] : List Sq), r14.2.2) else some (r14.1, r14.2.1, 0)
end Go.Proofs.YtjjkhjieegmphaaDoor
end
section
namespace Go.Proofs.YtjjkhjieegmphaaDoor
open Go.RowKit
namespace Gw
def OA.star (a b : OA) : OA where
  holds := fun w F => ∃ G H, a.holds w G ∧ b.holds w H ∧ (∀ i, G i → ¬ H i) ∧ ∀ i, F i ↔ (G i ∨ H i)
  loc := fun ⟨G, H, g, h, d, e⟩ hc hs => ⟨G, H, a.loc g hc (fun i hi => hs i ((e i).2 (.inl hi))), b.loc h hc (fun i hi => hs i ((e i).2 (.inr hi))), d, e⟩
  lt := fun ⟨G, H, g, h, d, e⟩ i hi => ((e i).1 hi).elim (a.lt g i) (b.lt h i)
def OA.ex {α : Type} (f : α → OA) : OA where
  holds := fun w F => ∃ x, (f x).holds w F
  loc := fun ⟨x, h⟩ hc hs => ⟨x, (f x).loc h hc hs⟩
  lt := fun ⟨x, h⟩ => (f x).lt h
def OA.pure (p : Prop) : OA where
  holds := fun _ F => p ∧ ∀ i, ¬ F i
  loc := fun h _ _ => h
  lt := fun h i hi => (h.2 i hi).elim
section
variable {A : Nat → Prop} {N : Oth} {w0 w w' : World} {L Z : List OA}
theorem St.sep (h : St A N w0 w L Z) {L' : List OA} (hs : ∀ U, Sep w U L → Sep w U L') : St A N w0 w L' Z := by
  obtain ⟨U, hU, hN, hA, hL, hZ, hW⟩ := h
  exact ⟨U, hU, hN, hA, hs U hL, hZ, hW⟩
theorem St.unstar (h : St A N w0 w L Z) (k : Nat) {a b : OA} {L' : List OA} (e : L[k]? = some (a.star b) := by rfl) (e' : a :: b :: L.eraseIdx k = L' := by rfl) : St A N w0 w L' Z := by
  subst e'
  refine h.sep fun U hL => ?_
  obtain ⟨F, ⟨G, H, g, h, d, q⟩, hF, hR⟩ := hL.front k e
  refine ⟨G, g, fun i hi => hF i ((q i).2 (.inl hi)), H, h, fun i hi => ⟨hF i ((q i).2 (.inr hi)), fun hg => d i hg hi⟩, hR.mono fun i hi => ⟨⟨hi.1, fun hg => hi.2 ((q i).2 (.inl hg))⟩, fun hh => hi.2 ((q i).2 (.inr hh))⟩⟩
theorem St.star {a b : OA} (h : St A N w0 w (a :: b :: L) Z) : St A N w0 w (a.star b :: L) Z := by
  refine h.sep fun U hL => ?_
  obtain ⟨G, g, hG, H, h, hH, hR⟩ := hL
  exact ⟨fun i => G i ∨ H i, ⟨G, H, g, h, fun i hg hh => (hH i hh).2 hg, fun _ => Iff.rfl⟩, fun i hi => hi.elim (hG i) (fun q => (hH i q).1), hR.mono fun i hi => ⟨hi.1.1, fun q => q.elim hi.1.2 hi.2⟩⟩
theorem St.unex (h : St A N w0 w L Z) (k : Nat) {α : Type} {f : α → OA} (e : L[k]? = some (OA.ex f) := by rfl) : ∃ x, St A N w0 w (f x :: L.eraseIdx k) Z := by
  obtain ⟨U, hU, hN, hA, hL, hZ, hW⟩ := h
  obtain ⟨F, ⟨x, g⟩, hF, hR⟩ := hL.front k e
  exact ⟨x, U, hU, hN, hA, ⟨F, g, hF, hR⟩, hZ, hW⟩
theorem St.toex {α : Type} {f : α → OA} (x : α) (h : St A N w0 w (f x :: L) Z) : St A N w0 w (OA.ex f :: L) Z := by
  refine h.sep fun U hL => ?_
  obtain ⟨F, g, hF, hR⟩ := hL
  exact ⟨F, ⟨x, g⟩, hF, hR⟩
theorem St.getp (h : St A N w0 w L Z) (k : Nat) {p : Prop} (e : L[k]? = some (OA.pure p) := by rfl) : p := (h.own k e).elim fun _ h => h.1
theorem St.putp (h : St A N w0 w L Z) {p : Prop} (hp : p) : St A N w0 w (OA.pure p :: L) Z :=
  h.add (b := OA.pure p) (G := fun _ => False) (Ext.refl w) ⟨hp, fun _ x => x⟩ (fun _ x => x.elim)
theorem St.frzO (h : St A N w0 w L Z) (k : Nat) {a : OA} {L' : List OA} (q : L[k]? = some a := by rfl) (q' : L.eraseIdx k = L' := by rfl) : St A N w0 w L' (a :: Z) := h.freeze k (a := a) (fun _ h => h) q q'
end
def big {μ α : Type} (R : μ → α → OA) : List μ → List α → OA
  | [], [] => OA.pure True
  | m :: ms, x :: xs => (R m x).star (big R ms xs)
  | _, _ => OA.pure False
theorem big_len {w : World} {μ α : Type} {R : μ → α → OA} : ∀ {ms : List μ} {l : List α} {F : Nat → Prop}, (big R ms l).holds w F → ms.length = l.length
  | [], [], _, _ => rfl
  | m :: ms, x :: xs, F, ⟨_, _, _, h, _⟩ => by simp [big_len h]
  | [], _ :: _, _, h => h.1.elim
  | _ :: _, [], _, h => h.1.elim
theorem big_at {w : World} {μ α : Type} {R : μ → α → OA} : ∀ {ms : List μ} {l : List α} {F : Nat → Prop} {i : Nat} {m : μ} {x : α}, (big R ms l).holds w F → ms[i]? = some m → l[i]? = some x → ∃ G, (R m x).holds w G ∧ ∀ j, G j → F j
  | [], [], _, _, _, _, _, h, _ => by simp at h
  | m :: ms, x :: xs, F, i, m', x', ⟨G, H, g, h, d, e⟩, hm, hx => by
    cases i with
    | zero => simp at hm hx; subst hm hx; exact ⟨G, g, fun j hj => (e j).2 (.inl hj)⟩
    | succ i =>
      obtain ⟨K, k, hK⟩ := big_at h (by simpa using hm) (by simpa using hx)
      exact ⟨K, k, fun j hj => (e j).2 (.inr (hK j hj))⟩
  | [], _ :: _, _, _, _, _, h, _, _ => h.1.elim
  | _ :: _, [], _, _, _, _, h, _, _ => h.1.elim
theorem big_push {w : World} {μ α : Type} {R : μ → α → OA} {m : μ} {x : α} {G : Nat → Prop} (g : (R m x).holds w G) : ∀ {ms : List μ} {l : List α} {F : Nat → Prop}, (big R ms l).holds w F → (∀ i, F i → ¬ G i) → (big R (ms ++ [m]) (l ++ [x])).holds w fun i => F i ∨ G i
  | [], [], F, h, d => ⟨G, fun _ => False, g, ⟨trivial, fun _ x => x⟩, fun _ _ x => x, fun i => ⟨fun q => q.elim (fun q => absurd q (h.2 i)) .inl, fun q => q.elim .inr (fun x => x.elim)⟩⟩
  | m' :: ms, x' :: xs, F, ⟨G', H', g', h', d', e'⟩, d => by
    refine ⟨G', fun i => H' i ∨ G i, g', big_push g h' (fun i hi => d i ((e' i).2 (.inr hi))), fun i hi q => q.elim (d' i hi) (d i ((e' i).2 (.inl hi))), fun i => ?_⟩
    show F i ∨ G i ↔ _
    rw [e' i, or_assoc]
  | [], _ :: _, _, h, _ => h.1.elim
  | _ :: _, [], _, h, _ => h.1.elim
def oD (e k : Nat) {μ α : Type} (C : μ → List Value) (R : μ → α → OA) (s : SlV) (l : List α) : OA := OA.ex fun ms => (oS e k C s ms).star (big R ms l)
section
variable {A : Nat → Prop} {N : Oth} {w0 w w' : World} {L Z : List OA} {e k : Nat} {μ α : Type} {C : μ → List Value} {R : μ → α → OA} {s : SlV} {l : List α}
def OA.on (a : OA) (w : World) : Prop := ∃ F, a.holds w F
theorem oD.rd (h : (oD e k C R s l).on w) : ∃ ms : List μ, Rd w k s (ms.map C) ∧ ms.length = l.length ∧ (∀ (i : Nat) m x, ms[i]? = some m → l[i]? = some x → (R m x).on w) ∧ l.length ≤ 140737488355328 := by
  obtain ⟨F, ms, G, H, g, h, d, q⟩ := h
  refine ⟨ms, g.1.1.toRd, big_len h, fun i m x hm hx => (big_at h hm hx).elim fun K hk => ⟨K, hk.1⟩, ?_⟩
  rw [← big_len h]; exact g.1.2
theorem oD.elt (h : (oD e k C R s l).on w) {z : α} {i : Int} (hi : 0 ≤ i ∧ i < l.length) : ∃ m, Cells w s.blk (s.off + i.toNat * k) (C m) ∧ (R m (at_ z l i)).on w := by
  obtain ⟨ms, hr, hl, hR, _⟩ := oD.rd h
  have h1 : i.toNat < ms.length := by omega
  have h2 : i.toNat < l.length := by omega
  have h3 : at_ z l i = l[i.toNat] := by simp [at_, List.getD_eq_getElem?_getD, h2]
  refine ⟨ms[i.toNat], hr.at (List.getElem?_eq_getElem h1), ?_⟩
  rw [h3]
  exact hR i.toNat _ _ (List.getElem?_eq_getElem h1) (List.getElem?_eq_getElem h2)
theorem oD.cell (h : (oD e k C R s l).on w) {z : α} {i : Int} (hi : 0 ≤ i ∧ i < l.length) {o : Nat} {v : Value} (hf : ∀ m, (R m (at_ z l i)).on w → (C m)[o]? = some v) : w.cell? ⟨s.blk, s.off + i.toNat * k + o, none⟩ = some v := by
  obtain ⟨m, hc, hR⟩ := oD.elt h (z := z) hi
  exact hc.get (hf m hR)
theorem St.onO (h : St A N w0 w L Z) (k : Nat) {a : OA} (e : L[k]? = some a := by rfl) : a.on w := h.own k e
theorem St.onZ (h : St A N w0 w L Z) (k : Nat) {a : OA} (e : Z[k]? = some a := by rfl) : a.on w := h.frz k e
theorem oD.nil_holds (w : World) (e k : Nat) {μ α : Type} (C : μ → List Value) (R : μ → α → OA) : (oD e k C R SlV.nil []).holds w (fun _ => False) :=
  ⟨[], fun _ => False, fun _ => False, ⟨⟨by simpa using Own.nil w 0 e k, by simp⟩, fun i => ⟨fun x => x.elim, fun x => absurd rfl x.1⟩⟩, ⟨trivial, fun _ x => x⟩, fun _ _ x => x, fun _ => ⟨fun x => x.elim, fun x => x.elim id id⟩⟩
theorem St.nilD (h : St A N w0 w L Z) (e k : Nat) {μ α : Type} (C : μ → List Value) (R : μ → α → OA) : St A N w0 w (oD e k C R SlV.nil [] :: L) Z :=
  h.add (b := oD e k C R SlV.nil []) (G := fun _ => False) (Ext.refl w) (oD.nil_holds w e k C R) (fun _ x => x.elim)
theorem St.openD (h : St A N w0 w L Z) (n : Nat) (q : L[n]? = some (oD e k C R s l) := by rfl) : ∃ ms : List μ, St A N w0 w (oS e k C s ms :: big R ms l :: L.eraseIdx n) Z := by
  obtain ⟨ms, h1⟩ := h.unex n (f := fun ms => (oS e k C s ms).star (big R ms l)) q
  exact ⟨ms, h1.unstar 0⟩
theorem St.shutD {ms : List μ} (h : St A N w0 w (oS e k C s ms :: big R ms l :: L) Z) : St A N w0 w (oD e k C R s l :: L) Z := St.toex (f := fun ms => (oS e k C s ms).star (big R ms l)) ms h.star
theorem St.pushD {ms : List μ} {m : μ} {x : α} (h : St A N w0 w (oS e k C s (ms ++ [m]) :: big R ms l :: R m x :: L) Z) : St A N w0 w (oD e k C R s (l ++ [x]) :: L) Z := by
  refine St.shutD (ms := ms ++ [m]) (h.sep fun U hL => ?_)
  obtain ⟨F, f, hF, G, g, hG, H, hh, hH, hR⟩ := hL
  exact ⟨F, f, hF, fun i => G i ∨ H i, big_push hh g (fun i hg hi => (hH i hi).2 hg), fun i hi => hi.elim (hG i) (fun q => (hH i q).1), hR.mono fun i hi => ⟨hi.1.1, fun q => q.elim hi.1.2 hi.2⟩⟩
end
section
variable {P : Program} {f : Fr} {w w' : World} {d : Option Tmp} {ty : TypeId} {pos : String} {af : Array Edge} {gd : Option (Nat × Bool)}
theorem does_lenD {e' k' : Nat} {μ α : Type} {C : μ → List Value} {R : μ → α → OA} {l : List α} {x : Operand} {t e k : Nat} {s : SlV} (ht : SliceT P t e k) (hx : evF f x = s.v) (h : (oD e' k' C R s l).on w) : Does P ⟨d, .call ⟨.builtin .len, #[x], #[t]⟩, ty, pos, af, gd⟩ f w (.int .i64 l.length) w := by
  obtain ⟨ms, hr, hl, _⟩ := oD.rd h
  have := does_lenR (P := P) (f := f) (d := d) (ty := ty) (pos := pos) (af := af) (gd := gd) ht hx hr
  rw [hl] at this; exact this
theorem does_indexD {e' : Nat} {μ α : Type} {C : μ → List Value} {R : μ → α → OA} {l : List α} {x y : Operand} {t e k : Nat} {kd : IntKind} {i : Int} {s : SlV} (ht : SliceT P t e k) (hx : evF f x = s.v) (hy : evF f y = .int kd i) (h : (oD e' k C R s l).on w) (h0 : 0 ≤ i) (h1 : i < l.length) :
    Does P ⟨d, .indexAddr t x y, ty, pos, af, gd⟩ f w (.pointer (some ⟨s.blk, s.off + i.toNat * k, none⟩)) w := by
  obtain ⟨ms, hr, hl, _⟩ := oD.rd h
  exact does_indexR ht hx hy hr h0 (by omega)
theorem Does.to {o : Oper} {v v' : Value} (h : Does P o f w v w') (e : v = v') : Does P o f w v' w' := e ▸ h
theorem wl_makeMap {α β : Type} {C : α → Value} {D : β → Value} {rd : Option Nat} {n : Nat} {dm : List Nat} {ops : Array Oper} {rest : List Oper} {Q : Post} {dd : Tmp} {t : TypeId} (hd : dd < n)
    (h : ∀ m w', MapB w' m C D [] → Ext w w' → w.heap.size ≤ m → wl P rd n dm ops rest Q (upd f dd (.map (some m))) w') : wl P rd n dm ops (⟨some dd, .makeMap t none, ty, pos, af, none⟩ :: rest) Q f w :=
  wl_does does_makeMap hd (h _ _ ⟨#[], 0, heap_alloc_new w _, rfl⟩ (Ext.alloc _ _) (Nat.le_refl _))
end
section
variable {A : Nat → Prop} {N : Oth} {w0 w w' : World} {L Z : List OA}
theorem St.newM (h : St A N w0 w L Z) {α β : Type} {C : α → Value} {D : β → Value} {m : Nat} (hm : MapB w' m C D ([] : List (α × β))) (hx : Ext w w') (hl : w.heap.size ≤ m) : St A N w0 w' (oM m C D [] :: L) Z :=
  h.add (b := oM m C D []) (G := (· = m)) hx ⟨hm, fun _ => Iff.rfl⟩ (fun i hi => by rw [hi]; exact hl)
end
end Gw
end Go.Proofs.YtjjkhjieegmphaaDoor
end
section
namespace Go.Proofs.YtjjkhjieegmphaaDoor
open Gw Go.RowKit
structure PStep where
  seq : Sq
  proved : Bool
  rule : Int
  main : Int
  kids : List Int
  deriving DecidableEq
def PStep.z : PStep := ⟨Sq.z, false, 0, 0, []⟩
structure PFound where
  proved : Bool
  steps : List PStep
  visits : Int
  deriving DecidableEq
structure PFinder where
  t : Tb
  steps : List PStep
  at_ : List (Sq × Int)
  left : Int
  visits : Int
structure PRRun where
  t : Tb
  steps : List PStep
  visits : Int
  budget : Int
def rStep (m : Step) (x : PStep) : OA := (OA.pure (m.seq = x.seq ∧ m.proved = x.proved ∧ m.rule = x.rule ∧ m.main = x.main)).star (oS T_int 1 IC m.kids x.kids)
theorem rStep.eqs {w : World} {m : Step} {x : PStep} (h : (rStep m x).on w) : m.seq = x.seq ∧ m.proved = x.proved ∧ m.rule = x.rule ∧ m.main = x.main := by
  obtain ⟨F, G, H, g, _⟩ := h
  exact g.1
theorem rStep.get_proved {w : World} {m : Step} {x : PStep} (h : (rStep m x).on w) : (Step.C m)[17]? = some (.bool x.proved) := by rw [Step.get_proved, (rStep.eqs h).2.1]
theorem rStep.get_rule {w : World} {m : Step} {x : PStep} (h : (rStep m x).on w) : (Step.C m)[18]? = some (.int .i64 x.rule) := by rw [Step.get_rule, (rStep.eqs h).2.2.1]
def mSqC (x : Sq) : Value := .agg (Sq.C x).toArray
abbrev oDStep (s : SlV) (l : List PStep) : OA := oD T_Step 21 Step.C rStep s l
abbrev oMSq (m : Nat) (l : List (Sq × Int)) : OA := oM m mSqC (Value.int .i64) l
theorem does_buildc {P : Program} {f : Fr} {w : World} {d : Option Tmp} {ty : TypeId} {pos : String} {af : Array Edge} {gd : Option (Nat × Bool)} {t : Nat} {out : List Value} {parts : Array (Nat × Operand)} {vs : List (Nat × Value)} (hv : parts.toList.map (fun q => (q.1, evF f q.2)) = vs) (hb : P.built t vs = some out.toArray) : Does P ⟨d, .build t parts, ty, pos, af, gd⟩ f w (.agg out.toArray) w := by
  subst hv
  have h := run_build (P := P) w t (parts.map fun q => (q.1, evF f q.2)) out.toArray (by rw [Array.toList_map]; exact hb)
  unfold Does
  show (execOp (evF f) _).run P w = _
  unfold execOp
  simp only [Sem.run_bind, h, Result.andThen_ok, Sem.run_pure]
theorem Gw.St.viewStep {A : Nat → Prop} {N : Oth} {w0 w : World} {L Z : List OA} {s : SlV} {l : List PStep} (h : St A N w0 w L Z) (k : Nat) {i : Int} (hi : 0 ≤ i ∧ i < l.length) (e : Z[k]? = some (oDStep s l) := by rfl) :
    ∃ n : SlV, Cells w s.blk (s.off + i.toNat * 21) (Step.C ⟨(at_ PStep.z l i).seq, (at_ PStep.z l i).proved, (at_ PStep.z l i).rule, (at_ PStep.z l i).main, n⟩) ∧ St A N w0 w L (fS 1 IC n (at_ PStep.z l i).kids :: Z) := by
  obtain ⟨U, hU, hN, hA, hL, hZ, hW⟩ := h
  obtain ⟨F, hF, hX⟩ := hZ _ (List.mem_of_getElem? e)
  have hF' := hF
  obtain ⟨ms, G, H, g, hh, d, q⟩ := hF
  have hl := big_len hh
  have h1 : i.toNat < ms.length := by omega
  have h2 : i.toNat < l.length := by omega
  have h3 : at_ PStep.z l i = l[i.toNat] := by simp [at_, List.getD_eq_getElem?_getD, h2]
  obtain ⟨K, hk, hK⟩ := big_at hh (List.getElem?_eq_getElem h1) (List.getElem?_eq_getElem h2)
  have heq := rStep.eqs ⟨K, hk⟩
  obtain ⟨K1, K2, k1, k2, _, kq⟩ := hk
  refine ⟨ms[i.toNat].kids, ?_, U, hU, hN, hA, hL, fun z hz => ?_, hW⟩
  · rw [h3]
    have := (g.1.1.toRd).at (List.getElem?_eq_getElem h1)
    rw [← heq.1, ← heq.2.1, ← heq.2.2.1, ← heq.2.2.2]
    exact this
  · rcases List.mem_cons.1 hz with rfl | hz
    · rw [h3]
      exact ⟨K2, ⟨⟨k2.1.1.toRd, k2.1.2⟩, k2.2⟩, fun j hj => hX j ((q j).2 (.inr (hK j ((kq j).2 (.inr hj)))))⟩
    · exact hZ z hz
def oF (a ta : Option Addr) (x : PFinder) : OA := OA.ex fun (q : Nat × SlV × Nat) => (OA.pure (a = some ⟨q.1, 0, none⟩)).star ((oB q.1 T_Finder (Finder.C ⟨ta, q.2.1, some q.2.2, x.left, x.visits⟩)).star ((oT ta x.t).star ((oDStep q.2.1 x.steps).star (oMSq q.2.2 x.at_))))
section
variable {A : Nat → Prop} {N : Oth} {w0 w w' : World} {L Z : List OA}
theorem Gw.St.open_oF (h : St A N w0 w L Z) (k : Nat) {a ta : Option Addr} {x : PFinder} {L' : List OA} (e : L[k]? = some (oF a ta x) := by rfl) (e' : L.eraseIdx k = L' := by rfl) :
    ∃ p ss m, a = some ⟨p, 0, none⟩ ∧ St A N w0 w (oB p T_Finder (Finder.C ⟨ta, ss, some m, x.left, x.visits⟩) :: oT ta x.t :: oDStep ss x.steps :: oMSq m x.at_ :: L') Z := by
  subst e'
  obtain ⟨⟨p, ss, m⟩, h1⟩ := h.unex k e
  have h2 := h1.unstar 0
  have hp := h2.getp 0
  have h3 := h2.drop 0
  have h4 := h3.unstar 0
  have h5 := h4.unstar 1
  have h6 := h5.unstar 1
  exact ⟨p, ss, m, hp, ((h6.front 3).front 3).front 1⟩
theorem Gw.St.shut_oF {p : Nat} {ta a : Option Addr} {ss : SlV} {m : Nat} {lf vs : Int} {t : Tb} {st : List PStep} {mp : List (Sq × Int)} (h : St A N w0 w (oB p T_Finder (Finder.C ⟨ta, ss, some m, lf, vs⟩) :: oT ta t :: oDStep ss st :: oMSq m mp :: L) Z) (ha : a = some ⟨p, 0, none⟩) : St A N w0 w (oF a ta ⟨t, st, mp, lf, vs⟩ :: L) Z := by
  have h1 : St A N w0 w (oDStep ss st :: oMSq m mp :: oB p T_Finder (Finder.C ⟨ta, ss, some m, lf, vs⟩) :: oT ta t :: L) Z := (h.front 3).front 3
  have h2 : St A N w0 w (oT ta t :: (oDStep ss st).star (oMSq m mp) :: oB p T_Finder (Finder.C ⟨ta, ss, some m, lf, vs⟩) :: L) Z := h1.star.front 2
  have h3 : St A N w0 w (oB p T_Finder (Finder.C ⟨ta, ss, some m, lf, vs⟩) :: (oT ta t).star ((oDStep ss st).star (oMSq m mp)) :: L) Z := h2.star.front 1
  exact St.toex (f := fun (q : Nat × SlV × Nat) => (OA.pure (a = some ⟨q.1, 0, none⟩)).star ((oB q.1 T_Finder (Finder.C ⟨ta, q.2.1, some q.2.2, lf, vs⟩)).star ((oT ta t).star ((oDStep q.2.1 st).star (oMSq q.2.2 mp))))) (p, ss, m) ((h3.star.putp ha).star)
end
section
variable {A : Nat → Prop} {N : Oth} {w0 w w' : World} {L Z : List OA}
end
end Go.Proofs.YtjjkhjieegmphaaDoor
end
section
namespace Go.Proofs.YtjjkhjieegmphaaDoor
open Gw
def search_finder_end.f (a0 : PFinder) (a1 : PStep) : Option (PFinder × Int × Int) :=
  chk (decide ((a0.steps.length + 1) * 184 ≤ 140737488355328)) (some ((⟨a0.t, a0.steps ++ [a1], Gw.ins a1.seq (a0.steps.length : Int) a0.at_, a0.left, a0.visits⟩ : PFinder), IntKind.i64.wrap (((a0.steps ++ [a1]).length : Int) - 1), 0))
def search_finder_choose.b1 (rec_search_finder_decide : PFinder → Sq → Option (PFinder × Int × Int)) (r38 : Tb × List Sq × Int) (i50 : Int) (x50_0 : PStep) (x50_1 : PFinder) (x50_2 : PStep) : Option (Stp (PStep × PFinder × PStep) (Stp (PStep × PFinder) (PFinder × Int × Int))) :=
  (rec_search_finder_decide x50_1 (at_ Sq.z r38.2.1 i50)).bind fun r62 => if decide (r62.2.2 ≠ 0) then some (.ret (.ret (r62.1, 0, r62.2.2))) else chk (decide ((x50_0.kids.length + ([r62.2.1]).length) * 8 ≤ 140737488355328)) (chk (inb r62.2.1 r62.1.steps.length) (if (at_ PStep.z r62.1.steps r62.2.1).proved then some (.go ((⟨x50_0.seq, x50_0.proved, x50_0.rule, x50_0.main, x50_0.kids ++ [r62.2.1]⟩ : PStep), r62.1, x50_2)) else if decide (i50 = 0) then chk (decide ((x50_2.kids.length + ([r62.2.1]).length) * 8 ≤ 140737488355328)) (some (.brk ((⟨x50_0.seq, false, x50_0.rule, x50_0.main, x50_0.kids ++ [r62.2.1]⟩ : PStep), r62.1, (⟨x50_2.seq, x50_2.proved, x50_2.rule, x50_2.main, x50_2.kids ++ [r62.2.1]⟩ : PStep)))) else (search_finder_end.f r62.1 (⟨x50_0.seq, false, x50_0.rule, x50_0.main, [r62.2.1]⟩ : PStep)).bind fun r92 => some (.ret (.ret (r92.1, r92.2.1, r92.2.2)))))
def search_finder_choose.b0 (r11 : List Int × List Int × Int) (a1 : Sq) (rec_search_finder_decide : PFinder → Sq → Option (PFinder × Int × Int)) (i22 : Int) (x22_0 : PStep) (x22_1 : PFinder) : Option (Stp (PStep × PFinder) (PFinder × Int × Int)) :=
  chk (inb i22 r11.2.1.length) ((rule_Premises.f x22_1.t a1 (at_ (0 : Int) r11.1 i22) (at_ (0 : Int) r11.2.1 i22)).bind fun r38 => if decide (r38.2.2 ≠ 0) then some (.ret ((⟨r38.1, x22_1.steps, x22_1.at_, x22_1.left, x22_1.visits⟩ : PFinder), 0, r38.2.2)) else chk (inb i22 r11.2.1.length) ((forN (fun i s => search_finder_choose.b1 rec_search_finder_decide r38 i s.1 s.2.1 s.2.2) ((r38.2.1.length : Int) - 0).toNat 0 ((⟨a1, true, at_ (0 : Int) r11.1 i22, at_ (0 : Int) r11.2.1 i22, ([] : List Int)⟩ : PStep), (⟨r38.1, x22_1.steps, x22_1.at_, x22_1.left, x22_1.visits⟩ : PFinder), x22_0)).bind (aft fun (s50 : PStep × PFinder × PStep) => if s50.1.proved then (search_finder_end.f s50.2.1 s50.1).bind fun r98 => some (.ret (r98.1, r98.2.1, r98.2.2)) else some (.go (s50.2.2, s50.2.1)))))
def search_finder_choose.g (rec_search_finder_decide : PFinder → Sq → Option (PFinder × Int × Int)) (a0 : PFinder) (a1 : Sq) : Option (PFinder × Int × Int) :=
  (rule_Choices.f a0.t a1).bind fun r11 => if decide (r11.2.2 ≠ 0) then some (a0, 0, r11.2.2) else (forN (fun i s => search_finder_choose.b0 r11 a1 rec_search_finder_decide i s.1 s.2) ((r11.1.length : Int) - 0).toNat 0 ((⟨a1, false, 14, 0, ([] : List Int)⟩ : PStep), a0)).bind (aft fun (s22 : PStep × PFinder) => (search_finder_end.f s22.2 s22.1).bind fun r103 => some (r103.1, r103.2.1, r103.2.2))
def search_finder_decide.b0 (rec_search_finder_decide : PFinder → Sq → Option (PFinder × Int × Int)) (r43 : Tb × List Sq × Int) (a1 : Sq) (r28 : Int × Int × Int) (i53 : Int) (x53_0 : PStep) (x53_1 : PFinder) : Option (Stp (PStep × PFinder) (PFinder × Int × Int)) :=
  (rec_search_finder_decide x53_1 (at_ Sq.z r43.2.1 i53)).bind fun r62 => if decide (r62.2.2 ≠ 0) then some (.ret (r62.1, 0, r62.2.2)) else chk (inb r62.2.1 r62.1.steps.length) (if !((at_ PStep.z r62.1.steps r62.2.1).proved) then (search_finder_end.f r62.1 (⟨a1, false, r28.1, r28.2.1, [r62.2.1]⟩ : PStep)).bind fun r75 => some (.ret (r75.1, r75.2.1, r75.2.2)) else chk (decide ((x53_0.kids.length + ([r62.2.1]).length) * 8 ≤ 140737488355328)) (some (.go ((⟨x53_0.seq, x53_0.proved, x53_0.rule, x53_0.main, x53_0.kids ++ [r62.2.1]⟩ : PStep), r62.1))))
def search_finder_decide.g (rec_search_finder_decide : PFinder → Sq → Option (PFinder × Int × Int)) (a0 : PFinder) (a1 : Sq) : Option (PFinder × Int × Int) :=
  if (Gw.look a1 a0.at_).isSome then some (a0, (Gw.look a1 a0.at_).getD 0, 0) else if decide (a0.left = 0) then some (a0, 0, 110) else (rule_Apply.f a0.t a1).bind fun r28 => if decide (r28.2.2 ≠ 0) then some ((⟨a0.t, a0.steps, a0.at_, IntKind.i64.wrap (a0.left - 1), IntKind.i64.wrap (a0.visits + 1)⟩ : PFinder), 0, r28.2.2) else if decide (r28.1 = 14) then (search_finder_choose.g rec_search_finder_decide (⟨a0.t, a0.steps, a0.at_, IntKind.i64.wrap (a0.left - 1), IntKind.i64.wrap (a0.visits + 1)⟩ : PFinder) a1).bind fun r32 => some (r32.1, r32.2.1, r32.2.2) else (rule_Premises.f a0.t a1 r28.1 r28.2.1).bind fun r43 => if decide (r43.2.2 ≠ 0) then some ((⟨r43.1, a0.steps, a0.at_, IntKind.i64.wrap (a0.left - 1), IntKind.i64.wrap (a0.visits + 1)⟩ : PFinder), 0, r43.2.2) else (forN (fun i s => search_finder_decide.b0 rec_search_finder_decide r43 a1 r28 i s.1 s.2) ((r43.2.1.length : Int) - 0).toNat 0 ((⟨a1, true, r28.1, r28.2.1, ([] : List Int)⟩ : PStep), (⟨r43.1, a0.steps, a0.at_, IntKind.i64.wrap (a0.left - 1), IntKind.i64.wrap (a0.visits + 1)⟩ : PFinder))).bind (aft fun (s53 : PStep × PFinder) => (search_finder_end.f s53.2 s53.1).bind fun r87 => some (r87.1, r87.2.1, r87.2.2))
def search_finder_decide.f : Nat → PFinder → Sq → Option (PFinder × Int × Int)
  | 0 => fun _ _ => none
  | k + 1 => search_finder_decide.g (search_finder_decide.f k)
def search_Run.b0 (a0 : Tb) (i18 : Int) (x18_0 : Int) (x18_1 : PFound) : Option (Stp (Int × PFound) (Int × PFound)) :=
  (formula_Table_Len.f a0).bind fun r20 => if decide (r20 ≤ i18) then some (.ret (31, (⟨false, ([] : List PStep), 0⟩ : PFound))) else some (.go (x18_0, x18_1))
def search_Run.f (k : Nat) (a0 : Tb) (a1 : Sq) (a2 : Int) : Option (Tb × PFound × Int) :=
  (formula_Table_Not_neg.f a0 (-1)).bind fun r9 => if decide (r9.2 = 1) then some (a0, (⟨false, ([] : List PStep), 0⟩ : PFound), r9.2) else chk a1.left.okB ((forE (fun (x : Nat) (s : Int × PFound) => search_Run.b0 a0 (x : Int) s.1 s.2) (Bits.list a1.left) (0, (⟨false, ([] : List PStep), 0⟩ : PFound))).bind (fin (fun (s18 : Int × PFound) => (if (!(decide (a1.goal < 0))) then formula_Table_Len.f a0 else some 0).bind fun r28 => if (decide (a1.goal < 0)) || (decide (r28 ≤ a1.goal)) then some (a0, (⟨false, ([] : List PStep), 0⟩ : PFound), 31) else if (decide (a2 < 1)) || (decide (4096 < a2)) then some (a0, (⟨false, ([] : List PStep), 0⟩ : PFound), 2) else (formula_Table_Len.f a0).bind fun r38 => (search_finder_decide.f k (⟨a0, ([] : List PStep), ([] : List (Sq × Int)), a2, 0⟩ : PFinder) a1).bind fun r45 => if decide (r45.2.2 ≠ 0) then (formula_Table_Cut.f r45.1.t r38).bind fun r53 => some (r53.1, (⟨false, ([] : List PStep), 0⟩ : PFound), r45.2.2) else chk (inb r45.2.1 r45.1.steps.length) (some (r45.1.t, (⟨(at_ PStep.z r45.1.steps r45.2.1).proved, r45.1.steps, r45.1.visits⟩ : PFound), 0))) (fun (s18 : Int × PFound) => some (a0, s18.2, s18.1))))
end Go.Proofs.YtjjkhjieegmphaaDoor
end
section
namespace Go.Proofs.YtjjkhjieegmphaaDoor
open Gw
def formula_From.b0 (a0 : List Nd) (i5 : Int) (x5_0 : Tb) : Option (Stp Tb (Tb × Int)) :=
  (formula_Table_Put.f x5_0 (at_ Nd.z a0 i5)).bind fun r11 => if (decide (r11.2.2 = 0)) && (decide (r11.2.1 ≠ i5)) then if decide (31 ≠ 0) then some (.ret (none, 31)) else some (.go r11.1) else if decide (r11.2.2 ≠ 0) then some (.ret (none, r11.2.2)) else some (.go r11.1)
def formula_From.f (a0 : List Nd) : Option (Tb × Int) :=
  (formula_New.f).bind fun r1 => (forN (fun i s => formula_From.b0 a0 i s) ((a0.length : Int) - 0).toNat 0 r1).bind (aft fun (s5 : Tb) => some (s5, 0))
end Go.Proofs.YtjjkhjieegmphaaDoor
end
section
namespace Go.Proofs.YtjjkhjieegmphaaDoor
open Gw
def ref03_Ints.b0 (a1 : List Int) (a0 : List Int) (i2 : Int) : Option (Stp Unit Bool) :=
  chk (inb i2 a1.length) (if decide (at_ (0 : Int) a0 i2 ≠ at_ (0 : Int) a1 i2) then some (.ret false) else some (.go ()))
def ref03_Ints.f (a0 : List Int) (a1 : List Int) : Option Bool :=
  if decide ((a0.length : Int) ≠ (a1.length : Int)) then some false else (forN (fun i s => ref03_Ints.b0 a1 a0 i) ((a0.length : Int) - 0).toNat 0 ()).bind (aft fun (s2 : Unit) => some true)
def ref03_T_Has.f (a0 : Tb) (a1 : Int) : Option Bool :=
  chk a0.isSome (some ((decide (0 ≤ a1)) && (decide (a1 < ((a0.getD []).length : Int)))))
def ref03_T_Find.b0 (a0 : Tb) (a1 : Nd) (i4 : Int) : Option (Stp Unit (Int × Bool)) :=
  if decide (at_ Nd.z (a0.getD []) i4 = a1) then some (.ret (i4, true)) else some (.go ())
def ref03_T_Find.f (a0 : Tb) (a1 : Nd) : Option (Int × Bool) :=
  chk a0.isSome ((forN (fun i s => ref03_T_Find.b0 a0 a1 i) (((a0.getD []).length : Int) - 0).toNat 0 ()).bind (aft fun (s4 : Unit) => some (0, false)))
def ref03_T_Put.f (a0 : Tb) (a1 : Nd) : Option (Tb × Int × Int) :=
  (if decide (a1.kind = 1) then if (decide (a1.l ≠ 0)) || (decide (a1.r ≠ 0)) then some (.inr (a0, 0, 31)) else (ref03_Word.f a1.name).bind fun r6 => if !r6 then some (.inr (a0, 0, 32)) else some (.inl a0) else if decide (a1.kind = 2) then if ((decide (a1.name ≠ (⟨#[]⟩ : ByteArray))) || (decide (a1.l ≠ 0))) || (decide (a1.r ≠ 0)) then some (.inr (a0, 0, 31)) else some (.inl a0) else (if decide (a1.kind = 3) then some (decide (a1.kind = 3)) else if decide (a1.kind = 4) then some (decide (a1.kind = 4)) else some (decide (a1.kind = 5))).bind fun (o12 : Bool) => if o12 then (if (!(decide (a1.name ≠ (⟨#[]⟩ : ByteArray)))) then ref03_T_Has.f a0 a1.l else some false).bind fun r18 => (if (!((decide (a1.name ≠ (⟨#[]⟩ : ByteArray))) || (!r18))) then ref03_T_Has.f a0 a1.r else some false).bind fun r20 => if ((decide (a1.name ≠ (⟨#[]⟩ : ByteArray))) || (!r18)) || (!r20) then some (.inr (a0, 0, 31)) else some (.inl a0) else some (.inr (a0, 0, 31))).bind (aft fun (s3 : Tb) => (ref03_T_Find.f s3 a1).bind fun r25 => if r25.2 then some (s3, r25.1, 0) else chk s3.isSome (if decide (1024 ≤ ((s3.getD []).length : Int)) then some ((some (s3.getD [])), 0, 30) else chk (decide (((s3.getD []).length + 1) * 40 ≤ 140737488355328)) (some ((some ((s3.getD []) ++ [a1])), IntKind.i64.wrap ((((s3.getD []) ++ [a1]).length : Int) - 1), 0))))
def ref09_kind.f (a0 : Tb) (a1 : Int) : Option Int :=
  chk a0.isSome (chk (inb a1 (a0.getD []).length) (some ((at_ Nd.z (a0.getD []) a1).kind)))
def ref09_Fits.f (a0 : Tb) (a1 : Sq) (a2 : Int) (a3 : Int) : Option Bool :=
  (ref03_T_Has.f a0 a3).bind fun r3 => if !r3 then some false else chk a0.isSome (chk (inb a3 (a0.getD []).length) ((ref05_Has.f a1.left a3).bind fun r15 => if decide (a2 = 1) then some (r15 && (decide ((at_ Nd.z (a0.getD []) a3).kind = 2))) else if decide (a2 = 2) then some (r15 && (decide (a3 = a1.goal))) else if decide (a2 = 3) then some (r15 && (decide ((at_ Nd.z (a0.getD []) a3).kind = 3))) else if decide (a2 = 4) then (if (r15 && (decide ((at_ Nd.z (a0.getD []) a3).kind = 5))) then ref09_kind.f a0 ((at_ Nd.z (a0.getD []) a3).l) else some 0).bind fun r22 => (if ((r15 && (decide ((at_ Nd.z (a0.getD []) a3).kind = 5))) && (decide (r22 = 1))) then ref05_Has.f a1.left ((at_ Nd.z (a0.getD []) a3).l) else some false).bind fun r24 => some (((r15 && (decide ((at_ Nd.z (a0.getD []) a3).kind = 5))) && (decide (r22 = 1))) && r24) else if decide (a2 = 5) then (if (r15 && (decide ((at_ Nd.z (a0.getD []) a3).kind = 5))) then ref09_kind.f a0 ((at_ Nd.z (a0.getD []) a3).l) else some 0).bind fun r27 => some ((r15 && (decide ((at_ Nd.z (a0.getD []) a3).kind = 5))) && (decide (r27 = 2))) else if decide (a2 = 6) then (if (r15 && (decide ((at_ Nd.z (a0.getD []) a3).kind = 5))) then ref09_kind.f a0 ((at_ Nd.z (a0.getD []) a3).l) else some 0).bind fun r30 => some ((r15 && (decide ((at_ Nd.z (a0.getD []) a3).kind = 5))) && (decide (r30 = 3))) else if decide (a2 = 7) then (if (r15 && (decide ((at_ Nd.z (a0.getD []) a3).kind = 5))) then ref09_kind.f a0 ((at_ Nd.z (a0.getD []) a3).l) else some 0).bind fun r33 => some ((r15 && (decide ((at_ Nd.z (a0.getD []) a3).kind = 5))) && (decide (r33 = 4))) else if decide (a2 = 8) then some ((decide (a3 = a1.goal)) && (decide ((at_ Nd.z (a0.getD []) a3).kind = 5))) else if decide (a2 = 9) then some ((decide (a3 = a1.goal)) && (decide ((at_ Nd.z (a0.getD []) a3).kind = 3))) else if decide (a2 = 10) then some (r15 && (decide ((at_ Nd.z (a0.getD []) a3).kind = 4))) else (if decide (a2 = 11) then some (decide (a2 = 11)) else some (decide (a2 = 12))).bind fun (o38 : Bool) => if o38 then some ((decide (a3 = a1.goal)) && (decide ((at_ Nd.z (a0.getD []) a3).kind = 4))) else if decide (a2 = 13) then (if (r15 && (decide ((at_ Nd.z (a0.getD []) a3).kind = 5))) then ref09_kind.f a0 ((at_ Nd.z (a0.getD []) a3).l) else some 0).bind fun r44 => some ((r15 && (decide ((at_ Nd.z (a0.getD []) a3).kind = 5))) && (decide (r44 = 5))) else some false))
def ref09_Right.b0 (a0 : Tb) (r3 : List Int) (i7 : Int) : Option (Stp Unit Bool) :=
  (ref03_T_Has.f a0 (at_ (0 : Int) r3 i7)).bind fun r10 => if !r10 then some (.ret false) else some (.go ())
def ref09_Right.f (a0 : Tb) (a1 : Sq) : Option Bool :=
  (ref05_List.f a1.left).bind fun r3 => (forN (fun i s => ref09_Right.b0 a0 r3 i) ((r3.length : Int) - 0).toNat 0 ()).bind (aft fun (s7 : Unit) => (ref03_T_Has.f a0 a1.goal).bind fun r16 => some r16)
def ref03_From.b0 (a0 : List Nd) (i3 : Int) (x3_0 : Tb) : Option (Stp Tb (Tb × Int)) :=
  (ref03_T_Put.f x3_0 (at_ Nd.z a0 i3)).bind fun r6 => if decide (r6.2.2 ≠ 0) then some (.ret (none, r6.2.2)) else if decide (r6.2.1 ≠ i3) then some (.ret (none, 31)) else some (.go r6.1)
def ref03_From.f (a0 : List Nd) : Option (Tb × Int) :=
  (forN (fun i s => ref03_From.b0 a0 i s) ((a0.length : Int) - 0).toNat 0 (some [])).bind (aft fun (s3 : Tb) => some (s3, 0))
def law03_Both.f (a0 : List Nd) : Option (Tb × Tb × Bool) :=
  chk (decide ((([] : List Nd).length + a0.length) * 40 ≤ 140737488355328)) ((ref03_From.f a0).bind fun r7 => if decide (r7.2 ≠ 0) then some (none, none, false) else (formula_From.f (([] : List Nd) ++ a0)).bind fun r12 => some (r12.1, r7.1, true))
end Go.Proofs.YtjjkhjieegmphaaDoor
end
section
namespace Go.Proofs.YtjjkhjieegmphaaDoor
open Gw
def law11_heads.f (k : Nat)  : Option Bool :=
  (formula_From.f ([{ Nd.z with kind := 1, name := (⟨#[112]⟩ : ByteArray) }, { Nd.z with kind := 1, name := (⟨#[113]⟩ : ByteArray) }, { Nd.z with kind := 2 }, { Nd.z with kind := 4, l := 0, r := 1 }, { Nd.z with kind := 5, l := 0, r := 2 }, { Nd.z with kind := 4, l := 0, r := 4 }])).bind fun r4 => (search_Run.f k r4.1 ({ Sq.z with goal := 5 }) 4).bind fun r8 => (search_Run.f k r8.1 ({ Sq.z with goal := 5 }) 3).bind fun r15 => (search_Run.f k r15.1 (⟨Bits.put Bits.z 0 1, 3⟩ : Sq) 9).bind fun r22 => if ((((((((decide (r4.2 ≠ 0)) || (decide (r8.2.2 ≠ 0))) || (decide (r15.2.2 ≠ 110))) || (decide (r22.2.2 ≠ 0))) || r8.2.1.proved) || (decide (r8.2.1.visits ≠ 4))) || (decide ((r8.2.1.steps.length : Int) ≠ 4))) || (!r22.2.1.proved)) || (decide ((r22.2.1.steps.length : Int) ≠ 2)) then some false else chk (inb 2 r8.2.1.steps.length) (chk (!(decide ((at_ PStep.z r8.2.1.steps 2).rule = 8)) || (inb 2 r8.2.1.steps.length)) (chk (decide ((at_ PStep.z r8.2.1.steps 2).rule = 8)) (chk (decide ((at_ PStep.z r8.2.1.steps 2).rule = 8)) ((if (decide ((at_ PStep.z r8.2.1.steps 2).rule = 8)) then ref03_Ints.f ((at_ PStep.z r8.2.1.steps 2).kids) ([1]) else some false).bind fun r39 => chk (!((decide ((at_ PStep.z r8.2.1.steps 2).rule = 8)) && r39) || (inb 3 r8.2.1.steps.length)) (chk (!(((decide ((at_ PStep.z r8.2.1.steps 2).rule = 8)) && r39) && (decide ((at_ PStep.z r8.2.1.steps 3).rule = 14))) || (inb 3 r8.2.1.steps.length)) (chk (((decide ((at_ PStep.z r8.2.1.steps 2).rule = 8)) && r39) && (decide ((at_ PStep.z r8.2.1.steps 3).rule = 14))) (chk (((decide ((at_ PStep.z r8.2.1.steps 2).rule = 8)) && r39) && (decide ((at_ PStep.z r8.2.1.steps 3).rule = 14))) ((if (((decide ((at_ PStep.z r8.2.1.steps 2).rule = 8)) && r39) && (decide ((at_ PStep.z r8.2.1.steps 3).rule = 14))) then ref03_Ints.f ((at_ PStep.z r8.2.1.steps 3).kids) ([0, 2]) else some false).bind fun r50 => chk (!((((decide ((at_ PStep.z r8.2.1.steps 2).rule = 8)) && r39) && (decide ((at_ PStep.z r8.2.1.steps 3).rule = 14))) && r50) || (inb 1 r22.2.1.steps.length)) (some (((((decide ((at_ PStep.z r8.2.1.steps 2).rule = 8)) && r39) && (decide ((at_ PStep.z r8.2.1.steps 3).rule = 14))) && r50) && (decide ((at_ PStep.z r22.2.1.steps 1).rule = 11))))))))))))
def law11_told.f (k : Nat) (a0 : Tb) (a1 : Sq) : Option (Tb × Int) :=
  (search_Run.f k a0 a1 4096).bind fun r3 => if decide (r3.2.2 ≠ 0) then some (r3.1, (-1)) else if r3.2.1.proved then some (r3.1, 1) else some (r3.1, 0)
def law11_with.f (a0 : Sq) (a1 : Int) : Option (Sq × Bool) :=
  (ref05_Put.f a0.left a1).bind fun r5 => some ({ a0 with left := r5.1 }, decide (r5.2 = 0))
end Go.Proofs.YtjjkhjieegmphaaDoor
end
section
namespace Go.Proofs.YtjjkhjieegmphaaDoor
open Gw
def law11_SearchWeaker.f (k : Nat) (a0 : List Nd) (a1 : Sq) (a2 : Int) : Option Bool :=
  (law03_Both.f a0).bind fun r3 => (law11_with.f a1 a2).bind fun r8 => (if (!((!r3.2.2) || (!r8.2))) then ref09_Right.f r3.2.1 r8.1 else some false).bind fun r14 => if ((!r3.2.2) || (!r8.2)) || (!r14) then (law11_heads.f k).bind fun r17 => some r17 else (law11_told.f k r3.1 a1).bind fun r20 => (law11_told.f k r20.1 r8.1).bind fun r23 => (if ((decide (r20.2 ≠ 1)) || (decide (r23.2 ≠ 0))) then law11_heads.f k else some false).bind fun r26 => some (((decide (r20.2 ≠ 1)) || (decide (r23.2 ≠ 0))) && r26)
end Go.Proofs.YtjjkhjieegmphaaDoor
end
