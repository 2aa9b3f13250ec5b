/- Regions that draw their order, cut into segments at operations that come behind all ahead of them: each segment is shown by itself. -/
import Derived.Test.YtjjkhjieegmphaaDoorGwSemi
namespace Go.Proofs.YtjjkhjieegmphaaDoor
open Go.RowKit
namespace Gw
set_option linter.unusedVariables false
/-- the first lo operations are over: the others bring about Q -/
def ws (P : Program) (rd : Option Nat) (n : Nat) (dm : List Nat) (l : List Oper) (lo : Nat) (Q : Post) (f : Fr) (w : World) : Prop :=
  ∀ (a : Act) (listed : Array Bool), Is n dm a f → listed.size = l.length → Closed l.toArray listed → (∀ j, j < l.length → (listed.getD j false = true ↔ j < lo)) → wpAnyIn (fen rd) 0 P .any l.toArray (lift n Q) (l.length - lo) listed a w
def drawS (ops : Array Oper) (m : Nat) : Bool :=
  (ops.toList.take m).all (fun o => o.dst.isSome) &&
  decide (((ops.toList.take m).filterMap (·.dst)).Nodup) &&
  ops.toList.zipIdx.all (fun q => q.1.after.toList.all fun e => !Region.binds .any e || decide (e.on < q.2)) &&
  ops.toList.zipIdx.all (fun q => decide (q.2 < m) || (List.range m).all fun i => ((Region.before ops).getD q.2 0).testBit i) &&
  decide (m ≤ ops.size)
/-- between lo and hi each operation comes behind all ahead of it; those behind come behind them all -/
def chainS (ops : Array Oper) (lo hi : Nat) : Bool :=
  ops.toList.zipIdx.all (fun q => q.1.after.toList.all fun e => !Region.binds .any e || decide (e.on < q.2)) &&
  ops.toList.zipIdx.all (fun q => decide (q.2 < lo) || (List.range (min q.2 hi)).all fun i => ((Region.before ops).getD q.2 0).testBit i) &&
  decide (hi ≤ ops.size)
theorem cnt_pre (listed : Array Bool) (m n : Nat) (hmn : m ≤ n) (h1 : ∀ j, j < m → listed.getD j false = true) (h2 : ∀ j, m ≤ j → j < n → listed.getD j false = false) : cnt listed n = m := by
  have hz : ∀ k, m ≤ k → k ≤ n → cnt listed k = m := by
    intro k
    induction k with
    | zero => intro h _; rw [show m = 0 by omega]; rfl
    | succ k ihk =>
      intro h3 h4
      by_cases hk : m ≤ k
      · rw [cnt_succ, ihk hk (by omega), h2 k hk (by omega)]; simp
      · have : k + 1 = m := by omega
        rw [this]
        exact cnt_all listed m h1
  exact hz n hmn (Nat.le_refl _)
section
variable {P : Program} {rd : Option Nat} {n m : Nat} {dm : List Nat} {ops : Array Oper} {Q : Post} {f : Fr} {w : World}
theorem wc_ws {id : Nat} {l : List Oper} (hm : P.follows .mixedOrders = true) (h : ∀ w', Ext w w' → ws P rd n dm l 0 Q f w') : wc P rd n dm (.region id l.toArray true) Q f w := by
  intro a ha
  refine wpIn_region_any hm ?_
  have := h _ (Ext.drawn w) a (Array.replicate l.toArray.size false) ha (by simp) (by intro j o _ h; rw [repl_false] at h; cases h) (by intro j _; rw [repl_false]; simp)
  simpa using this
theorem back_of {l : List Oper} (hback : ∀ q ∈ l.toArray.toList.zipIdx, (q.1.after.toList.all fun e => !Region.binds .any e || decide (e.on < q.2)) = true) : Back l.toArray := by
  intro i o hi e he hbd
  have := List.all_eq_true.1 (hback (o, i) (by
    rw [List.mem_zipIdx_iff_getElem?]
    simpa using hi)) e (by simpa using he)
  simp only [hbd, Bool.not_true, Bool.false_or, decide_eq_true_eq] at this
  exact this
theorem ord_of {l : List Oper} {k j : Nat} (hk : k < l.length) (h2 : ((Region.before l.toArray).getD k 0).testBit j = true) {listed : Array Bool} (hr : k ∈ Region.ready .any l.toArray listed) (hc : Closed l.toArray listed) : listed.getD j false = true := by
  rw [mem_ready] at hr
  obtain ⟨_, o, ho', hall⟩ := hr
  refine before_sound hc [] #[] rfl (by simp) (by simp) l.toArray.toList (by simp) k (by simpa using hk) j ?_ ?_
  · unfold Region.before at h2
    rw [← Array.foldl_toList] at h2
    exact h2
  · rw [ho']
    simpa using hall
/-- a segment in the text's order -/
theorem ws_chain {l : List Oper} (lo hi : Nat) (hB : chainS l.toArray lo hi = true) (hlh : lo ≤ hi) (h : wl P rd n dm l.toArray ((l.take hi).drop lo) (fun dm' e f' w' => e = .normal ∧ ws P rd n dm' l hi Q f' w') f w) : ws P rd n dm l lo Q f w := by
  simp only [chainS, Bool.and_eq_true, decide_eq_true_eq] at hB
  obtain ⟨⟨hback, htail⟩, hhi⟩ := hB
  rw [List.all_eq_true] at hback htail
  simp only [List.size_toArray] at hhi
  have hb : Back l.toArray := back_of hback
  have hord : ∀ k, lo ≤ k → k < l.length → ∀ listed : Array Bool, k ∈ Region.ready .any l.toArray listed → Closed l.toArray listed → ∀ j, j < k → j < hi → listed.getD j false = true := by
    intro k hmk hk listed hr hc j hj hjh
    have h1 := htail (l[k], k) (by
      rw [List.mem_zipIdx_iff_getElem?]
      simp)
    simp only [Bool.or_eq_true, decide_eq_true_eq] at h1
    rcases h1 with h1 | h1
    · omega
    · rw [List.all_eq_true] at h1
      exact ord_of hk (h1 j (by simp; omega)) hr hc
  intro a listed ha hs hc hl
  have hR := h a ha
  clear h
  have main : ∀ (fuel k : Nat) (listed : Array Bool) (a : Act) (w : World), lo ≤ k → k ≤ hi → listed.size = l.length → Closed l.toArray listed → (∀ j, j < l.length → (listed.getD j false = true ↔ j < k)) → fuel + k = hi →
      wpListIn (fen rd) 0 P l.toArray (lift n (fun dm' e f' w' => e = .normal ∧ ws P rd n dm' l hi Q f' w')) ((l.take hi).drop k) a w → wpAnyIn (fen rd) 0 P .any l.toArray (lift n Q) (l.length - k) listed a w := by
    intro fuel
    induction fuel with
    | zero =>
      intro k listed a w hlk hkh hs hc hl hf h
      have : k = hi := by omega
      subst this
      rw [List.drop_eq_nil_of_le (by simp; omega)] at h
      obtain ⟨dm', f', ha', _, hws⟩ := h
      exact hws a listed ha' hs hc hl
    | succ fuel ih =>
      intro k listed a w hlk hkh hs hc hl hf h
      have hs' : listed.size = l.toArray.size := by simpa using hs
      have hkl : k < l.length := by omega
      have hd : (l.take hi).drop k = l[k] :: (l.take hi).drop (k + 1) := by
        rw [List.drop_eq_getElem_cons (by simp; omega)]
        simp
      rw [hd] at h
      rw [show l.length - k = (l.length - (k + 1)) + 1 by omega]
      refine ⟨fun hr => ?_, fun i hi' => ?_⟩
      · have := ready_nil hb hs' hr k (by simpa using hkl)
        rw [hl k hkl] at this
        omega
      · obtain ⟨h1, h2⟩ := ready_lt hs' hi'
        have h1' : i < l.length := by simpa using h1
        have hge : k ≤ i := by
          refine Nat.le_of_not_lt fun hlt => ?_
          rw [(hl i h1').2 hlt] at h2
          cases h2
        have hik : i = k := by
          by_cases hki : k < i
          · have := hord i (by omega) h1' listed hi' hc k hki (by omega)
            rw [hl k hkl] at this
            omega
          · omega
        subst hik
        have h' := wpOp_of_wpList (i := i) (o := l[i]) (by simp) h
        have hr' : ∀ e a w, lift n (fun dm' e f' w' => e = .normal ∧ ws P rd n dm' l hi Q f' w') e a w → e = .normal := by
          rintro e a w ⟨_, _, _, he, _⟩; exact he
        unfold wpOpIn at h' ⊢
        rw [show l.toArray[i]? = some l[i] by simp] at h' ⊢
        have hstep : ∀ a' w', wpListIn (fen rd) 0 P l.toArray (lift n (fun dm' e f' w' => e = .normal ∧ ws P rd n dm' l hi Q f' w')) ((l.take hi).drop (i + 1)) a' w' → wpAnyIn (fen rd) 0 P .any l.toArray (lift n Q) (l.length - (i + 1)) (listed.setIfInBounds i true) a' w' := by
          intro a' w' h''
          refine ih (i + 1) _ a' w' (by omega) (by omega) (by simpa using hs) (hc.set hs' hi') (fun j hj => ?_) (by omega) h''
          rw [getD_set _ _ _ (by omega)]
          by_cases hij : i = j
          · subst hij; simp
          · rw [if_neg hij, hl j hj]
            omega
        show if _ then _ else _
        have h' : if _ then _ else _ := h'
        split at h'
        · rename_i hw
          rw [if_pos hw]
          exact upon_mono2 hstep (fun e a w he q => absurd (hr' e a w q) he) h'
        · rename_i hw
          rw [if_neg hw]
          exact ⟨h'.1, hstep _ _ h'.2⟩
  exact main (hi - lo) lo listed a w (Nat.le_refl _) hlh hs hc hl (by omega) hR
/-- the end, in the text's order -/
theorem ws_tail {l : List Oper} (lo : Nat) (hB : chainS l.toArray lo l.length = true) (hlo : lo ≤ l.length) (h : wl P rd n dm l.toArray (l.drop lo) Q f w) : ws P rd n dm l lo Q f w := by
  simp only [chainS, Bool.and_eq_true, decide_eq_true_eq] at hB
  obtain ⟨⟨hback, htail⟩, hhi⟩ := hB
  rw [List.all_eq_true] at hback htail
  have hb : Back l.toArray := back_of hback
  have hord : ∀ k, lo ≤ k → k < l.toArray.size → ∀ listed : Array Bool, listed.size = l.toArray.size → k ∈ Region.ready .any l.toArray listed → Closed l.toArray listed → ∀ j, j < k → listed.getD j false = true := by
    intro k hmk hk listed _ hr hc j hj
    have hkl : k < l.length := by simpa using hk
    have h1 := htail (l[k], k) (by
      rw [List.mem_zipIdx_iff_getElem?]
      simp)
    simp only [Bool.or_eq_true, decide_eq_true_eq] at h1
    rcases h1 with h1 | h1
    · omega
    · rw [List.all_eq_true] at h1
      exact ord_of hkl (h1 j (by simp; omega)) hr hc
  intro a listed ha hs hc hl
  exact any_tail (rd := rd) (P := P) (m := lo) (R := lift n Q) hb hord (l.length - lo) lo listed a w (Nat.le_refl _) (by simpa using hs) hc (by simpa using hl) (by simp; omega) (h a ha)
/-- a segment in any order -/
theorem ws_draw {l : List Oper} (lo m : Nat) (D : Draw) (hB : drawS l.toArray m = true) (hlm : lo ≤ m)
    (hst : ∀ L i v w w', L i = true → D.Le L w w' → D.V i v w → D.V i v w') (hT : D.T (fun j => decide (j < lo)) w) (hV0 : ∀ j o, j < lo → l[j]? = some o → D.V j (f (o.dst.getD 0)) w)
    (ho : Owes P rd n dm l.toArray ((l.take m).filterMap (·.dst)) D f (l.take m) 0)
    (hq : ∀ L g w, (∀ j, L j = decide (j < m)) → D.T L w → allV D g w (l.take m) 0 (ws P rd n dm l m Q (mask ((l.take m).filterMap (·.dst)) g f) w)) : ws P rd n dm l lo Q f w := by
  intro a listed0 ha hs0 hc0 hl0
  simp only [drawS, Bool.and_eq_true, decide_eq_true_eq, List.all_eq_true] at hB
  obtain ⟨⟨⟨⟨hsome, hnd⟩, hback⟩, htail⟩, hml⟩ := hB
  simp only [List.size_toArray] at hml
  generalize hds : (l.take m).filterMap (·.dst) = ds at *
  have hb : Back l.toArray := by
    intro i o hi e he hbd
    have := hback (o, i) (by
      rw [List.mem_zipIdx_iff_getElem?]
      simpa using hi) e (by simpa using he)
    simp only [hbd, Bool.not_true, Bool.false_or, decide_eq_true_eq] at this
    exact this
  have hord : ∀ k, m ≤ k → k < l.toArray.size → ∀ listed : Array Bool, listed.size = l.toArray.size → k ∈ Region.ready .any l.toArray listed → Closed l.toArray listed → ∀ j, j < m → listed.getD j false = true := by
    intro k hmk hk listed hs hr hc j hj
    have hkl : k < l.length := by simpa using hk
    have h1 := htail (l[k], k) (by
      rw [List.mem_zipIdx_iff_getElem?]
      simp)
    simp only [Bool.or_eq_true, decide_eq_true_eq] at h1
    rcases h1 with h1 | h1
    · omega
    · rw [List.all_eq_true] at h1
      have h2 := h1 j (by simpa using hj)
      rw [mem_ready] at hr
      obtain ⟨_, o, ho', hall⟩ := hr
      refine before_sound hc [] #[] rfl (by simp) (by simp) l.toArray.toList (by simp) k hk j ?_ ?_
      · unfold Region.before at h2
        rw [← Array.foldl_toList] at h2
        exact h2
      · rw [ho']
        simpa using hall
  have hmd : ∀ j o, (l.take m)[j]? = some o → j < m ∧ l.toArray[j]? = some o ∧ ∃ d, o.dst = some d ∧ d ∈ ds := by
    intro j o hj
    have hjm : j < m := by
      have := (List.getElem?_eq_some_iff.1 hj).1
      simp at this; omega
    have hjo : l[j]? = some o := by rw [List.getElem?_take] at hj; simpa [hjm] using hj
    have hso := hsome o (List.mem_of_getElem? hj)
    cases hd : o.dst with
    | none => rw [hd] at hso; simp at hso
    | some d => exact ⟨hjm, by simpa using hjo, d, rfl, by rw [← hds]; exact List.mem_filterMap.2 ⟨o, List.mem_of_getElem? hj, hd⟩⟩
  have hinj : ∀ (i j : Nat) (oi oj : Oper) (d : Nat), (l.take m)[i]? = some oi → (l.take m)[j]? = some oj → oi.dst = some d → oj.dst = some d → i = j := by
    have hgen : ∀ (L : List Oper), (L.filterMap (·.dst)).Nodup → ∀ (i j : Nat) (oi oj : Oper) (d : Nat), L[i]? = some oi → L[j]? = some oj → oi.dst = some d → oj.dst = some d → i = j := by
      intro L
      induction L with
      | nil => intro _ i j oi oj d h; simp at h
      | cons o L ih =>
        intro hn i j oi oj d hi hj hdi hdj
        have hn' : (L.filterMap (·.dst)).Nodup := by
          rw [List.filterMap_cons] at hn
          split at hn
          · exact hn
          · exact (List.nodup_cons.1 hn).2
        have hno : ∀ (k : Nat) (ok : Oper) (dd : Nat), L[k]? = some ok → o.dst = some dd → ok.dst ≠ some dd := by
          intro k ok dd hk hod hkd
          rw [List.filterMap_cons, hod] at hn
          exact (List.nodup_cons.1 hn).1 (List.mem_filterMap.2 ⟨ok, List.mem_of_getElem? hk, hkd⟩)
        cases i with
        | zero =>
          cases j with
          | zero => rfl
          | succ j => simp at hi; subst hi; exact absurd hdj (hno j oj d (by simpa using hj) hdi)
        | succ i =>
          cases j with
          | zero => simp at hj; subst hj; exact absurd hdi (hno i oi d (by simpa using hi) hdj)
          | succ j => rw [ih hn' i j oi oj d (by simpa using hi) (by simpa using hj) hdi hdj]
    exact hgen _ (by rw [hds]; exact hnd)
  have main : ∀ (fuel : Nat) (listed : Array Bool) (g : Fr) (a : Act) (w : World), listed.size = l.length → fuel + cnt listed l.length = l.length → Closed l.toArray listed → (∀ j, m ≤ j → j < l.length → listed.getD j false = false) →
      Is n dm a (mask ds g f) → D.T (fun j => listed.getD j false) w → (∀ j o, (l.take m)[j]? = some o → listed.getD j false = true → D.V j (g (o.dst.getD 0)) w) → wpAnyIn (fen rd) 0 P .any l.toArray (lift n Q) fuel listed a w := by
    intro fuel
    induction fuel with
    | zero =>
      intro listed g a w hs hcnt hc hno ha hT hV
      have hall := cnt_full listed l.length (by omega)
      have hm' : m = l.length := by
        by_cases h : m < l.length
        · have := hno m (Nat.le_refl _) h
          rw [hall m h] at this
          cases this
        · omega
      have hfin := allV_elim (l.take m) 0 (fun j o hj => by rw [Nat.zero_add]; exact hV j o hj (hall j (by have := (hmd j o hj).1; omega))) (hq _ g w (fun j => by
        by_cases hj : j < l.length
        · rw [hall j hj, decide_eq_true (by omega)]
        · rw [out_false listed j (by omega), decide_eq_false (by omega)]) hT)
      have hf0 := hfin a listed ha hs hc (fun j hj => ⟨fun _ => by omega, fun _ => hall j hj⟩)
      rw [show l.length - m = 0 by omega] at hf0
      exact hf0
    | succ fuel ih =>
      intro listed g a w hs hcnt hc hno ha hT hV
      have hs' : listed.size = l.toArray.size := by simpa using hs
      refine ⟨fun hr => ?_, fun i hi => ?_⟩
      · have hall := ready_nil hb hs' hr
        have := cnt_all listed l.length (fun j hj => hall j (by simpa using hj))
        omega
      · obtain ⟨h1, h2⟩ := ready_lt hs' hi
        have h1' : i < l.length := by simpa using h1
        by_cases him : i < m
        · have hio : (l.take m)[i]? = some l[i] := by
            rw [List.getElem?_take, if_pos him]
            exact List.getElem?_eq_getElem h1'
          obtain ⟨_, hio', d, hd, hdds⟩ := hmd i _ hio
          have howe := owes_at _ 0 ho i _ hio (fun j => listed.getD j false) g w (by rw [Nat.zero_add]; exact h2) hT
          rw [Nat.zero_add] at howe
          have hready := hi
          rw [mem_ready] at hready
          obtain ⟨_, o, hoo, hall⟩ := hready
          rw [hio'] at hoo
          cases hoo
          have hwl := givens_elim (ops := l.toArray) (needs l[i]) (fun j hj => by
            unfold needs at hj
            obtain ⟨e, he, rfl⟩ := List.mem_map.1 hj
            obtain ⟨he1, he2⟩ := List.mem_filter.1 he
            have hbd : Region.binds .any e = true := by
              unfold Region.binds
              cases hg : e.ground <;> rw [hg] at he2 <;> simp at he2 ⊢
            have hlt := hb i _ hio' e (by simpa using he1) hbd
            have hlst := hall e (by simpa using he1) hbd
            have hjm : e.on < m := by omega
            have hjo : (l.take m)[e.on]? = some l[e.on] := by
              rw [List.getElem?_take, if_pos hjm]
              exact List.getElem?_eq_getElem (by omega)
            have := hV e.on _ hjo hlst
            unfold dstAt
            obtain ⟨_, hj2, dj, hdj, _⟩ := hmd _ _ hjo
            rw [hj2]
            simp only [Option.bind_some]
            exact this) howe
          rw [hd] at hwl
          refine wpOp_of_wl hio' hwl (fun dm e f' w' q => q.1) ?_ ha
          rintro dm' a' f' w' ha' ⟨_, rfl, hT', hL', v, rfl, hV'⟩
          have hmask : upd (mask ds g f) d v = mask ds (upd g d v) f := by
            funext k
            by_cases hk : k = d
            · subst hk
              rw [upd_same, mask_in hdds, upd_same]
            · rw [upd_other _ _ _ _ hk]
              by_cases hkd : k ∈ ds
              · rw [mask_in hkd, mask_in hkd, upd_other _ _ _ _ hk]
              · rw [mask_out hkd, mask_out hkd]
          simp only [Option.getD_some] at ha'
          rw [hmask] at ha'
          rw [plus_set listed i (by omega)] at hT'
          refine ih _ (upd g d v) a' w' (by simpa using hs) ?_ (hc.set hs' hi) ?_ ha' hT' ?_
          · rw [cnt_set listed i (by omega) h2, if_pos h1']; omega
          · intro j hmj hjl
            rw [getD_set _ _ _ (by omega), if_neg (by omega)]
            exact hno j hmj hjl
          · intro j oj hj hlj
            obtain ⟨_, _, dj, hdj, _⟩ := hmd j oj hj
            rw [getD_set _ _ _ (by omega)] at hlj
            by_cases hij : i = j
            · subst hij
              rw [hio] at hj
              cases hj
              rw [hd]
              simp only [Option.getD_some, upd_same]
              exact hV'
            · rw [if_neg hij] at hlj
              have hne : dj ≠ d := fun e => hij (hinj i j _ oj d hio hj hd (by rw [hdj, e]))
              have := hst _ j _ _ _ hlj hL' (hV j oj hj hlj)
              rw [hdj] at this ⊢
              simp only [Option.getD_some] at this ⊢
              rw [upd_other _ _ _ _ hne]
              exact this
        · have hallj := hord i (by omega) h1 listed hs' hi hc
          have hfin := allV_elim (l.take m) 0 (fun j o hj => by rw [Nat.zero_add]; exact hV j o hj (hallj j (by have := (hmd j o hj).1; omega))) (hq _ g w (fun j => by
            by_cases hj : j < m
            · rw [hallj j hj, decide_eq_true hj]
            · rw [decide_eq_false hj]
              by_cases hjl : j < l.length
              · exact hno j (by omega) hjl
              · exact out_false listed j (by omega)) hT)
          have hf0 := hfin a listed ha hs hc (fun j hj => ⟨(fun h => by
            refine Nat.lt_of_not_le fun hij => ?_
            rw [hno j hij hj] at h
            cases h), hallj j⟩)
          have hcn := cnt_pre listed m l.length (by omega) hallj hno
          rw [show l.length - m = fuel + 1 by omega] at hf0
          exact hf0.2 i hi
  have h0 : Is n dm a (mask ds f f) := by
    have : mask ds f f = f := by funext k; unfold mask; cases ds.elem k <;> rfl
    rw [this]; exact ha
  have hlm' : lo ≤ l.length := by omega
  have hz := cnt_pre listed0 lo l.length hlm' (fun j hj => (hl0 j (by omega)).2 hj) (fun j h1 h2 => by
    cases h : listed0.getD j false with
    | false => rfl
    | true => have := (hl0 j h2).1 h; omega)
  refine main _ listed0 f a w hs0 (by rw [hz]; omega) hc0 (fun j h1 h2 => ?_) h0 ?_ ?_
  · cases h : listed0.getD j false with
    | false => rfl
    | true => have := (hl0 j h2).1 h; omega
  · have he : (fun j => listed0.getD j false) = fun j => decide (j < lo) := by
      funext j
      by_cases hj : j < l.length
      · cases h : listed0.getD j false with
        | true => rw [decide_eq_true ((hl0 j hj).1 h)]
        | false =>
          refine (decide_eq_false fun h' => ?_).symm
          rw [(hl0 j hj).2 h'] at h; cases h
      · rw [out_false _ _ (by omega), decide_eq_false (by omega)]
    rw [he]; exact hT
  · intro j o hj hlj
    obtain ⟨hjm, hjo, _⟩ := hmd j o hj
    exact hV0 j o ((hl0 j (by omega)).1 hlj) (by simpa using hjo)
/-- a guard that is known to hold -/
theorem wm_gon2 {d : Tmp} {op : Op} {ty : TypeId} {pos : String} {af : Array Edge} {w0 : World} {V : Veil} {sm ss : List Nat} {l : List Oper} {i : Nat} {K : Fr → Prop} {j : Nat} {pol c t : Bool} {oj : Oper} {dj : Tmp} (hj : ops[j]? = some oj) (hdj : oj.dst = some dj) (ht : ∀ g, mask ss g f dj = gv c (.bool t)) (hg : (c && (t == pol)) = true) (hs : sm.elem i = true)
    (h : wm P ops w0 V sm ss (⟨some d, op, ty, pos, af, none⟩ :: l) i K f) : wm P ops w0 V sm ss (⟨some d, op, ty, pos, af, some (j, pol)⟩ :: l) i K f := by
  unfold wm at h ⊢
  rw [hs] at h ⊢
  refine ⟨fun g => ⟨c, t, ?_, by simp [hj], fun _ => h.1 g, fun e => by rw [hg] at e; cases e⟩, h.2⟩
  rw [show dstAt ops j = dj by simp [dstAt, hj, hdj]]
  exact ht g
theorem wm_gon {d : Tmp} {op : Op} {ty : TypeId} {pos : String} {af : Array Edge} {w0 : World} {V : Veil} {sm ss : List Nat} {l : List Oper} {i : Nat} {K : Fr → Prop} {j : Nat} {pol t : Bool} {oj : Oper} {dj : Tmp} (hj : ops[j]? = some oj) (hdj : oj.dst = some dj) (ht : ∀ g, mask ss g f dj = .bool t) (hg : (t == pol) = true) (hs : sm.elem i = true)
    (h : wm P ops w0 V sm ss (⟨some d, op, ty, pos, af, none⟩ :: l) i K f) : wm P ops w0 V sm ss (⟨some d, op, ty, pos, af, some (j, pol)⟩ :: l) i K f :=
  wm_gon2 (c := true) hj hdj (fun g => by rw [ht]; exact gv_t _) hg hs h
/-- the slots that an operation looks at are made by those that it hangs on; of a quiet one: by quiet ones -/
def needsS (ops : Array Oper) (lo m n : Nat) (sm : List Nat) : Bool :=
  let ds := (ops.toList.take m).filterMap (·.dst)
  sm.all (fun k => decide (lo ≤ k) && decide (k < m)) && (ops.toList.take m).zipIdx.all fun q => decide (q.2 < lo) || (let o := q.1
    (o.op.operands.toList.all fun x => match x with
      | .tmp t => !ds.elem t || (needs o).any fun j => (((ops[j]?).bind (·.dst)) == some t) && (sm.elem q.2 || !sm.elem j)
      | _ => true) &&
    (match o.guard with
      | none => true
      | some (j, _) => (needs o).elem j && (((ops[j]?).bind (·.dst)).any fun t => decide (t < n)) && !sm.elem j) &&
    (match o.op with | .select .. => false | _ => true) &&
    (match o.dst with | some d => decide (d < n) | none => false))
/-- a segment in any order: quiet operations, and some that make something new -/
theorem ws_semi {l : List Oper} {V : Veil} (lo m : Nat) (sm : List Nat) (hB : drawS l.toArray m = true) (hlm : lo ≤ m) (hN : needsS l.toArray lo m n sm = true)
    (hst : ∀ i v w w', sm.elem i = true → Ext w w' → V i v w → V i v w')
    (h : wm P l.toArray w V sm (slotsM l.toArray sm) ((l.take m).drop lo) lo (fun f' => ∀ g w', Ext w w' → (∀ i, sm.elem i = true → i < m → V i (g (dstAt l.toArray i)) w') → ws P rd n dm l m Q (mask (slotsM l.toArray sm) g f') w') f) : ws P rd n dm l lo Q f w := by
  obtain ⟨F0, hF0', hFK, hF'⟩ := wm_vals _ _ _ h
  simp only [needsS, Bool.and_eq_true] at hN
  obtain ⟨hsm, hN⟩ := hN
  have hB' := hB
  simp only [drawS, Bool.and_eq_true, decide_eq_true_eq, List.all_eq_true] at hB
  obtain ⟨⟨⟨⟨hsome, hnd⟩, hback⟩, htail⟩, hml⟩ := hB
  simp only [List.size_toArray] at hml
  have hlen : (l.take m).length = m := by simp; omega
  have hlen' : lo + ((l.take m).drop lo).length = m := by rw [List.length_drop, hlen]; omega
  rw [hlen'] at hFK
  obtain ⟨F, hF0, hFm, hF, hFlo⟩ : ∃ F : Nat → Fr, F 0 = f ∧ F m = F0 m ∧ (∀ (k : Nat) (o : Oper), lo ≤ k → (l.take m)[k]? = some o →
      (sm.elem k = true → (∀ g, SOp P l.toArray w o (mask (slotsM l.toArray sm) g (F k)) (fun w => givs l.toArray V sm g w o) (V k)) ∧ F (k + 1) = F k) ∧ (sm.elem k = false → ∃ v, SOp P l.toArray w o (F k) (fun _ => True) (fun v' _ => v' = v) ∧ F (k + 1) = upd (F k) (o.dst.getD 0) v)) ∧ ∀ k, k ≤ lo → F k = f := by
    refine ⟨fun k => if k ≤ lo then f else F0 k, by simp, ?_, ?_, fun k hk => if_pos hk⟩
    · show (if m ≤ lo then f else F0 m) = F0 m
      split
      · rw [show m = lo by omega, hF0']
      · rfl
    · intro k o hlk hk
      have hk0 : (if k ≤ lo then f else F0 k) = F0 k := by
        split
        · rw [show k = lo by omega, hF0']
        · rfl
      have hk1 : (if k + 1 ≤ lo then f else F0 (k + 1)) = F0 (k + 1) := if_neg (by omega)
      simp only [hk0, hk1]
      have := hF' (k - lo) o (by rw [List.getElem?_drop, show lo + (k - lo) = k by omega]; exact hk)
      rw [show lo + (k - lo) = k by omega] at this
      exact this
  rw [← hFm] at hFK
  generalize hss : slotsM l.toArray sm = ss at *
  let U : Veil := fun i v w => if sm.elem i = true then V i v w else ∀ o, (l.take m)[i]? = some o → v = F (i + 1) (o.dst.getD 0)
  have hdist : ∀ (i j : Nat) (oi oj : Oper) (d : Nat), (l.take m)[i]? = some oi → (l.take m)[j]? = some oj → oi.dst = some d → oj.dst = some d → i = j := by
    have hgen : ∀ (L : List Oper), (L.filterMap (·.dst)).Nodup → ∀ (i j : Nat) (oi oj : Oper) (d : Nat), L[i]? = some oi → L[j]? = some oj → oi.dst = some d → oj.dst = some d → i = j := by
      intro L
      induction L with
      | nil => intro _ i j oi oj d h; simp at h
      | cons o L ih =>
        intro hn i j oi oj d hi hj hdi hdj
        have hn' : (L.filterMap (·.dst)).Nodup := by
          rw [List.filterMap_cons] at hn
          split at hn
          · exact hn
          · exact (List.nodup_cons.1 hn).2
        have hno : ∀ (k : Nat) (ok : Oper) (dd : Nat), L[k]? = some ok → o.dst = some dd → ok.dst ≠ some dd := by
          intro k ok dd hk hod hkd
          rw [List.filterMap_cons, hod] at hn
          exact (List.nodup_cons.1 hn).1 (List.mem_filterMap.2 ⟨ok, List.mem_of_getElem? hk, hkd⟩)
        cases i with
        | zero =>
          cases j with
          | zero => rfl
          | succ j => simp at hi; subst hi; exact absurd hdj (hno j oj d (by simpa using hj) hdi)
        | succ i =>
          cases j with
          | zero => simp at hj; subst hj; exact absurd hdi (hno i oi d (by simpa using hi) hdj)
          | succ j => rw [ih hn' i j oi oj d (by simpa using hi) (by simpa using hj) hdi hdj]
    exact hgen _ hnd
  have hdst : ∀ (i : Nat) (o : Oper), (l.take m)[i]? = some o → ∃ d, o.dst = some d := by
    intro i o hi
    have := hsome o (List.mem_of_getElem? hi)
    cases hd : o.dst with
    | none => rw [hd] at this; simp at this
    | some d => exact ⟨d, rfl⟩
  have hat : ∀ (i : Nat) (o : Oper), (l.take m)[i]? = some o → i < m ∧ l.toArray[i]? = some o := by
    intro i o hi
    have him : i < m := by have := (List.getElem?_eq_some_iff.1 hi).1; omega
    exact ⟨him, by rw [List.getElem?_take, if_pos him] at hi; simpa using hi⟩
  have hsmd : ∀ k ∈ sm, ∃ o, (l.take m)[k]? = some o ∧ o.dst = some (dstAt l.toArray k) := by
    intro k hk
    have hkm : k < m := by have := List.all_eq_true.1 hsm k hk; simp only [Bool.and_eq_true, decide_eq_true_eq] at this; omega
    have hkl : k < (l.take m).length := by omega
    obtain ⟨d, hd⟩ := hdst k _ (List.getElem?_eq_getElem hkl)
    refine ⟨_, List.getElem?_eq_getElem hkl, ?_⟩
    have := (hat k _ (List.getElem?_eq_getElem hkl)).2
    unfold dstAt
    rw [this, Option.bind_some, hd]; rfl
  -- one step of the run keeps the slots of other operations
  have hstep : ∀ (k : Nat) (o : Oper) (d : Nat), (l.take m)[k]? = some o → (∀ dk, o.dst = some dk → d ≠ dk) → F (k + 1) d = F k d := by
    intro k o d hk hne
    obtain ⟨dk, hdk⟩ := hdst k o hk
    by_cases hlk : k < lo
    · rw [hFlo (k + 1) (by omega), hFlo k (by omega)]
    replace hlk : lo ≤ k := by omega
    cases hs : sm.elem k with
    | true => rw [((hF k o hlk hk).1 hs).2]
    | false =>
      obtain ⟨v, _, hFk⟩ := (hF k o hlk hk).2 hs
      rw [hFk, hdk]
      exact upd_other _ _ _ _ (hne dk hdk)
  have hkeep : ∀ (k i : Nat) (o : Oper) (d : Nat), (l.take m)[i]? = some o → o.dst = some d → i < k → k ≤ m → F k d = F (i + 1) d := by
    intro k
    induction k with
    | zero => intro i o d _ _ h; omega
    | succ k ih =>
      intro i o d hi hd hik hkm
      by_cases hik' : i = k
      · subst hik'; rfl
      · have hkl : k < (l.take m).length := by omega
        rw [hstep k _ d (List.getElem?_eq_getElem hkl) (fun dk hdk e => by subst e; exact hik' (hdist i k o _ d hi (List.getElem?_eq_getElem hkl) hd hdk))]
        exact ih i o d hi hd (by omega) (by omega)
  have hout : ∀ (k d : Nat), k ≤ m → d ∉ (l.take m).filterMap (·.dst) → F k d = f d := by
    intro k
    induction k with
    | zero => intro d _ _; rw [hF0]
    | succ k ih =>
      intro d hkm hd
      have hkl : k < (l.take m).length := by omega
      rw [hstep k _ d (List.getElem?_eq_getElem hkl) (fun dk hdk e => by subst e; exact hd (List.mem_filterMap.2 ⟨_, List.getElem_mem hkl, hdk⟩))]
      exact ih d (by omega) hd
  have hssd : ∀ (j : Nat) (oj : Oper) (t : Nat), (l.take m)[j]? = some oj → oj.dst = some t → (t ∈ ss ↔ ∃ k, sm.elem k = true ∧ dstAt l.toArray k = t) := by
    intro j oj t _ _
    rw [← hss]
    unfold slotsM
    simp
  -- in the frame of a run, a slot that an operation of V's makes is g's; a quiet one's is the run's
  have hslot : ∀ (i : Nat) (o : Oper) (g : Fr) (w' : World), (l.take m)[i]? = some o → (∀ j ∈ needs o, U j (g (dstAt l.toArray j)) w') → ∀ (j : Nat) (oj : Oper) (t : Nat), j ∈ needs o → l.toArray[j]? = some oj → oj.dst = some t →
      (sm.elem j = false → mask ((l.take m).filterMap (·.dst)) g f t = F i t) ∧ mask ((l.take m).filterMap (·.dst)) g f t = g t ∧ j < i := by
    intro i o g w' hi hneed j oj t hj hoj hdj
    have hji : j < i := by
      unfold needs at hj
      obtain ⟨e, he, rfl⟩ := List.mem_map.1 hj
      obtain ⟨he1, he2⟩ := List.mem_filter.1 he
      have hbd : Region.binds .any e = true := by
        unfold Region.binds
        cases hg : e.ground <;> rw [hg] at he2 <;> simp at he2 ⊢
      have := hback (o, i) (by rw [List.mem_zipIdx_iff_getElem?]; simpa using (hat i o hi).2) e (by simpa using he1)
      simp only [hbd, Bool.not_true, Bool.false_or, decide_eq_true_eq] at this
      exact this
    have him := (hat i o hi).1
    have hjm : (l.take m)[j]? = some oj := by
      rw [List.getElem?_take, if_pos (by omega)]
      simpa using hoj
    have ht : t ∈ (l.take m).filterMap (·.dst) := List.mem_filterMap.2 ⟨oj, List.mem_of_getElem? hjm, hdj⟩
    have hda : dstAt l.toArray j = t := by simp [dstAt, hoj, hdj]
    refine ⟨fun hs => ?_, mask_in ht, hji⟩
    rw [mask_in ht, hkeep i j oj t hjm hdj hji (by omega)]
    have := hneed j hj
    simp only [U, hs, Bool.false_eq_true, if_false] at this
    have := this oj hjm
    rw [hda, hdj] at this
    exact this
  have hsmlo : ∀ k, k < lo → sm.elem k = false := fun k hk => by
    cases h : sm.elem k with
    | false => rfl
    | true =>
      have := List.all_eq_true.1 hsm k (by simpa using h)
      simp only [Bool.and_eq_true, decide_eq_true_eq] at this
      omega
  refine ws_draw lo m ⟨fun L w' => Ext w w' ∧ ∀ i, i < lo → L i = true, fun _ => Ext, U⟩ hB' hlm (fun L i v w1 w2 _ hl hv => ?_) ⟨Ext.refl w, fun i hi => by simpa using hi⟩ (fun j o hj ho => ?_) ?_ ?_
  · simp only [U] at hv ⊢
    split
    · rename_i hs; rw [if_pos hs] at hv; exact hst i v w1 w2 hs hl hv
    · rename_i hs; rw [if_neg hs] at hv; exact hv
  · simp only [U, hsmlo j hj, Bool.false_eq_true, if_false]
    intro o' ho'
    rw [hFlo (j + 1) (by omega)]
    have := (hat j o' ho').2
    rw [List.getElem?_toArray] at this
    rw [ho] at this; cases this; rfl
  · -- each operation
    have howe : ∀ (L : List Oper) (k : Nat), (∀ j o, L[j]? = some o → (l.take m)[k + j]? = some o) → Owes P rd n dm l.toArray ((l.take m).filterMap (·.dst)) ⟨fun L w' => Ext w w' ∧ ∀ i, i < lo → L i = true, fun _ => Ext, U⟩ f L k := by
      intro L
      induction L with
      | nil => intro k _; trivial
      | cons o L ih =>
        intro k hL
        refine ⟨?_, ih (k + 1) (fun j o' hj => by
          have := hL (j + 1) o' (by simpa using hj)
          rwa [show k + (j + 1) = k + 1 + j by omega] at this)⟩
        have hk : (l.take m)[k]? = some o := hL 0 o rfl
        obtain ⟨hkm, hko⟩ := hat k o hk
        obtain ⟨d, hd⟩ := hdst k o hk
        intro Ls g w1 hLi hTw
        have hlk : lo ≤ k := by
          refine Nat.le_of_not_lt fun h => ?_
          rw [hTw.2 k h] at hLi; cases hLi
        refine (show ∀ (p : Prop), ((∀ j ∈ needs o, U j (g (dstAt l.toArray j)) w1) → p) → givens l.toArray ⟨fun L w' => Ext w w' ∧ ∀ i, i < lo → L i = true, fun _ => Ext, U⟩ g w1 (needs o) p from ?_) _ ?_
        · intro p
          generalize needs o = nl
          induction nl with
          | nil => intro hp; exact hp (by simp)
          | cons j nl ihn =>
            intro hp hj
            exact ihn (fun h' => hp (fun j' hj' => by
              rcases List.mem_cons.1 hj' with rfl | hj'
              · exact hj
              · exact h' j' hj'))
        intro hneed
        have hNo := List.all_eq_true.1 hN (o, k) (by rw [List.mem_zipIdx_iff_getElem?]; simpa using hk)
        simp only [Bool.or_eq_true, decide_eq_true_eq] at hNo
        replace hNo := hNo.resolve_left (by omega)
        simp only [Bool.and_eq_true] at hNo
        obtain ⟨⟨⟨hops, hgd⟩, hsel⟩, hdn⟩ := hNo
        rw [hd] at hdn
        simp only [decide_eq_true_eq] at hdn
        have hsel' : ∀ cs b, o.op ≠ .select cs b := by
          intro cs b e
          rw [e] at hsel
          cases hsel
        have hsl := hslot k o g w1 hk hneed
        -- the frame that the proof of this operation has seen
        have hfr : ∀ fr : Fr, (fr = F k ∧ sm.elem k = false ∨ fr = mask ss g (F k) ∧ sm.elem k = true) → ∀ x ∈ o.op.operands, evF fr x = evF (mask ((l.take m).filterMap (·.dst)) g f) x := by
          intro fr hfr x hx
          cases x with
          | tmp t =>
            have h0 := List.all_eq_true.1 hops (.tmp t) (by simpa using hx)
            simp only [Bool.or_eq_true] at h0
            show fr t = mask _ g f t
            by_cases ht : t ∈ (l.take m).filterMap (·.dst)
            · rcases h0 with h1 | h1
              · simp at h1
                obtain ⟨x, hx1, hx2⟩ := List.mem_filterMap.1 ht
                exact absurd hx2 (h1 x hx1)
              · obtain ⟨j, hj, hjt⟩ := List.any_eq_true.1 h1
                simp only [Bool.and_eq_true, beq_iff_eq] at hjt
                obtain ⟨hjt, hjq⟩ := hjt
                cases hoj : l.toArray[j]? with
                | none => rw [hoj] at hjt; simp at hjt
                | some oj =>
                  rw [hoj] at hjt
                  have hdj : oj.dst = some t := by simpa using hjt
                  obtain ⟨q1, q2, q3⟩ := hsl j oj t hj hoj hdj
                  rcases hfr with ⟨rfl, hs⟩ | ⟨rfl, hs⟩
                  · rw [hs] at hjq
                    simp only [Bool.false_or, Bool.not_eq_true'] at hjq
                    exact (q1 hjq).symm
                  · have hda : dstAt l.toArray j = t := by simp [dstAt, hoj, hdj]
                    by_cases hjs : sm.elem j = true
                    · rw [q2]
                      refine mask_in ?_
                      rw [← hss]; unfold slotsM
                      exact List.mem_map.2 ⟨j, by simpa using hjs, hda⟩
                    · have hjs' : sm.elem j = false := by simpa using hjs
                      rw [q1 hjs']
                      refine mask_out ?_
                      rw [← hss]; unfold slotsM
                      intro hmem
                      obtain ⟨k', hk', hdk'⟩ := List.mem_map.1 hmem
                      have hjm : (l.take m)[j]? = some oj := by
                        rw [List.getElem?_take, if_pos (by omega)]
                        simpa using hoj
                      obtain ⟨ok, hok, hdk⟩ := hsmd k' hk'
                      rw [hdk'] at hdk
                      have := hdist k' j ok oj t hok hjm hdk hdj
                      subst this
                      rw [show sm.elem k' = true by simpa using hk'] at hjs'
                      cases hjs' 
            · rw [mask_out ht]
              rcases hfr with ⟨rfl, hs⟩ | ⟨rfl, hs⟩
              · exact hout k t (by omega) ht
              · rw [mask_out, hout k t (by omega) ht]
                rw [← hss]; unfold slotsM
                intro hmem
                obtain ⟨k', hk', hdk'⟩ := List.mem_map.1 hmem
                obtain ⟨ok, hok, hdk⟩ := hsmd k' hk'
                rw [hdk'] at hdk
                exact ht (List.mem_filterMap.2 ⟨ok, List.mem_of_getElem? hok, hdk⟩)
          | _ => rfl
        -- the operation, on the frame at hand
        have hgiv : givs l.toArray V sm g w1 o := fun j hj hs => by
          have := hneed j hj
          simp only [U, hs, if_true] at this
          exact this
        obtain ⟨fr, H, R, hso, hfrx, hH, hR⟩ : ∃ (fr : Fr) (H : World → Prop) (R : Value → World → Prop), SOp P l.toArray w o fr H R ∧ (fr = F k ∧ sm.elem k = false ∨ fr = mask ss g (F k) ∧ sm.elem k = true) ∧ H w1 ∧ (∀ v w', R v w' → U k v w') := by
          cases hs : sm.elem k with
          | true => exact ⟨_, _, _, ((hF k o hlk hk).1 hs).1 g, .inr ⟨rfl, rfl⟩, hgiv, fun v w' hv => by simp only [U, hs, if_true]; exact hv⟩
          | false =>
            obtain ⟨v, hv, hFk⟩ := (hF k o hlk hk).2 hs
            refine ⟨_, _, _, hv, .inl ⟨rfl, rfl⟩, trivial, fun v' w' e => ?_⟩
            simp only [U, hs, Bool.false_eq_true, if_false]
            intro o' ho'
            rw [hk] at ho'
            cases ho'
            rw [hFk, e, upd_same]
        have hoper := hfr fr hfrx
        have hfin : ∀ v w', Ext w1 w' → R v w' → obPost dm ⟨fun L w' => Ext w w' ∧ ∀ i, i < lo → L i = true, fun _ => Ext, U⟩ Ls k (o.dst.getD 0) (mask ((l.take m).filterMap (·.dst)) g f) w1 dm .normal (upd (mask ((l.take m).filterMap (·.dst)) g f) (o.dst.getD 0) v) w' :=
          fun v w' hx hv => ob (D := ⟨fun L w' => Ext w w' ∧ ∀ i, i < lo → L i = true, fun _ => Ext, U⟩) ⟨hTw.1.trans hx, fun i hi => by unfold plus; rw [hTw.2 i hi]; simp⟩ hx (hR v w' hv)
        obtain ⟨od, oop, oty, opos, oaf, ogd⟩ := o
        simp only at hd
        subst hd
        simp only [Option.getD_some] at hfin
        intro a ha
        cases ogd with
        | none =>
          have q := srun_congr hsel' hoper (show SRun P w _ fr H R from hso)
          refine wpListIn_plain rfl fun K' hK => ?_
          refine wl_of_srun q hTw.1 hH ha _ _ fun v w' hx hv => hK _ _ ?_
          exact ⟨_, _, ha.put hdn v, hfin v w' hx hv⟩
        | some gp =>
          obtain ⟨j, pol⟩ := gp
          obtain ⟨c, t, ht, hjs, hqy, hqn⟩ := hso
          simp only [Bool.and_eq_true, Bool.not_eq_true'] at hgd
          obtain ⟨⟨hjn, hjd⟩, hjq⟩ := hgd
          cases hoj : l.toArray[j]? with
          | none => rw [hoj] at hjs; simp at hjs
          | some oj =>
            rw [hoj] at hjd
            simp only [Option.bind_some, Option.any_eq_true] at hjd
            obtain ⟨dj, hdj, hdjn⟩ := hjd
            obtain ⟨q1, q2, q3⟩ := hsl j oj dj (by simpa using hjn) hoj hdj
            have hda : dstAt l.toArray j = dj := by simp [dstAt, hoj, hdj]
            have hfd : fr dj = mask ((l.take m).filterMap (·.dst)) g f dj := by
              rcases hfrx with ⟨rfl, _⟩ | ⟨rfl, _⟩
              · exact (q1 hjq).symm
              · rw [q1 hjq]
                refine mask_out ?_
                rw [← hss]; unfold slotsM
                intro hmem
                obtain ⟨k', hk', hdk'⟩ := List.mem_map.1 hmem
                obtain ⟨ok, hok, hdk⟩ := hsmd k' hk'
                rw [hdk'] at hdk
                have hjm : (l.take m)[j]? = some oj := by
                  rw [List.getElem?_take, if_pos (by omega)]
                  simpa using hoj
                have := hdist k' j ok oj dj hok hjm hdk hdj
                subst this
                rw [show sm.elem k' = true by simpa using hk'] at hjq
                cases hjq
            rw [hda, hfd] at ht
            refine wpListIn_step fun K' hK => ?_
            rw [wanted_gv ha rfl hoj hdj ht (by simpa using hdjn)]
            cases hc : (c && (t == pol)) with
            | true =>
              rw [if_pos rfl]
              have q := srun_congr hsel' hoper (hqy hc)
              refine wl_of_srun q hTw.1 hH ha _ _ fun v w' hx hv => hK _ _ ?_
              exact ⟨_, _, ha.put hdn v, hfin v w' hx hv⟩
            | false =>
              rw [if_neg (by simp)]
              have := hfin undef w1 (Ext.refl w1) (hqn hc w1)
              exact ⟨fun _ _ => trivial, hK _ _ ⟨_, _, ha.put hdn undef, this⟩⟩
    exact howe _ 0 (fun j o hj => by rw [Nat.zero_add]; exact hj)
  · -- the tail
    intro Ls g w1 _ hTw
    have hall : ∀ (L : List Oper) (k : Nat) (p : Prop), ((∀ j o, L[j]? = some o → U (k + j) (g (o.dst.getD 0)) w1) → p) → allV ⟨fun L w' => Ext w w' ∧ ∀ i, i < lo → L i = true, fun _ => Ext, U⟩ g w1 L k p := by
      intro L
      induction L with
      | nil => intro k p hp; exact hp (by intro j o h; simp at h)
      | cons o L ih =>
        intro k p hp hv
        refine ih (k + 1) p fun h' => hp fun j o' hj => ?_
        cases j with
        | zero => simp at hj; subst hj; exact hv
        | succ j =>
          have := h' j o' (by simpa using hj)
          rwa [show k + 1 + j = k + (j + 1) by omega] at this
    refine hall _ 0 _ fun hv => ?_
    have heq : mask ((l.take m).filterMap (·.dst)) g f = mask ss g (F m) := by
      funext t
      by_cases ht : t ∈ (l.take m).filterMap (·.dst)
      · rw [mask_in ht]
        obtain ⟨o, ho, hd⟩ := List.mem_filterMap.1 ht
        obtain ⟨i, hi⟩ := List.getElem?_of_mem ho
        have hiv := hv i o hi
        rw [Nat.zero_add, hd] at hiv
        simp only [Option.getD_some] at hiv
        cases hs : sm.elem i with
        | true =>
          refine (mask_in ?_).symm
          rw [← hss]; unfold slotsM
          refine List.mem_map.2 ⟨i, by simpa using hs, ?_⟩
          unfold dstAt
          rw [(hat i o hi).2, Option.bind_some, hd]; rfl
        | false =>
          simp only [U, hs, Bool.false_eq_true, if_false] at hiv
          have := hiv o hi
          rw [hd] at this
          simp only [Option.getD_some] at this
          rw [this, mask_out, ← hkeep m i o t hi hd (hat i o hi).1 (Nat.le_refl _)]
          rw [← hss]; unfold slotsM
          intro hmem
          obtain ⟨k', hk', hdk'⟩ := List.mem_map.1 hmem
          obtain ⟨ok, hok, hdk⟩ := hsmd k' hk'
          rw [hdk'] at hdk
          have := hdist k' i ok o t hok hi hdk hd
          subst this
          rw [show sm.elem k' = true by simpa using hk'] at hs
          cases hs
      · rw [mask_out ht, mask_out, hout m t (Nat.le_refl _) ht]
        rw [← hss]; unfold slotsM
        intro hmem
        obtain ⟨k', hk', hdk'⟩ := List.mem_map.1 hmem
        obtain ⟨ok, hok, hdk⟩ := hsmd k' hk'
        rw [hdk'] at hdk
        exact ht (List.mem_filterMap.2 ⟨ok, List.mem_of_getElem? hok, hdk⟩)
    rw [heq]
    refine hFK g w1 hTw.1 fun i hs him => ?_
    obtain ⟨o, ho, hd⟩ := hsmd i (by simpa using hs)
    have := hv i o ho
    rw [Nat.zero_add, hd] at this
    simp only [Option.getD_some, U, hs, if_true] at this
    exact this
end
end Gw
end Go.Proofs.YtjjkhjieegmphaaDoor
