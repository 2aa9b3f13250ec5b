/- A region that draws its order, with operations that make no value (stores). -/
import Derived.Test.YtjjkhjieegmphaaDoorGwQuiet
namespace Go.Proofs.YtjjkhjieegmphaaDoor
open Go.RowKit
namespace Gw
def obPost2 (dm : List Nat) (D : Draw) (L : Nat → Bool) (i : Nat) (d : Option Tmp) (f : Fr) (w : World) : Post := fun dm' e f' w' => e = .normal ∧ dm' = dm ∧ D.T (plus L i) w' ∧ D.Le L w w' ∧ match d with
  | some d => ∃ v, f' = upd f d v ∧ D.V i v w'
  | none => f' = f ∧ ∀ v, D.V i v w'
theorem ob2 {dm : List Nat} {D : Draw} {L : Nat → Bool} {i : Nat} {d : Tmp} {f : Fr} {w w' : World} {v : Value} (hT : D.T (plus L i) w') (hL : D.Le L w w') (hV : D.V i v w') : obPost2 dm D L i (some d) f w dm .normal (upd f d v) w' := ⟨rfl, rfl, hT, hL, v, rfl, hV⟩
theorem ob0 {dm : List Nat} {D : Draw} {L : Nat → Bool} {i : Nat} {f : Fr} {w w' : World} (hT : D.T (plus L i) w') (hL : D.Le L w w') (hV : ∀ v, D.V i v w') : obPost2 dm D L i none f w dm .normal f w' := ⟨rfl, rfl, hT, hL, rfl, hV⟩
def Owe2 (P : Program) (rd : Option Nat) (n : Nat) (dm : List Nat) (ops : Array Oper) (ds : List Nat) (D : Draw) (f : Fr) (i : Nat) (o : Oper) : Prop :=
  ∀ (L : Nat → Bool) (g : Fr) (w : World), L i = false → D.T L w → givens ops D g w (needs o) (wl P rd n dm ops [o] (obPost2 dm D L i o.dst (mask ds g f) w) (mask ds g f) w)
def Owes2 (P : Program) (rd : Option Nat) (n : Nat) (dm : List Nat) (ops : Array Oper) (ds : List Nat) (D : Draw) (f : Fr) : List Oper → Nat → Prop
  | [], _ => True
  | o :: l, i => Owe2 P rd n dm ops ds D f i o ∧ Owes2 P rd n dm ops ds D f l (i + 1)
def drawB2 (ops : Array Oper) (m : Nat) : Bool :=
  decide (((ops.toList.take m).filterMap (·.dst)).Nodup) &&
  ops.toList.zipIdx.all (fun q => q.1.after.toList.all fun e => !Region.binds .any e || decide (e.on < q.2)) &&
  ops.toList.zipIdx.all (fun q => decide (q.2 < m) || (List.range q.2).all fun i => ((Region.before ops).getD q.2 0).testBit i) &&
  decide (m ≤ ops.size)
/-- what is told of an operation that is over -/
def overV (D : Draw) (g : Fr) (w : World) (j : Nat) (d : Option Tmp) : Prop := match d with
  | some d => D.V j (g d) w
  | none => ∀ v, D.V j v w
theorem overV.get {D : Draw} {g : Fr} {w : World} {j : Nat} {d : Option Tmp} (h : overV D g w j d) : D.V j (g (d.getD 0)) w := by
  cases d with
  | none => exact h _
  | some d => exact h
section
variable {P : Program} {rd : Option Nat} {n m : Nat} {dm : List Nat} {ops : Array Oper} {Q : Post} {f : Fr} {w : World}
theorem owes2_at {ds : List Nat} {D : Draw} : ∀ (l : List Oper) (i : Nat), Owes2 P rd n dm ops ds D f l i → ∀ j o, l[j]? = some o → Owe2 P rd n dm ops ds D f (i + j) o
  | [], _, _, j, o, hj => by simp at hj
  | o :: l, i, h, 0, o', hj => by simp at hj; subst hj; exact h.1
  | o :: l, i, h, j + 1, o', hj => by
    have := owes2_at l (i + 1) h.2 j o' (by simpa using hj)
    rwa [show i + 1 + j = i + (j + 1) by omega] at this
/-- A REGION THAT DRAWS ITS ORDER, stores among its operations -/
theorem wc_draw2 {id : Nat} {l : List Oper} (m : Nat) (D : Draw) (hm : P.follows .mixedOrders = true) (hB : drawB2 l.toArray m = true)
    (hst : ∀ L i v w w', L i = true → D.Le L w w' → D.V i v w → D.V i v w') (hT : D.T (fun _ => false) { w with drawn := w.drawn + 1 })
    (ho : Owes2 P rd n dm l.toArray ((l.take m).filterMap (·.dst)) D f (l.take m) 0)
    (hq : ∀ L g w, (∀ j, L j = decide (j < m)) → D.T L w → allV D g w (l.take m) 0 (wl P rd n dm l.toArray (l.drop m) Q (mask ((l.take m).filterMap (·.dst)) g f) w)) : wc P rd n dm (.region id l.toArray true) Q f w := by
  intro a ha
  refine wpIn_region_any hm ?_
  simp only [drawB2, Bool.and_eq_true, decide_eq_true_eq, List.all_eq_true] at hB
  obtain ⟨⟨⟨hnd, hback⟩, htail⟩, hml⟩ := hB
  simp only [List.size_toArray] at hml
  generalize hds : (l.take m).filterMap (·.dst) = ds at *
  have hb : Back l.toArray := by
    intro i o hi e he hbd
    have := hback (o, i) (by
      rw [List.mem_zipIdx_iff_getElem?]
      simpa using hi) e (by simpa using he)
    simp only [hbd, Bool.not_true, Bool.false_or, decide_eq_true_eq] at this
    exact this
  have hord : ∀ k, m ≤ k → k < l.toArray.size → ∀ listed : Array Bool, listed.size = l.toArray.size → k ∈ Region.ready .any l.toArray listed → Closed l.toArray listed → ∀ j, j < k → listed.getD j false = true := by
    intro k hmk hk listed hs hr hc j hj
    have hkl : k < l.length := by simpa using hk
    have h1 := htail (l[k], k) (by
      rw [List.mem_zipIdx_iff_getElem?]
      simp)
    simp only [Bool.or_eq_true, decide_eq_true_eq] at h1
    rcases h1 with h1 | h1
    · omega
    · rw [List.all_eq_true] at h1
      have h2 := h1 j (by simpa using hj)
      rw [mem_ready] at hr
      obtain ⟨_, o, ho', hall⟩ := hr
      refine before_sound hc [] #[] rfl (by simp) (by simp) l.toArray.toList (by simp) k hk j ?_ ?_
      · unfold Region.before at h2
        rw [← Array.foldl_toList] at h2
        exact h2
      · rw [ho']
        simpa using hall
  have hmd : ∀ j o, (l.take m)[j]? = some o → j < m ∧ l.toArray[j]? = some o ∧ ∀ d, o.dst = some d → d ∈ ds := by
    intro j o hj
    have hjm : j < m := by
      have := (List.getElem?_eq_some_iff.1 hj).1
      simp at this; omega
    have hjo : l[j]? = some o := by rw [List.getElem?_take] at hj; simpa [hjm] using hj
    exact ⟨hjm, by simpa using hjo, fun d hd => by rw [← hds]; exact List.mem_filterMap.2 ⟨o, List.mem_of_getElem? hj, hd⟩⟩
  have hinj : ∀ (i j : Nat) (oi oj : Oper) (d : Nat), (l.take m)[i]? = some oi → (l.take m)[j]? = some oj → oi.dst = some d → oj.dst = some d → i = j := by
    have hgen : ∀ (L : List Oper), (L.filterMap (·.dst)).Nodup → ∀ (i j : Nat) (oi oj : Oper) (d : Nat), L[i]? = some oi → L[j]? = some oj → oi.dst = some d → oj.dst = some d → i = j := by
      intro L
      induction L with
      | nil => intro _ i j oi oj d h; simp at h
      | cons o L ih =>
        intro hn i j oi oj d hi hj hdi hdj
        have hn' : (L.filterMap (·.dst)).Nodup := by
          rw [List.filterMap_cons] at hn
          split at hn
          · exact hn
          · exact (List.nodup_cons.1 hn).2
        have hno : ∀ (k : Nat) (ok : Oper) (dd : Nat), L[k]? = some ok → o.dst = some dd → ok.dst ≠ some dd := by
          intro k ok dd hk hod hkd
          rw [List.filterMap_cons, hod] at hn
          exact (List.nodup_cons.1 hn).1 (List.mem_filterMap.2 ⟨ok, List.mem_of_getElem? hk, hkd⟩)
        cases i with
        | zero =>
          cases j with
          | zero => rfl
          | succ j => simp at hi; subst hi; exact absurd hdj (hno j oj d (by simpa using hj) hdi)
        | succ i =>
          cases j with
          | zero => simp at hj; subst hj; exact absurd hdi (hno i oi d (by simpa using hi) hdj)
          | succ j => rw [ih hn' i j oi oj d (by simpa using hi) (by simpa using hj) hdi hdj]
    exact hgen _ (by rw [hds]; exact hnd)
  have main : ∀ (fuel : Nat) (listed : Array Bool) (g : Fr) (a : Act) (w : World), listed.size = l.length → fuel + cnt listed l.length = l.length → Closed l.toArray listed → (∀ j, m ≤ j → j < l.length → listed.getD j false = false) →
      Is n dm a (mask ds g f) → D.T (fun j => listed.getD j false) w → (∀ j o, (l.take m)[j]? = some o → listed.getD j false = true → overV D g w j o.dst) → wpAnyIn (fen rd) 0 P .any l.toArray (lift n Q) fuel listed a w := by
    intro fuel
    induction fuel with
    | zero =>
      intro listed g a w hs hcnt hc hno ha hT hV
      have hall := cnt_full listed l.length (by omega)
      have hm' : m = l.length := by
        by_cases h : m < l.length
        · have := hno m (Nat.le_refl _) h
          rw [hall m h] at this
          cases this
        · omega
      have hfin := allV_elim (l.take m) 0 (fun j o hj => by rw [Nat.zero_add]; exact (hV j o hj (hall j (by have := (hmd j o hj).1; omega))).get) (hq _ g w (fun j => by
        by_cases hj : j < l.length
        · rw [hall j hj, decide_eq_true (by omega)]
        · rw [out_false listed j (by omega), decide_eq_false (by omega)]) hT)
      rw [List.drop_eq_nil_of_le (by omega)] at hfin
      refine ⟨?_, ?_⟩
      · refine List.eq_nil_iff_forall_not_mem.2 fun i hi => ?_
        obtain ⟨h1, h2⟩ := ready_lt (ops := l.toArray) (by simpa using hs) hi
        rw [hall i (by simpa using h1)] at h2
        cases h2
      · exact hfin a ha
    | succ fuel ih =>
      intro listed g a w hs hcnt hc hno ha hT hV
      have hs' : listed.size = l.toArray.size := by simpa using hs
      refine ⟨fun hr => ?_, fun i hi => ?_⟩
      · have hall := ready_nil hb hs' hr
        have := cnt_all listed l.length (fun j hj => hall j (by simpa using hj))
        omega
      · obtain ⟨h1, h2⟩ := ready_lt hs' hi
        have h1' : i < l.length := by simpa using h1
        by_cases him : i < m
        · have hio : (l.take m)[i]? = some l[i] := by
            rw [List.getElem?_take, if_pos him]
            exact List.getElem?_eq_getElem h1'
          obtain ⟨_, hio', hdds⟩ := hmd i _ hio
          have howe := owes2_at _ 0 ho i _ hio (fun j => listed.getD j false) g w (by rw [Nat.zero_add]; exact h2) hT
          rw [Nat.zero_add] at howe
          have hready := hi
          rw [mem_ready] at hready
          obtain ⟨_, o, hoo, hall⟩ := hready
          rw [hio'] at hoo
          cases hoo
          have hwl := givens_elim (ops := l.toArray) (needs l[i]) (fun j hj => by
            unfold needs at hj
            obtain ⟨e, he, rfl⟩ := List.mem_map.1 hj
            obtain ⟨he1, he2⟩ := List.mem_filter.1 he
            have hbd : Region.binds .any e = true := by
              unfold Region.binds
              cases hg : e.ground <;> rw [hg] at he2 <;> simp at he2 ⊢
            have hlt := hb i _ hio' e (by simpa using he1) hbd
            have hlst := hall e (by simpa using he1) hbd
            have hjm : e.on < m := by omega
            have hjo : (l.take m)[e.on]? = some l[e.on] := by
              rw [List.getElem?_take, if_pos hjm]
              exact List.getElem?_eq_getElem (by omega)
            have := (hV e.on _ hjo hlst).get
            unfold dstAt
            obtain ⟨_, hj2, _⟩ := hmd _ _ hjo
            rw [hj2]
            simp only [Option.bind_some]
            exact this) howe
          refine wpOp_of_wl hio' hwl (fun dm e f' w' q => q.1) ?_ ha
          rintro dm' a' f' w' ha' ⟨_, rfl, hT', hL', hV'⟩
          rw [plus_set listed i (by omega)] at hT'
          cases hd : l[i].dst with
          | none =>
            rw [hd] at hV'
            obtain ⟨rfl, hV'⟩ := hV'
            refine ih _ g a' w' (by simpa using hs) ?_ (hc.set hs' hi) ?_ ha' hT' ?_
            · rw [cnt_set listed i (by omega) h2, if_pos h1']; omega
            · intro j hmj hjl
              rw [getD_set _ _ _ (by omega), if_neg (by omega)]
              exact hno j hmj hjl
            · intro j oj hj hlj
              rw [getD_set _ _ _ (by omega)] at hlj
              by_cases hij : i = j
              · subst hij
                rw [hio] at hj
                cases hj
                rw [hd]
                exact hV'
              · rw [if_neg hij] at hlj
                have hvj := hV j oj hj hlj
                cases hdj : oj.dst with
                | none => rw [hdj] at hvj; exact fun v => hst _ j _ _ _ hlj hL' (hvj v)
                | some dj => rw [hdj] at hvj; exact hst _ j _ _ _ hlj hL' hvj
          | some d =>
          rw [hd] at hV'
          obtain ⟨v, rfl, hV'⟩ := hV'
          have hdds := hdds d hd
          have hmask : upd (mask ds g f) d v = mask ds (upd g d v) f := by
            funext k
            by_cases hk : k = d
            · subst hk
              rw [upd_same, mask_in hdds, upd_same]
            · rw [upd_other _ _ _ _ hk]
              by_cases hkd : k ∈ ds
              · rw [mask_in hkd, mask_in hkd, upd_other _ _ _ _ hk]
              · rw [mask_out hkd, mask_out hkd]
          rw [hmask] at ha'
          refine ih _ (upd g d v) a' w' (by simpa using hs) ?_ (hc.set hs' hi) ?_ ha' hT' ?_
          · rw [cnt_set listed i (by omega) h2, if_pos h1']; omega
          · intro j hmj hjl
            rw [getD_set _ _ _ (by omega), if_neg (by omega)]
            exact hno j hmj hjl
          · intro j oj hj hlj
            rw [getD_set _ _ _ (by omega)] at hlj
            by_cases hij : i = j
            · subst hij
              rw [hio] at hj
              cases hj
              rw [hd]
              show D.V i (upd g d v d) _
              rw [upd_same]
              exact hV'
            · rw [if_neg hij] at hlj
              have hvj := hV j oj hj hlj
              cases hdj : oj.dst with
              | none => rw [hdj] at hvj; exact fun v => hst _ j _ _ _ hlj hL' (hvj v)
              | some dj =>
                rw [hdj] at hvj
                have hne : dj ≠ d := fun e => hij (hinj i j _ oj d hio hj hd (by rw [hdj, e]))
                show D.V j (upd g d v dj) _
                rw [upd_other _ _ _ _ hne]
                exact hst _ j _ _ _ hlj hL' hvj
        · have hallj := hord i (by omega) h1 listed hs' hi hc
          have him' : i = m := by
            by_cases h : m < i
            · have := hno m (Nat.le_refl _) (by omega)
              rw [hallj m h] at this
              cases this
            · omega
          subst him'
          have hfin := allV_elim (l.take i) 0 (fun j o hj => by rw [Nat.zero_add]; exact (hV j o hj (hallj j (by have := (hmd j o hj).1; omega))).get) (hq _ g w (fun j => by
            by_cases hj : j < i
            · rw [hallj j hj, decide_eq_true hj]
            · rw [decide_eq_false hj]
              by_cases hjl : j < l.length
              · exact hno j (by omega) hjl
              · exact out_false listed j (by omega)) hT)
          have hfa := hfin a ha
          have hcn : cnt listed l.length = i := by
            have hz : ∀ k, i ≤ k → k ≤ l.length → cnt listed k = i := by
              intro k
              induction k with
              | zero => intro h _; rw [show i = 0 by omega]; rfl
              | succ k ihk =>
                intro h1 h2
                by_cases hk : i ≤ k
                · rw [cnt_succ, ihk hk (by omega), hno k hk (by omega)]; simp
                · have : k + 1 = i := by omega
                  rw [this]
                  exact cnt_all listed i hallj
            exact hz _ (by omega) (Nat.le_refl _)
          have htl := any_tail (rd := rd) (P := P) (m := i) (R := lift n Q) hb hord (fuel + 1) i listed a w (Nat.le_refl _) hs' hc (fun j hj => ⟨(fun h => by
            refine Nat.lt_of_not_le fun hij => ?_
            rw [hno j hij (by simpa using hj)] at h
            cases h), hallj j⟩) (by simp; omega) hfa
          exact htl.2 i hi
  have h0 : Is n dm a (mask ds f f) := by
    have : mask ds f f = f := by funext k; unfold mask; cases ds.elem k <;> rfl
    rw [this]; exact ha
  have hz : cnt (Array.replicate l.toArray.size false) l.length = 0 := by
    unfold cnt
    rw [List.length_eq_zero_iff]
    refine List.filter_eq_nil_iff.2 fun j hj => ?_
    rw [repl_false]
    simp
  refine main _ _ f a _ (by simp) (by rw [hz]; simp) ?_ (by intro j _ _; rw [repl_false]) h0 (by rw [show (fun j => (Array.replicate l.toArray.size false).getD j false) = fun _ => false from funext fun j => repl_false _ j]; exact hT) ?_
  · intro j o _ h; rw [repl_false] at h; cases h
  · intro j o _ h; rw [repl_false] at h; cases h
end
end Gw
end Go.Proofs.YtjjkhjieegmphaaDoor
