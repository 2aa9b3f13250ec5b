/- Loops over functions, by what a call knows of memory. -/
import Derived.Test.YtjjkhjieegmphaaDoorGwLit
import Derived.Test.YtjjkhjieegmphaaDoorGwSeg
namespace Go.Proofs.YtjjkhjieegmphaaDoor
open Go.RowKit
namespace Gw
section
variable {A : Nat → Prop} {N : Oth} {w0 w w' : World} {L Z : List OA}
/-- behind a loop over a function, at the end: what was put off is taken -/
theorem St.take {B : Nat} (h : St A (N.done B) w0 w L Z) (hB : w0.heap.size ≤ B ∧ ¬ N B ∧ ¬ N (B + 1)) : Ob w B (.deferred (some [])) ∧ ∀ w', Chg (· = B) w w' → St A N w0 w' L Z := by
  have hw := h.wats
  refine ⟨hw (B, .deferred (some [])) (by simp [Oth.done]), fun w' hc => h.others hc (fun i hi => ⟨?_, by rw [hi]; exact hB.1⟩) (fun i hi => .inl hi) fun d hd => ?_⟩
  · rw [hi]; exact .inr (.inl rfl)
  · exact (hw d (List.mem_cons_of_mem _ hd)).chg hc (fun (q : d.1 = B) => hB.2.1 (q ▸ N.ok d hd))
/-- how a round's body ends -/
def bodyQ {σ ρ γ γ' : Type} (A : Nat → Prop) (w0 : World) (L : σ → γ → List OA) (Lr : ρ → γ' → List OA) (Z : List OA) (br : Bool) (bid : Nat) (N' : Oth) (q : Stp σ ρ) : Post := fun _ e _ w => match e with
  | .normal => ∃ s', q = .go s' ∧ ∃ c, St A N' w0 w (L s' c) Z
  | .ret => ∃ r, q = .ret r ∧ ∃ c, St A N' w0 w (Lr r c) Z
  | .exit id => br = true ∧ id = bid ∧ ∃ s', q = .brk s' ∧ ∃ c, St A N' w0 w (L s' c) Z
  | _ => False
end
section
variable {P : Program} {n : Nat} {dm : List Nat} {Q : Post} {f : Fr} {w : World}
/-- THE LOOP OVER A FUNCTION that gives the values xs, one a round -/
theorem wc_rangeSt {g : Operand} {p : Tmp} {assign body : Code} {k : FuncId} {fi ca : Array Value} {Inv : World → Prop} {α σ ρ γ γ' : Type} {enc : α → Value} {xs : List α} {bd : α → σ → Option (Stp σ ρ)} {o : σ ⊕ ρ} {s0 : σ} {A : Nat → Prop} {N : Oth} {w0 : World} {L : σ → γ → List OA} {Lr : ρ → γ' → List OA} {Z : List OA} (c0 : γ) (br : Bool) (bid : Nat)
    (hg : evF f g = .func (.func k) fi ca) (hk : Callable P k) (hs : Gives P k (fun y => fi.toList ++ [y] ++ ca.toList) Inv (xs.map fun x => [enc x])) (hp : p < n)
    (hInv : ∀ N' s c W, St A N' w0 W (L s c) Z → Inv W) (S : St A N w0 w (L s0 c0) Z) (e : forE bd xs s0 = some o)
    (hr : ∀ x s c q N' rd u, bd x s = some q → St A N' w0 u (L s c) Z → wc P rd n [] assign (thenP (fun dm' f1 w1 => dm' = [] ∧ St A N' w0 w1 (L s c) Z ∧ ∀ N' w2, St A N' w0 w2 (L s c) Z → wc P rd n [] body (bodyQ A w0 L Lr Z br bid N' q) f1 w2) (fun _ _ _ _ => False)) (upd f p (enc x)) u)
    (hdone : ∀ s c B W, o = .inl s → St A (N.done B) w0 W (L s c) Z → (w0.heap.size ≤ B ∧ ¬ N B ∧ ¬ N (B + 1)) → Q (B :: dm) .normal f W)
    (hret : ∀ r c B W, o = .inr r → St A (N.done B) w0 W (Lr r c) Z → (w0.heap.size ≤ B ∧ ¬ N B ∧ ¬ N (B + 1)) → Q (B :: dm) .ret f W)
    (hbrk : br = true → ∀ s c B W, o = .inl s → St A (N.done B) w0 W (L s c) Z → (w0.heap.size ≤ B ∧ ¬ N B ∧ ¬ N (B + 1)) → Q (B :: dm) (.exit bid) f W) :
    wc P none n dm (.rangeFunc g #[p] assign body) Q f w := by
  have hB0 : ∀ B, w.heap.size = B → w0.heap.size ≤ B ∧ ¬ N B ∧ ¬ N (B + 1) := fun B hB => ⟨hB ▸ S.size, fun q => absurd (S.othlt _ q) (by omega), fun q => absurd (S.othlt _ q) (by omega)⟩
  generalize hB : w.heap.size = B at *
  have hBB := hB0 B rfl
  -- what holds between rounds
  let NB : Oth := N.or (fun i => i = B ∨ i = B + 1)
  have drop2 : ∀ {o1 o2 : Obj} {W : World} {LL : List OA}, St A (N.loop B o1 o2) w0 W LL Z → St A NB w0 W LL Z := fun h => h.less (fun i hi => hi) (fun d hd => h.wats d (List.mem_cons_of_mem _ (List.mem_cons_of_mem _ hd)))
  have watch : ∀ {W W' : World} {LL : List OA} {o1 o2 : Obj}, St A NB w0 W LL Z → Chg (· = B + 1) W W' → Ob W' B o1 → Ob W' (B + 1) o2 → St A (N.loop B o1 o2) w0 W' LL Z := by
    intro W W' LL o1 o2 h hc h1 h2
    refine h.others hc (fun i hi => ⟨by rw [hi]; exact .inr (.inr rfl), by rw [hi]; omega⟩) (fun i hi => hi) fun d hd => ?_
    rcases List.mem_cons.1 hd with rfl | hd
    · exact h1
    rcases List.mem_cons.1 hd with rfl | hd
    · exact h2
    · exact (h.wats d hd).chg hc (fun (q : d.1 = B + 1) => hBB.2.2 (q ▸ N.ok d hd))
  have turn : ∀ {W W' : World} {LL : List OA}, St A NB w0 W LL Z → Chg (· = B + 1) W W' → St A NB w0 W' LL Z := by
    intro W W' LL h hc
    refine h.others hc (fun i hi => ⟨by rw [hi]; exact .inr (.inr rfl), by rw [hi]; omega⟩) (fun i hi => hi) fun d hd => ?_
    exact (h.wats d hd).chg hc (fun (q : d.1 = B + 1) => hBB.2.2 (q ▸ N.ok d hd))
  have over : ∀ {W : World} {LL : List OA}, St A NB w0 W LL Z → Ob W B (.deferred (some [])) → St A (N.done B) w0 W LL Z := by
    intro W LL h h1
    refine h.less (fun i hi => hi) fun d hd => ?_
    rcases List.mem_cons.1 hd with rfl | hd
    · exact h1
    · exact h.wats d hd
  refine wc_range (ps := [p]) B hB hg hk hs (by simpa using hp) (by simp)
    (fun i W => ∃ s, forE bd (xs.drop i) s = some o ∧ ∃ c, St A NB w0 W (L s c) Z)
    (fun c W => match c with | .ret => ∃ r, o = .inr r ∧ ∃ c, St A NB w0 W (Lr r c) Z | .exit id => br = true ∧ id = bid ∧ ∃ s, o = .inl s ∧ ∃ c, St A NB w0 W (L s c) Z | _ => False)
    (fun i W ⟨s, _, c, h⟩ => hInv _ _ _ _ h) (fun i W W' ⟨s, h1, c, h2⟩ hc => ⟨s, h1, c, turn h2 hc⟩) ?_ ?_ ?_ ?_ ?_
  · intro c W W' h hc
    cases c with
    | ret => obtain ⟨r, h1, c, h2⟩ := h; exact ⟨r, h1, c, turn h2 hc⟩
    | exit id => obtain ⟨hb, h0, s, h1, c, h2⟩ := h; exact ⟨hb, h0, s, h1, c, turn h2 hc⟩
    | _ => exact h
  · intro w' hx hlt
    refine ⟨s0, by simpa using e, c0, ?_⟩
    exact S.more hx (fun i hi => by rcases hi with rfl | rfl <;> constructor <;> omega)
  · rintro i x W o1 o2 hxi ⟨s, he, c, h⟩ h1 h2
    rw [List.getElem?_map] at hxi
    cases hq : xs[i]? with
    | none => rw [hq] at hxi; cases hxi
    | some x0 =>
      rw [hq] at hxi
      obtain rfl := Option.some.inj hxi
      have hlt : i < xs.length := (List.getElem?_eq_some_iff.1 hq).1
      have hdr : xs.drop i = x0 :: xs.drop (i + 1) := by rw [List.drop_eq_getElem_cons hlt]; congr 1; exact (List.getElem?_eq_some_iff.1 hq).2
      rw [hdr] at he
      obtain ⟨q, hbd, hn⟩ := forE_s he
      refine wc_mono (hr x0 s c q _ _ W hbd (watch h (Chg.refl _ _) h1 h2)) ?_
      rintro dm' ex f1 w1 hp1
      cases ex with
      | normal =>
        obtain ⟨rfl, h3, h4⟩ := hp1
        refine ⟨rfl, h3.wats (B, o1) (by simp [Oth.loop]), h3.wats (B + 1, o2) (by simp [Oth.loop]), fun w2 o2' hc h5 h6 => ?_⟩
        refine wc_mono (h4 _ w2 (watch (drop2 h3) hc h5 h6)) ?_
        rintro dm2 ex f2 w3 hp2
        cases ex with
        | normal =>
          obtain ⟨s', rfl, c', h7⟩ := hp2
          exact ⟨h7.wats (B, o1) (by simp [Oth.loop]), h7.wats (B + 1, o2') (by simp [Oth.loop]), s', hn, c', drop2 h7⟩
        | ret =>
          obtain ⟨r, rfl, c', h7⟩ := hp2
          exact ⟨h7.wats (B, o1) (by simp [Oth.loop]), h7.wats (B + 1, o2') (by simp [Oth.loop]), r, hn, c', drop2 h7⟩
        | exit id =>
          obtain ⟨hbr, h0, s', rfl, c', h7⟩ := hp2
          exact ⟨h7.wats (B, o1) (by simp [Oth.loop]), h7.wats (B + 1, o2') (by simp [Oth.loop]), hbr, h0, s', hn, c', drop2 h7⟩
        | _ => exact hp2.elim
      | _ => exact hp1.elim
  · rintro W ⟨s, he, c, h⟩ h1
    rw [List.length_map, List.drop_length] at he
    exact hdone s c B W (forE_0 he) (over h h1) hBB
  · intro c W h h1
    cases c with
    | ret => obtain ⟨r, h2, c, h3⟩ := h; exact hret r c B W h2 (over h3 h1) hBB
    | exit id => obtain ⟨hb, rfl, s, h2, c, h3⟩ := h; exact hbrk hb s c B W h2 (over h3 h1) hBB
    | _ => trivial
/-- what is behind a loop over a function, or the answer that it has given -/
def fin {σ τ ρ : Type} (k : σ → Option ρ) (k' : τ → Option ρ) : σ ⊕ τ → Option ρ
  | .inl s => k s
  | .inr r => k' r
end
end Gw
end Go.Proofs.YtjjkhjieegmphaaDoor
