/- What a call knows of memory, in one: pieces that are its own (each with its blocks, apart from each other), pieces that stay as they are; and how that turns with each step. Over whatever program. -/
import Derived.Test.YtjjkhjieegmphaaDoorGwSemi
import Derived.Test.YtjjkhjieegmphaaDoorGwRange
namespace Go.Proofs.YtjjkhjieegmphaaDoor
open Go.RowKit
namespace Gw

/-- an assertion on blocks -/
structure OA where
  holds : World → (Nat → Prop) → Prop
  loc : ∀ {S : Nat → Prop} {w w' : World} {F : Nat → Prop}, holds w F → Chg S w w' → (∀ i, F i → ¬ S i) → holds w' F
  lt : ∀ {w : World} {F : Nat → Prop}, holds w F → ∀ i, F i → i < w.heap.size

/-- pieces apart from each other, all of them in U -/
def Sep (w : World) : (Nat → Prop) → List OA → Prop
  | _, [] => True
  | U, a :: L => ∃ F, a.holds w F ∧ (∀ i, F i → U i) ∧ Sep w (fun i => U i ∧ ¬ F i) L
theorem Sep.mono {w : World} : ∀ {L : List OA} {U V : Nat → Prop}, Sep w U L → (∀ i, U i → V i) → Sep w V L
  | [], _, _, _, _ => trivial
  | _ :: _, _, _, ⟨F, h, hF, hL⟩, hv => ⟨F, h, fun i hi => hv i (hF i hi), hL.mono fun i hi => ⟨hv i hi.1, hi.2⟩⟩
theorem Sep.chg {S : Nat → Prop} {w w' : World} (hc : Chg S w w') : ∀ {L : List OA} {U : Nat → Prop}, Sep w U L → (∀ i, U i → ¬ S i) → Sep w' U L
  | [], _, _, _ => trivial
  | a :: _, _, ⟨F, h, hF, hL⟩, hs => ⟨F, a.loc h hc (fun i hi => hs i (hF i hi)), hF, Sep.chg hc hL fun i hi => hs i hi.1⟩
theorem Sep.front {w : World} : ∀ {L : List OA} {U : Nat → Prop} (k : Nat) {a : OA}, Sep w U L → L[k]? = some a → Sep w U (a :: L.eraseIdx k)
  | [], _, _, _, _, h => by simp at h
  | _ :: _, _, 0, _, h, e => by simp at e; subst e; simpa using h
  | b :: L, U, k + 1, a, ⟨F, h, hF, hL⟩, e => by
    obtain ⟨G, g, hG, hR⟩ := hL.front k (by simpa using e)
    refine ⟨G, g, fun i hi => (hG i hi).1, F, h, fun i hi => ⟨hF i hi, fun hg => (hG i hg).2 hi⟩, ?_⟩
    exact hR.mono fun i hi => ⟨⟨hi.1.1, hi.2⟩, hi.1.2⟩
theorem Sep.split {w : World} : ∀ {P R : List OA} {U : Nat → Prop}, Sep w U (P ++ R) → ∃ A, (∀ i, A i → U i ∧ i < w.heap.size) ∧ Sep w A P ∧ Sep w (fun i => U i ∧ ¬ A i) R
  | [], _, _, h => ⟨fun _ => False, fun _ x => x.elim, trivial, h.mono fun i hi => ⟨hi, fun x => x⟩⟩
  | a :: P, R, U, ⟨F, h, hF, hL⟩ => by
    obtain ⟨A, hA, hP, hR⟩ := Sep.split (P := P) (R := R) hL
    refine ⟨fun i => F i ∨ A i, fun i hi => hi.elim (fun hi => ⟨hF i hi, a.lt h i hi⟩) (fun hi => ⟨(hA i hi).1.1, (hA i hi).2⟩), ⟨F, h, fun i hi => .inl hi, hP.mono fun i hi => ⟨.inr hi, (hA i hi).1.2⟩⟩, ?_⟩
    exact hR.mono fun i hi => ⟨hi.1.1, fun h => h.elim hi.1.2 hi.2⟩
theorem Sep.join {w : World} : ∀ {P R : List OA} {A B U : Nat → Prop}, Sep w A P → Sep w B R → (∀ i, A i → U i) → (∀ i, B i → U i) → (∀ i, A i → ¬ B i) → Sep w U (P ++ R)
  | [], _, _, _, _, _, h, _, hB, _ => h.mono hB
  | _ :: _, _, _, _, _, ⟨F, h, hF, hL⟩, hR, hA, hB, hd => ⟨F, h, fun i hi => hA i (hF i hi), Sep.join hL hR (fun i hi => ⟨hA i hi.1, hi.2⟩) (fun i hi => ⟨hB i hi, fun hf => hd i (hF i hf) hi⟩) (fun i hi => hd i hi.1)⟩

/-- pieces that stay as they are; none of them in X -/
def Frz (w : World) (X : Nat → Prop) (Z : List OA) : Prop := ∀ z ∈ Z, ∃ F, z.holds w F ∧ ∀ i, F i → ¬ X i

/-- blocks of others, and what is known of some of them -/
structure Oth where
  blk : Nat → Prop
  wat : List (Nat × Obj)
  ok : ∀ d ∈ wat, blk d.1
instance : CoeFun Oth (fun _ => Nat → Prop) := ⟨Oth.blk⟩
def Wat (w : World) (N : Oth) : Prop := ∀ d ∈ N.wat, Ob w d.1 d.2
theorem Wat.chg {S : Nat → Prop} {w w' : World} {N : Oth} (h : Wat w N) (hc : Chg S w w') (hs : ∀ i, S i → ¬ N i) : Wat w' N := fun d hd => (h d hd).chg hc (fun q => hs _ q (N.ok d hd))
def Oth.or (N : Oth) (F : Nat → Prop) : Oth := ⟨fun i => N i ∨ F i, N.wat, fun d hd => .inl (N.ok d hd)⟩
/-- a loop over a function: its two blocks -/
def Oth.loop (N : Oth) (B : Nat) (o1 o2 : Obj) : Oth := ⟨fun i => N i ∨ (i = B ∨ i = B + 1), (B, o1) :: (B + 1, o2) :: N.wat, fun d hd => by
  rcases List.mem_cons.1 hd with rfl | hd
  · exact .inr (.inl rfl)
  rcases List.mem_cons.1 hd with rfl | hd
  · exact .inr (.inr rfl)
  · exact .inl (N.ok d hd)⟩
/-- it is over: what it has put off -/
def Oth.done (N : Oth) (B : Nat) : Oth := ⟨fun i => N i ∨ (i = B ∨ i = B + 1), (B, .deferred (some [])) :: N.wat, fun d hd => by
  rcases List.mem_cons.1 hd with rfl | hd
  · exact .inr (.inl rfl)
  · exact .inl (N.ok d hd)⟩
/-- all that is known in the world w of a call that began in w0: it has written in A and in new blocks alone; N: blocks of others, of which it knows nothing; L: its own; Z: what stays -/
def St (A : Nat → Prop) (N : Oth) (w0 w : World) (L Z : List OA) : Prop :=
  ∃ U, (∀ i, U i → (A i ∨ w0.heap.size ≤ i) ∧ i < w.heap.size ∧ ¬ N i) ∧ (∀ i, N i → i < w.heap.size) ∧ Chg A w0 w ∧ Sep w U L ∧ Frz w (fun i => U i ∨ N i) Z ∧ Wat w N

section
variable {A : Nat → Prop} {N : Oth} {w0 w w' : World} {L Z : List OA}
theorem St.frame (h : St A N w0 w L Z) : Chg A w0 w := h.elim fun _ h => h.2.2.1
theorem St.size (h : St A N w0 w L Z) : w0.heap.size ≤ w.heap.size := h.frame.size
theorem Frz.chg {S X Y : Nat → Prop} (h : Frz w X Z) (hc : Chg S w w') (hs : ∀ i, S i → X i) (hv : ∀ i, Y i → X i ∨ w.heap.size ≤ i) : Frz w' Y Z := fun z hz => by
  obtain ⟨F, g, hF⟩ := h z hz
  exact ⟨F, z.loc g hc (fun i hi hsi => hF i hi (hs i hsi)), fun i hi hv' => (hv i hv').elim (hF i hi) (fun q => by have := z.lt g i hi; omega)⟩
theorem St.ext (h : St A N w0 w L Z) (hc : Ext w w') : St A N w0 w' L Z := by
  obtain ⟨U, hU, hN, hA, hL, hZ, hW⟩ := h
  exact ⟨U, fun i hi => ⟨(hU i hi).1, Nat.lt_of_lt_of_le (hU i hi).2.1 hc.size, (hU i hi).2.2⟩, fun i hi => Nat.lt_of_lt_of_le (hN i hi) hc.size, hA.thenExt hc, Sep.chg hc hL (fun _ _ x => x), hZ.chg hc (fun _ x => x.elim) (fun _ hi => .inl hi), hW.chg hc (fun _ x => x.elim)⟩
theorem St.front (h : St A N w0 w L Z) (k : Nat) {a : OA} {L' : List OA} (e : L[k]? = some a := by rfl) (e' : a :: L.eraseIdx k = L' := by rfl) : St A N w0 w L' Z := by
  subst e'
  obtain ⟨U, hU, hN, hA, hL, hZ, hW⟩ := h
  exact ⟨U, hU, hN, hA, hL.front k e, hZ, hW⟩
theorem St.own (h : St A N w0 w L Z) (k : Nat) {a : OA} (e : L[k]? = some a) : ∃ F, a.holds w F := by
  obtain ⟨U, hU, hN, hA, hL, hZ, hW⟩ := h
  obtain ⟨F, hF, _⟩ := hL.front k e
  exact ⟨F, hF⟩
theorem St.frz (h : St A N w0 w L Z) (k : Nat) {a : OA} (e : Z[k]? = some a) : ∃ F, a.holds w F := by
  obtain ⟨U, hU, hN, hA, hL, hZ, hW⟩ := h
  obtain ⟨F, hF, _⟩ := hZ a (List.mem_of_getElem? e)
  exact ⟨F, hF⟩
/-- a step on one piece: it comes to the front -/
theorem St.upd (h : St A N w0 w L Z) (k : Nat) {a b : OA} {L' : List OA} (hk : ∀ F, a.holds w F → ∃ G, b.holds w' G ∧ (∀ i, G i → F i ∨ w.heap.size ≤ i) ∧ Chg F w w') (e : L[k]? = some a := by rfl) (e' : b :: L.eraseIdx k = L' := by rfl) : St A N w0 w' L' Z := by
  subst e'
  obtain ⟨U, hU, hN, hA, hL, hZ, hW⟩ := h
  obtain ⟨F, g, hF, hR⟩ := hL.front k e
  obtain ⟨G, g', hG, hc⟩ := hk F g
  refine ⟨fun i => U i ∨ (G i ∧ w.heap.size ≤ i), fun i hi => ?_, fun i hi => Nat.lt_of_lt_of_le (hN i hi) hc.size, hA.thenChg hc (fun i hi hf => ?_), ⟨G, g', fun i hi => (hG i hi).imp (hF i) (fun q => ⟨hi, q⟩), ?_⟩, hZ.chg hc (fun i hi => .inl (hF i hi)) (fun i hi => ?_), hW.chg hc (fun i hi => (hU i (hF i hi)).2.2)⟩
  · rcases hi with hi | hi
    · exact ⟨(hU i hi).1, Nat.lt_of_lt_of_le (hU i hi).2.1 hc.size, (hU i hi).2.2⟩
    · exact ⟨.inr (Nat.le_trans hA.size hi.2), b.lt g' i hi.1, fun hn => absurd (hN i hn) (by omega)⟩
  · exact ((hU i (hF i hf)).1).elim id (fun q => absurd hi (by omega))
  · exact (Sep.chg hc hR fun i hi => hi.2).mono fun i hi => ⟨.inl hi.1, fun hg => (hG i hg).elim hi.2 (fun q => absurd (hU i hi.1).2.1 (by omega))⟩
  · rcases hi with (hi | hi) | hi
    · exact .inl (.inl hi)
    · exact .inr hi.2
    · exact .inl (.inr hi)
/-- a piece is made -/
theorem St.add (h : St A N w0 w L Z) {b : OA} {G : Nat → Prop} (hc : Ext w w') (hb : b.holds w' G) (hG : ∀ i, G i → w.heap.size ≤ i) : St A N w0 w' (b :: L) Z := by
  obtain ⟨U, hU, hN, hA, hL, hZ, hW⟩ := h
  refine ⟨fun i => U i ∨ G i, fun i hi => ?_, fun i hi => Nat.lt_of_lt_of_le (hN i hi) hc.size, hA.thenExt hc, ⟨G, hb, fun i hi => .inr hi, ?_⟩, hZ.chg hc (fun _ x => x.elim) (fun i hi => ?_), hW.chg hc (fun _ x => x.elim)⟩
  · rcases hi with hi | hi
    · exact ⟨(hU i hi).1, Nat.lt_of_lt_of_le (hU i hi).2.1 hc.size, (hU i hi).2.2⟩
    · exact ⟨.inr (Nat.le_trans hA.size (hG i hi)), b.lt hb i hi, fun hn => absurd (hN i hn) (by have := hG i hi; omega)⟩
  · exact (Sep.chg hc hL fun _ _ x => x).mono fun i hi => ⟨.inl hi, fun hg => absurd (hU i hi).2.1 (by have := hG i hg; omega)⟩
  · rcases hi with (hi | hi) | hi
    · exact .inl (.inl hi)
    · exact .inr (hG i hi)
    · exact .inl (.inr hi)
/-- what is made stays as it is -/
theorem St.addZ (h : St A N w0 w L Z) {b : OA} {G : Nat → Prop} (hc : Ext w w') (hb : b.holds w' G) (hG : ∀ i, G i → w.heap.size ≤ i) : St A N w0 w' L (b :: Z) := by
  have h' := h.ext hc
  obtain ⟨U, hU, hN, hA, hL, hZ, hW⟩ := h
  refine ⟨U, fun i hi => ⟨(hU i hi).1, Nat.lt_of_lt_of_le (hU i hi).2.1 hc.size, (hU i hi).2.2⟩, fun i hi => Nat.lt_of_lt_of_le (hN i hi) hc.size, hA.thenExt hc, Sep.chg hc hL (fun _ _ x => x), fun z hz => ?_, hW.chg hc (fun _ x => x.elim)⟩
  rcases List.mem_cons.1 hz with rfl | hz
  · refine ⟨G, hb, fun i hi q => ?_⟩
    have := hG i hi
    rcases q with q | q
    · exact absurd (hU i q).2.1 (by omega)
    · exact absurd (hN i q) (by omega)
  · exact (hZ.chg hc (fun _ x => x.elim) (fun _ hi => .inl hi)) z hz
theorem St.drop (h : St A N w0 w L Z) (k : Nat) {a : OA} {L' : List OA} (e : L[k]? = some a := by rfl) (e' : L.eraseIdx k = L' := by rfl) : St A N w0 w L' Z := by
  subst e'
  obtain ⟨U, hU, hN, hA, hL, hZ, hW⟩ := h
  obtain ⟨F, g, hF, hR⟩ := hL.front k e
  exact ⟨U, hU, hN, hA, hR.mono fun i hi => hi.1, hZ, hW⟩
/-- a piece stays as it is from now on -/
theorem St.freeze (h : St A N w0 w L Z) (k : Nat) {a b : OA} {L' : List OA} (hab : ∀ F, a.holds w F → b.holds w F) (e : L[k]? = some a := by rfl) (e' : L.eraseIdx k = L' := by rfl) : St A N w0 w L' (b :: Z) := by
  subst e'
  obtain ⟨U, hU, hN, hA, hL, hZ, hW⟩ := h
  obtain ⟨F, g, hF, hR⟩ := hL.front k e
  refine ⟨fun i => U i ∧ ¬ F i, fun i hi => hU i hi.1, hN, hA, hR, fun z hz => ?_, hW⟩
  rcases List.mem_cons.1 hz with rfl | hz
  · exact ⟨F, hab F g, fun i hi q => q.elim (fun q => q.2 hi) (fun q => (hU i (hF i hi)).2.2 q)⟩
  · obtain ⟨G, g', hG⟩ := hZ z hz
    exact ⟨G, g', fun i hi q => hG i hi (q.imp (·.1) id)⟩
/-- what stays tells more -/
theorem St.tell (h : St A N w0 w L Z) (k : Nat) {a b : OA} (hab : ∀ F, a.holds w F → b.holds w F) (e : Z[k]? = some a := by rfl) : St A N w0 w L (b :: Z) := by
  obtain ⟨U, hU, hN, hA, hL, hZ, hW⟩ := h
  refine ⟨U, hU, hN, hA, hL, fun z hz => ?_, hW⟩
  rcases List.mem_cons.1 hz with rfl | hz
  · obtain ⟨F, g, hF⟩ := hZ a (List.mem_of_getElem? e)
    exact ⟨F, hab F g, hF⟩
  · exact hZ z hz
/-- a part of what stays -/
theorem St.part (h : St A N w0 w L Z) (k : Nat) {a b : OA} (hab : ∀ F, a.holds w F → ∃ G, b.holds w G ∧ ∀ i, G i → F i) (e : Z[k]? = some a := by rfl) : St A N w0 w L (b :: Z) := by
  obtain ⟨U, hU, hN, hA, hL, hZ, hW⟩ := h
  refine ⟨U, hU, hN, hA, hL, fun z hz => ?_, hW⟩
  rcases List.mem_cons.1 hz with rfl | hz
  · obtain ⟨F, g, hF⟩ := hZ a (List.mem_of_getElem? e)
    obtain ⟨G, g', hG⟩ := hab F g
    exact ⟨G, g', fun i hi => hF i (hG i hi)⟩
  · exact hZ z hz
/-- a fact without blocks -/
theorem St.say (h : St A N w0 w L Z) {b : OA} (hb : b.holds w (fun _ => False)) : St A N w0 w L (b :: Z) := by
  obtain ⟨U, hU, hN, hA, hL, hZ, hW⟩ := h
  refine ⟨U, hU, hN, hA, hL, fun z hz => ?_, hW⟩
  rcases List.mem_cons.1 hz with rfl | hz
  · exact ⟨_, hb, fun _ x => x.elim⟩
  · exact hZ z hz
theorem St.pickZ (h : St A N w0 w L Z) {Z' : List OA} (hz : ∀ z ∈ Z', z ∈ Z) : St A N w0 w L Z' := by
  obtain ⟨U, hU, hN, hA, hL, hZ, hW⟩ := h
  exact ⟨U, hU, hN, hA, hL, fun z q => hZ z (hz z q), hW⟩
/-- more blocks of others, that are new -/
theorem St.more (h : St A N w0 w L Z) {M : Nat → Prop} (hc : Ext w w') (hM : ∀ i, M i → w.heap.size ≤ i ∧ i < w'.heap.size) : St A (N.or M) w0 w' L Z := by
  obtain ⟨U, hU, hN, hA, hL, hZ, hW⟩ := h
  refine ⟨U, fun i hi => ⟨(hU i hi).1, Nat.lt_of_lt_of_le (hU i hi).2.1 hc.size, fun q => q.elim (hU i hi).2.2 (fun q => absurd (hU i hi).2.1 (by have := (hM i q).1; omega))⟩, fun i hi => hi.elim (fun q => Nat.lt_of_lt_of_le (hN i q) hc.size) (fun q => (hM i q).2), hA.thenExt hc, Sep.chg hc hL (fun _ _ x => x), hZ.chg hc (fun _ x => x.elim) (fun i hi => ?_), hW.chg hc (fun _ x => x.elim)⟩
  rcases hi with hi | hi | hi
  · exact .inl (.inl hi)
  · exact .inl (.inr hi)
  · exact .inr (hM i hi).1
/-- others have turned what is theirs; what is known of them from now on -/
theorem St.others (h : St A N w0 w L Z) {M : Nat → Prop} {N' : Oth} (hc : Chg M w w') (hM : ∀ i, M i → N i ∧ w0.heap.size ≤ i) (hN' : ∀ i, N' i → N i) (hw : Wat w' N') : St A N' w0 w' L Z := by
  obtain ⟨U, hU, hN, hA, hL, hZ, hW⟩ := h
  exact ⟨U, fun i hi => ⟨(hU i hi).1, Nat.lt_of_lt_of_le (hU i hi).2.1 hc.size, fun q => (hU i hi).2.2 (hN' i q)⟩, fun i hi => Nat.lt_of_lt_of_le (hN i (hN' i hi)) hc.size, hA.thenChg hc (fun i hi hm => absurd (hM i hm).2 (by omega)), Sep.chg hc hL (fun i hi q => (hU i hi).2.2 (hM i q).1), hZ.chg hc (fun i hi => .inr (hM i hi).1) (fun _ hi => .inl (hi.imp id (hN' _))), hw⟩
/-- less of them -/
theorem St.less (h : St A N w0 w L Z) {M : Oth} (hM : ∀ i, M i → N i) (hw : Wat w M) : St A M w0 w L Z := h.others (Chg.refl (fun _ => False) w) (fun _ x => x.elim) hM hw
theorem St.wats (h : St A N w0 w L Z) : Wat w N := by
  obtain ⟨U, hU, hN, hA, hL, hZ, hW⟩ := h
  exact hW
theorem St.othlt (h : St A N w0 w L Z) : ∀ i, N i → i < w.heap.size := by
  obtain ⟨U, hU, hN, hA, hL, hZ, hW⟩ := h
  exact hN
def sel (Z : List OA) (l : List Nat) : List OA := l.filterMap fun k => Z[k]?
theorem sel_mem {Z : List OA} {l : List Nat} : ∀ z ∈ sel Z l, z ∈ Z := fun z hz => by
  obtain ⟨k, _, hk⟩ := List.mem_filterMap.1 hz
  exact List.mem_of_getElem? hk
theorem St.zs (h : St A N w0 w L Z) (l : List Nat) {Z' : List OA} (e : sel Z l = Z' := by rfl) : St A N w0 w L Z' := e ▸ h.pickZ sel_mem
/-- a call: it is given the first pieces P, and of what stays Zc; what it leaves of them comes to the front -/
theorem St.sub (h : St A N w0 w L Z) (l : List Nat) (P R : List OA) {Zc : List OA} (e : L = P ++ R := by rfl) (ez : sel Z l = Zc := by rfl) : ∃ B M, St B M w w P Zc ∧ ∀ w' P' Z' L' Z'', St B M w w' P' Z' → P' ++ R = L' → Z' ++ Z = Z'' → St A N w0 w' L' Z'' := by
  subst e ez
  obtain ⟨U, hU, hN, hA, hL, hZ, hW⟩ := h
  obtain ⟨B, hB, hP, hR⟩ := hL.split
  refine ⟨B, ⟨fun i => (U i ∧ ¬ B i) ∨ N i, N.wat, fun d hd => .inr (N.ok d hd)⟩, ⟨B, fun i hi => ⟨.inl hi, (hB i hi).2, fun q => q.elim (fun q => q.2 hi) (hU i (hB i hi).1).2.2⟩, fun i hi => hi.elim (fun q => (hU i q.1).2.1) (hN i), Chg.refl _ _, hP, fun z hz => ?_, hW⟩, ?_⟩
  · obtain ⟨F, g, hF⟩ := hZ z (sel_mem z hz)
    exact ⟨F, g, fun i hi hb => hF i hi (hb.elim (fun q => .inl (hB i q).1) (fun q => q.imp (·.1) id))⟩
  · rintro w' P' Z' L' Z'' ⟨V, hV, hM, hc, hP', hZ', hW'⟩ rfl rfl
    have hR' := Sep.chg hc hR fun i hi => hi.2
    refine ⟨fun i => V i ∨ (U i ∧ ¬ B i), fun i hi => ?_, fun i hi => Nat.lt_of_lt_of_le (hN i hi) hc.size, hA.thenChg hc (fun i hi hb => ?_), ?_, fun z hz => ?_, hW.chg hc (fun i hi => (hU i (hB i hi).1).2.2)⟩
    · rcases hi with hi | hi
      · exact ⟨((hV i hi).1).elim (fun q => (hU i (hB i q).1).1) (fun q => .inr (Nat.le_trans hA.size q)), (hV i hi).2.1, fun q => (hV i hi).2.2 (.inr q)⟩
      · exact ⟨(hU i hi.1).1, Nat.lt_of_lt_of_le (hU i hi.1).2.1 hc.size, (hU i hi.1).2.2⟩
    · exact ((hU i (hB i hb).1).1).elim id (fun q => absurd hi (by omega))
    · refine Sep.join hP' hR' (fun i hi => .inl hi) (fun i hi => .inr hi) fun i hi q => ?_
      exact (hV i hi).2.2 (.inl q)
    · rcases List.mem_append.1 hz with hz | hz
      · obtain ⟨F, g, hF⟩ := hZ' z hz
        refine ⟨F, g, fun i hi q => hF i hi ?_⟩
        rcases q with (q | q) | q
        · exact .inl q
        · exact .inr (.inl q)
        · exact .inr (.inr q)
      · obtain ⟨F, g, hF⟩ := hZ z hz
        refine ⟨F, z.loc g hc (fun i hi hb => hF i hi (.inl (hB i hb).1)), fun i hi q => ?_⟩
        rcases q with (q | q) | q
        · exact ((hV i q).1).elim (fun b => hF i hi (.inl (hB i b).1)) (fun p => absurd (z.lt g i hi) (by omega))
        · exact hF i hi (.inl q.1)
        · exact hF i hi (.inr q)
end

-- pieces
/-- a block -/
def oB (b : Nat) (t : TypeId) (l : List Value) : OA where
  holds := fun w F => Blk w b t l ∧ ∀ i, F i ↔ i = b
  loc := fun h hc hs => ⟨h.1.chg hc (hs b ((h.2 b).2 rfl)), h.2⟩
  lt := fun h i hi => by rw [(h.2 i).1 hi]; exact h.1.lt
/-- a slice that may be appended to -/
def oS (e k : Nat) {α : Type} (C : α → List Value) (s : SlV) (l : List α) : OA where
  holds := fun w F => (Own w 0 e k s (l.map C) ∧ l.length ≤ 140737488355328) ∧ ∀ i, F i ↔ s.fp i
  loc := fun h hc hs => ⟨⟨h.1.1.keep hc (fun i hi => hs i ((h.2 i).2 hi)), h.1.2⟩, h.2⟩
  lt := fun h i hi => h.1.1.lt i ((h.2 i).1 hi)
/-- a slice that is read -/
def fS (k : Nat) {α : Type} (C : α → List Value) (s : SlV) (l : List α) : OA where
  holds := fun w F => (Rd w k s (l.map C) ∧ l.length ≤ 140737488355328) ∧ ∀ i, F i ↔ s.fp i
  loc := fun h hc hs => ⟨⟨h.1.1.keep hc (fun i hi => hs i ((h.2 i).2 hi)), h.1.2⟩, h.2⟩
  lt := fun h i hi => h.1.1.lt i ((h.2 i).1 hi)
/-- a map -/
def oM (m : Nat) {α β : Type} (C : α → Value) (D : β → Value) (l : List (α × β)) : OA where
  holds := fun w F => MapB w m C D l ∧ ∀ i, F i ↔ i = m
  loc := fun h hc hs => ⟨h.1.chg hc (hs m ((h.2 m).2 rfl)), h.2⟩
  lt := fun h i hi => by rw [(h.2 i).1 hi]; exact h.1.lt

section
variable {A : Nat → Prop} {N : Oth} {w0 w w' : World} {L Z : List OA}
theorem St.blk (h : St A N w0 w L Z) (k : Nat) {b t : Nat} {l : List Value} (e : L[k]? = some (oB b t l) := by rfl) : Blk w b t l := (h.own k e).elim fun _ h => h.1
theorem St.blkZ (h : St A N w0 w L Z) (k : Nat) {b t : Nat} {l : List Value} (e : Z[k]? = some (oB b t l) := by rfl) : Blk w b t l := (h.frz k e).elim fun _ h => h.1
theorem St.sl (h : St A N w0 w L Z) (n : Nat) {e k : Nat} {α : Type} {C : α → List Value} {s : SlV} {l : List α} (q : L[n]? = some (oS e k C s l) := by rfl) : Own w 0 e k s (l.map C) := (h.own n q).elim fun _ h => h.1.1
theorem St.lenO (h : St A N w0 w L Z) (n : Nat) {e k : Nat} {α : Type} {C : α → List Value} {s : SlV} {l : List α} (q : L[n]? = some (oS e k C s l) := by rfl) : l.length ≤ 140737488355328 := (h.own n q).elim fun _ h => h.1.2
theorem St.len (h : St A N w0 w L Z) (n : Nat) {k : Nat} {α : Type} {C : α → List Value} {s : SlV} {l : List α} (q : Z[n]? = some (fS k C s l) := by rfl) : l.length ≤ 140737488355328 := (h.frz n q).elim fun _ h => h.1.2
theorem St.rdO (h : St A N w0 w L Z) (n : Nat) {e k : Nat} {α : Type} {C : α → List Value} {s : SlV} {l : List α} (q : L[n]? = some (oS e k C s l) := by rfl) : Rd w k s (l.map C) := (h.sl n q).toRd
theorem St.rd (h : St A N w0 w L Z) (n : Nat) {k : Nat} {α : Type} {C : α → List Value} {s : SlV} {l : List α} (q : Z[n]? = some (fS k C s l) := by rfl) : Rd w k s (l.map C) := (h.frz n q).elim fun _ h => h.1.1
theorem St.map (h : St A N w0 w L Z) (k : Nat) {m : Nat} {α β : Type} {C : α → Value} {D : β → Value} {l : List (α × β)} (e : L[k]? = some (oM m C D l) := by rfl) : MapB w m C D l := (h.own k e).elim fun _ h => h.1
theorem St.mapZ (h : St A N w0 w L Z) (k : Nat) {m : Nat} {α β : Type} {C : α → Value} {D : β → Value} {l : List (α × β)} (e : Z[k]? = some (oM m C D l) := by rfl) : MapB w m C D l := (h.frz k e).elim fun _ h => h.1
theorem St.new (h : St A N w0 w L Z) {b t : Nat} {l : List Value} (hn : New w w' b t l) : St A N w0 w' (oB b t l :: L) Z :=
  h.add (b := oB b t l) (G := (· = b)) hn.ext ⟨hn.blk, fun _ => Iff.rfl⟩ (fun i hi => by rw [hi, hn.at_]; exact Nat.le_refl _)
theorem St.store (h : St A N w0 w L Z) (k : Nat) {b t : Nat} {l l' : List Value} {L' : List OA} (hb : Blk w' b t l') (hc : Chg (· = b) w w') (e : L[k]? = some (oB b t l) := by rfl) (e' : oB b t l' :: L.eraseIdx k = L' := by rfl) : St A N w0 w' L' Z :=
  h.upd k (a := oB b t l) (b := oB b t l') (fun F hF => ⟨F, ⟨hb, hF.2⟩, fun i hi => .inl hi, hc.mono fun i _ hi => (hF.2 i).2 hi⟩) e e'
theorem St.push (h : St A N w0 w L Z) (n : Nat) {e k : Nat} {α : Type} {C : α → List Value} {s s' : SlV} {l l' : List α} {L' : List OA} (ho : Own w' 0 e k s' (l'.map C)) (hl : l'.length ≤ 140737488355328) (hc : Chg s.fp w w') (hg : ∀ i, s'.fp i → s.fp i ∨ w.heap.size ≤ i) (q : L[n]? = some (oS e k C s l) := by rfl) (q' : oS e k C s' l' :: L.eraseIdx n = L' := by rfl) : St A N w0 w' L' Z :=
  h.upd n (a := oS e k C s l) (b := oS e k C s' l') (fun F hF => ⟨s'.fp, ⟨⟨ho, hl⟩, fun _ => Iff.rfl⟩, fun i hi => (hg i hi).imp (fun x => (hF.2 i).2 x) id, hc.mono fun i _ hi => (hF.2 i).2 hi⟩) q q'
theorem St.mapSet (h : St A N w0 w L Z) (k : Nat) {m : Nat} {α β : Type} {C : α → Value} {D : β → Value} {l l' : List (α × β)} {L' : List OA} (hm : MapStep w w' m C D l') (e : L[k]? = some (oM m C D l) := by rfl) (e' : oM m C D l' :: L.eraseIdx k = L' := by rfl) : St A N w0 w' L' Z :=
  h.upd k (a := oM m C D l) (b := oM m C D l') (fun F hF => ⟨F, ⟨hm.1, hF.2⟩, fun i hi => .inl hi, hm.2.1.mono fun i _ hi => (hF.2 i).2 hi⟩) e e'
theorem St.nil (h : St A N w0 w L Z) (e k : Nat) {α : Type} (C : α → List Value) : St A N w0 w (oS e k C SlV.nil [] :: L) Z :=
  h.add (b := oS e k C SlV.nil []) (G := SlV.nil.fp) (Ext.refl w) ⟨⟨by simpa using Own.nil w 0 e k, by simp⟩, fun _ => Iff.rfl⟩ (fun i hi => absurd rfl hi.1)
theorem St.nilZ (h : St A N w0 w L Z) (k : Nat) {α : Type} (C : α → List Value) : St A N w0 w L (fS k C SlV.nil [] :: Z) :=
  h.say (b := fS k C SlV.nil []) ⟨⟨by simpa using Rd.nil w k, by simp⟩, fun i => ⟨fun x => x.elim, fun x => absurd rfl x.1⟩⟩
theorem St.frzS (h : St A N w0 w L Z) (n : Nat) {e k : Nat} {α : Type} {C : α → List Value} {s : SlV} {l : List α} {L' : List OA} (q : L[n]? = some (oS e k C s l) := by rfl) (q' : L.eraseIdx n = L' := by rfl) : St A N w0 w L' (fS k C s l :: Z) :=
  h.freeze n (a := oS e k C s l) (fun _ hF => ⟨⟨hF.1.1.toRd, hF.1.2⟩, hF.2⟩) q q'
theorem St.frzB (h : St A N w0 w L Z) (n : Nat) {b t : Nat} {l : List Value} {L' : List OA} (q : L[n]? = some (oB b t l) := by rfl) (q' : L.eraseIdx n = L' := by rfl) : St A N w0 w L' (oB b t l :: Z) :=
  h.freeze n (a := oB b t l) (fun _ hF => hF) q q'

/-- what a call is lent: it stays as it is as long as the call runs -/
inductive Lend (L Z : List OA) : List OA → Prop
  | nil : Lend L Z []
  | z {a : OA} {l : List OA} (k : Nat) (e : Z[k]? = some a) (h : Lend L Z l) : Lend L Z (a :: l)
  | o {a : OA} {l : List OA} (k : Nat) (e : L[k]? = some a) (h : Lend L Z l) : Lend L Z (a :: l)
  | s {α : Type} {l : List OA} {e k' : Nat} {C : α → List Value} {s : SlV} {x : List α} (k : Nat) (q : L[k]? = some (oS e k' C s x)) (h : Lend L Z l) : Lend L Z (fS k' C s x :: l)
theorem Lend.mem {U B : Nat → Prop} (hL : Sep w (fun i => U i ∧ ¬ B i) L) (hZ : Frz w (fun i => U i ∨ N i) Z) (hB : ∀ i, B i → U i) (hN : ∀ i, U i → ¬ N i) : ∀ {l : List OA}, Lend L Z l → ∀ z ∈ l, ∃ F, z.holds w F ∧ ∀ i, F i → ¬ (B i ∨ N i)
  | _, .nil => fun _ h => by simp at h
  | _, .z k e h => fun z hz => by
    rcases List.mem_cons.1 hz with rfl | hz
    · obtain ⟨F, g, hF⟩ := hZ _ (List.mem_of_getElem? e)
      exact ⟨F, g, fun i hi q => hF i hi (q.imp (hB i) id)⟩
    · exact Lend.mem hL hZ hB hN h z hz
  | _, .o k e h => fun z hz => by
    rcases List.mem_cons.1 hz with rfl | hz
    · obtain ⟨F, g, hF, _⟩ := hL.front k e
      exact ⟨F, g, fun i hi q => q.elim (hF i hi).2 (hN i (hF i hi).1)⟩
    · exact Lend.mem hL hZ hB hN h z hz
  | _, .s k e h => fun z hz => by
    rcases List.mem_cons.1 hz with rfl | hz
    · obtain ⟨F, g, hF, _⟩ := hL.front k e
      exact ⟨F, ⟨⟨g.1.1.toRd, g.1.2⟩, g.2⟩, fun i hi q => q.elim (hF i hi).2 (hN i (hF i hi).1)⟩
    · exact Lend.mem hL hZ hB hN h z hz
/-- a call that is given the first pieces P and lent Zc -/
theorem St.call (h : St A N w0 w L Z) (P R : List OA) {Zc : List OA} (hl : Lend R Z Zc) (e : L = P ++ R := by rfl) : ∃ B M, St B M w w P Zc ∧ ∀ w' P' Z' L', St B M w w' P' Z' → P' ++ R = L' → St A N w0 w' L' Z := by
  subst e
  obtain ⟨U, hU, hN, hA, hL, hZ, hW⟩ := h
  obtain ⟨B, hB, hP, hR⟩ := hL.split
  have hUN : ∀ i, U i → ¬ N i := fun i hi => (hU i hi).2.2
  refine ⟨B, N, ⟨B, fun i hi => ⟨.inl hi, (hB i hi).2, hUN i (hB i hi).1⟩, hN, Chg.refl _ _, hP, Lend.mem hR hZ (fun i hi => (hB i hi).1) hUN hl, hW⟩, ?_⟩
  rintro w' P' Z' L' ⟨V, hV, hM, hc, hP', hZ', hW'⟩ rfl
  have hR' := Sep.chg hc hR fun i hi => hi.2
  refine ⟨fun i => V i ∨ (U i ∧ ¬ B i), fun i hi => ?_, hM, hA.thenChg hc (fun i hi hb => ?_), ?_, fun z hz => ?_, hW'⟩
  · rcases hi with hi | hi
    · exact ⟨((hV i hi).1).elim (fun q => (hU i (hB i q).1).1) (fun q => .inr (Nat.le_trans hA.size q)), (hV i hi).2⟩
    · exact ⟨(hU i hi.1).1, Nat.lt_of_lt_of_le (hU i hi.1).2.1 hc.size, (hU i hi.1).2.2⟩
  · exact ((hU i (hB i hb).1).1).elim id (fun q => absurd hi (by omega))
  · refine Sep.join hP' hR' (fun i hi => .inl hi) (fun i hi => .inr hi) fun i hi q => ?_
    exact ((hV i hi).1).elim q.2 (fun p => absurd (hU i q.1).2.1 (by omega))
  · obtain ⟨F, g, hF⟩ := hZ z hz
    refine ⟨F, z.loc g hc (fun i hi hb => hF i hi (.inl (hB i hb).1)), fun i hi q => ?_⟩
    rcases q with (q | q) | q
    · exact ((hV i q).1).elim (fun b => hF i hi (.inl (hB i b).1)) (fun p => absurd (z.lt g i hi) (by omega))
    · exact hF i hi (.inl q.1)
    · exact hF i hi (.inr q)
/-- a call that is lent all that it reads, and writes nothing old -/
theorem St.lend (h : St A N w0 w L Z) {Zc : List OA} (hl : Lend L Z Zc) : ∃ M, St (fun _ => False) M w w [] Zc := by
  obtain ⟨U, hU, hN, hA, hL, hZ, hW⟩ := h
  exact ⟨N, fun _ => False, fun _ x => x.elim, hN, Chg.refl _ _, trivial, Lend.mem (B := fun _ => False) (hL.mono fun i hi => ⟨hi, fun x => x⟩) hZ (fun _ x => x.elim) (fun i hi => (hU i hi).2.2) hl, hW⟩
theorem quiet {P : Program} {g : FuncId} {args : Array Value} {M : Oth} {R : Value → World → Prop} {v0 : Value} (h : Calls P g args w fun e w' => ∃ v, e = .returned v ∧ R v w') (hR : ∀ v w', R v w' → v = v0 ∧ ∃ P' Z', St (fun _ => False) M w w' P' Z') : Calls P g args w fun e w' => ∃ v, e = .returned v ∧ (v = v0 ∧ Ext w w') :=
  CallsIn.mono (F := fen none) (n := 0) (callsIn_wide.2 h) (by rintro e w' ⟨v, rfl, hv⟩; obtain ⟨h1, P', Z', h2⟩ := hR v w' hv; exact ⟨v, rfl, h1, h2.frame⟩) |> callsIn_wide.1
end
end Gw
end Go.Proofs.YtjjkhjieegmphaaDoor
