/- What printed functions are made of: checks, loops with a bound, loops with fuel; and how the walk takes them apart. -/
import Derived.Test.YtjjkhjieegmphaaDoorGwSt
namespace Go.Proofs.YtjjkhjieegmphaaDoor
open Go.RowKit
namespace Gw
/-- goes on only if b -/
def chk {α : Type} (b : Bool) (x : Option α) : Option α := if b then x else none
/-- i is a place among n -/
def inb (i : Int) (n : Nat) : Bool := decide (0 ≤ i) && decide (i < n)
/-- an element, d beyond the end -/
def at_ {α : Type} (d : α) (l : List α) (i : Int) : α := l.getD i.toNat d
theorem bind_ex {α β : Type} {x : Option α} {f : α → Option β} {r : β} (h : x.bind f = some r) : ∃ a, x = some a ∧ f a = some r := by
  cases x with
  | none => cases h
  | some a => exact ⟨a, rfl, h⟩
theorem chk_ex {α : Type} {b : Bool} {x : Option α} {r : α} (h : chk b x = some r) : b = true ∧ x = some r := by
  unfold chk at h; split at h
  · exact ⟨‹_›, h⟩
  · cases h
theorem chk_g {α : Type} {c b : Bool} {x : Option α} {r : α} (h : chk (!c || b) x = some r) : (c = true → b = true) ∧ x = some r := by
  obtain ⟨h1, h2⟩ := chk_ex h
  refine ⟨fun hc => ?_, h2⟩
  rw [hc] at h1; simpa using h1
theorem if_t {α : Type} {c : Bool} {x y r : α} (hc : c = true) (h : (if c then x else y) = r) : x = r := by rw [if_pos hc] at h; exact h
theorem if_f {α : Type} {c : Bool} {x y r : α} (hc : c = false) (h : (if c then x else y) = r) : y = r := by rw [hc] at h; exact h
theorem inb_ex {i : Int} {n : Nat} (h : inb i n = true) : 0 ≤ i ∧ i < n := by simpa [inb] using h
theorem at_some {α : Type} (d : α) {l : List α} {i : Int} (h : 0 ≤ i ∧ i < l.length) : l[i.toNat]? = some (at_ d l i) := by
  have hl : i.toNat < l.length := by omega
  simp [at_, List.getElem?_eq_getElem hl, List.getD_eq_getElem?_getD]

/-- how a round ends: the next one; the loop is left; the function is -/
inductive Stp (σ ρ : Type) where
  | go (s : σ)
  | brk (s : σ)
  | ret (r : ρ)
/-- a loop that counts -/
def forN {σ ρ : Type} (b : Int → σ → Option (Stp σ ρ)) : Nat → Int → σ → Option (σ ⊕ ρ)
  | 0, _, s => some (.inl s)
  | n + 1, i, s => (b i s).bind fun
    | .go s' => forN b n (i + 1) s'
    | .brk s' => some (.inl s')
    | .ret r => some (.inr r)
/-- a loop that counts, and is left by its end alone -/
def forS {σ : Type} (b : Int → σ → Option σ) : Nat → Int → σ → Option σ
  | 0, _, s => some s
  | n + 1, i, s => (b i s).bind fun s' => forS b n (i + 1) s'
/-- a loop over a list -/
def forE {α σ ρ : Type} (b : α → σ → Option (Stp σ ρ)) : List α → σ → Option (σ ⊕ ρ)
  | [], s => some (.inl s)
  | x :: l, s => (b x s).bind fun
    | .go s' => forE b l s'
    | .brk s' => some (.inl s')
    | .ret r => some (.inr r)
/-- a loop with fuel -/
def iter {σ ρ : Type} (b : σ → Option (Stp σ ρ)) : Nat → σ → Option (σ ⊕ ρ)
  | 0, _ => none
  | n + 1, s => (b s).bind fun
    | .go s' => iter b n s'
    | .brk s' => some (.inl s')
    | .ret r => some (.inr r)
theorem forN_0 {σ ρ : Type} {b : Int → σ → Option (Stp σ ρ)} {i : Int} {s : σ} {o : σ ⊕ ρ} (h : forN b 0 i s = some o) : o = .inl s := by
  simp only [forN] at h; exact (Option.some.inj h).symm
/-- what a round has still to tell -/
def nxt {σ ρ : Type} (g : σ → Option (σ ⊕ ρ)) (o : σ ⊕ ρ) : Stp σ ρ → Prop
  | .go s => g s = some o
  | .brk s => o = .inl s
  | .ret r => o = .inr r
theorem forN_s {σ ρ : Type} {b : Int → σ → Option (Stp σ ρ)} {n : Nat} {i : Int} {s : σ} {o : σ ⊕ ρ} (h : forN b (n + 1) i s = some o) : ∃ q, b i s = some q ∧ nxt (forN b n (i + 1)) o q := by
  simp only [forN] at h
  obtain ⟨q, h1, h2⟩ := bind_ex h
  refine ⟨q, h1, ?_⟩
  cases q with
  | go s => exact h2
  | brk s => exact (Option.some.inj h2).symm
  | ret r => exact (Option.some.inj h2).symm
theorem forE_0 {α σ ρ : Type} {b : α → σ → Option (Stp σ ρ)} {s : σ} {o : σ ⊕ ρ} (h : forE b [] s = some o) : o = .inl s := by
  simp only [forE] at h; exact (Option.some.inj h).symm
theorem forE_s {α σ ρ : Type} {b : α → σ → Option (Stp σ ρ)} {x : α} {l : List α} {s : σ} {o : σ ⊕ ρ} (h : forE b (x :: l) s = some o) : ∃ q, b x s = some q ∧ nxt (forE b l) o q := by
  simp only [forE] at h
  obtain ⟨q, h1, h2⟩ := bind_ex h
  refine ⟨q, h1, ?_⟩
  cases q with
  | go s => exact h2
  | brk s => exact (Option.some.inj h2).symm
  | ret r => exact (Option.some.inj h2).symm
theorem iter_s {σ ρ : Type} {b : σ → Option (Stp σ ρ)} {n : Nat} {s : σ} {o : σ ⊕ ρ} (h : iter b (n + 1) s = some o) : ∃ q, b s = some q ∧ nxt (iter b n) o q := by
  simp only [iter] at h
  obtain ⟨q, h1, h2⟩ := bind_ex h
  refine ⟨q, h1, ?_⟩
  cases q with
  | go s => exact h2
  | brk s => exact (Option.some.inj h2).symm
  | ret r => exact (Option.some.inj h2).symm
theorem forS_s {σ : Type} {b : Int → σ → Option σ} {n : Nat} {i : Int} {s o : σ} (h : forS b (n + 1) i s = some o) : ∃ q, b i s = some q ∧ forS b n (i + 1) q = some o := by
  simp only [forS] at h
  exact bind_ex h
theorem forS_0 {σ : Type} {b : Int → σ → Option σ} {i : Int} {s o : σ} (h : forS b 0 i s = some o) : o = s := by
  simp only [forS] at h; exact (Option.some.inj h).symm
/-- code behind a loop, or the answer that the loop has given -/
def aft {σ ρ : Type} (k : σ → Option ρ) : σ ⊕ ρ → Option ρ
  | .inl s => k s
  | .inr r => some r
theorem aft_r {σ ρ : Type} {k : σ → Option ρ} {x r : ρ} (h : aft k (.inr x) = some r) : x = r := Option.some.inj h
section
variable {P : Program} {rd : Option Nat} {n : Nat} {dm : List Nat} {Q : Post} {f : Fr} {w : World}
/-- so many rounds at most, each walked -/
def rounds (P : Program) (rd : Option Nat) (n : Nat) (dm : List Nat) (c : Code) (Q : Post) : Nat → Fr → World → Prop
  | 0, _, _ => False
  | m + 1, f, w => wc P rd n dm c (thenP (fun dm' f' w' => dm' = dm ∧ rounds P rd n dm c Q m f' w') Q) f w
theorem rounds_s {c : Code} {m : Nat} (h : wc P rd n dm c (thenP (fun dm' f' w' => dm' = dm ∧ rounds P rd n dm c Q m f' w') Q) f w) : rounds P rd n dm c Q (m + 1) f w := h
theorem wc_rounds {c : Code} (m : Nat) (h : rounds P rd n dm c Q m f w) : wc P rd n dm (.loop c) Q f w :=
  wc_loop (fun m f w => rounds P rd n dm c Q m f w) (fun m => m) m h fun m f w hm => by
    cases m with
    | zero => exact hm.elim
    | succ m =>
      refine wc_mono hm fun dm' e f' w' q => ?_
      cases e with
      | normal => exact ⟨q.1, m, q.2, Nat.lt_succ_self m⟩
      | _ => exact q
/-- ways that come together, ahead of whatever follows -/
theorem wc_cutq {x : Code} (ds : List Nat) (I : Fr → World → Prop) (h : wc P rd n dm x (thenP (fun dm' f' u' => dm' = dm ∧ Dif ds f f' ∧ I f' u') Q) f w) (hy : ∀ g u, I (mask ds g f) u → Q dm .normal (mask ds g f) u) : wc P rd n dm x Q f w :=
  wc_mono h fun dm' e f' u' q => by
    cases e with
    | normal => obtain ⟨rfl, ⟨g, rfl⟩, h2⟩ := q; exact hy g _ h2
    | _ => exact q
end
end Gw
end Go.Proofs.YtjjkhjieegmphaaDoor
