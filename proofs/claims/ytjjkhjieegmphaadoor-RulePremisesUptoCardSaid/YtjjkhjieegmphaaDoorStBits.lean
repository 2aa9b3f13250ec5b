/- Contracts of the sets' functions, as the printed walks use them. -/
import Derived.Test.YtjjkhjieegmphaaDoorBits3
import Derived.Test.YtjjkhjieegmphaaDoorGwFor
namespace Go.Proofs.YtjjkhjieegmphaaDoor
open Gw Go.RowKit
namespace Gw
section
variable {P : Program} {g : FuncId} {args : Array Value} {A : Nat → Prop} {N : Oth} {w : World} {L Z : List OA}
theorem calls_mono {R R' : Value → World → Prop} (h : Calls P g args w fun e w' => ∃ v, e = .returned v ∧ R v w') (hR : ∀ v w', R v w' → R' v w') : Calls P g args w fun e w' => ∃ v, e = .returned v ∧ R' v w' :=
  CallsIn.mono (F := fen none) (n := 0) (callsIn_wide.2 h) (by rintro e w' ⟨v, rfl, hv⟩; exact ⟨v, rfl, hR v w' hv⟩) |> callsIn_wide.1
/-- a call that makes nothing -/
theorem toSt {v0 : Value} (h : Calls P g args w fun e w' => ∃ v, e = .returned v ∧ (v = v0 ∧ Ext w w')) (S : St A N w w L Z) : Calls P g args w fun e w' => ∃ v, e = .returned v ∧ (v = v0 ∧ St A N w w' L []) :=
  calls_mono h fun _ _ h => ⟨h.1, (S.ext h.2).pickZ (by simp)⟩
/-- a fact that stays, without blocks of its own -/
theorem St.see (S : St A N w w L Z) (k : Nat) {a : OA} {p : Prop} (hp : ∀ F, a.holds w F → p) (e : Z[k]? = some a := by rfl) : p := (S.frz k e).elim hp
end
end Gw
def Bits.okB (b : Bits) : Bool := b.toList.all fun x => decide (0 ≤ x) && decide (x < 18446744073709551616)
theorem Bits.okB_ok {b : Bits} (h : b.okB = true) : b.ok := by
  intro i
  unfold Bits.w
  rw [List.getD_eq_getElem?_getD]
  cases hq : b.toList[i]? with
  | none => simp
  | some x =>
    have := List.all_eq_true.1 h x (List.mem_of_getElem? hq)
    simpa using this
theorem Bits.ok_okB {b : Bits} (h : b.ok) : b.okB = true := by
  refine List.all_eq_true.2 fun x hx => ?_
  obtain ⟨i, hi⟩ := List.getElem?_of_mem hx
  have := h i
  unfold Bits.w at this
  rw [List.getD_eq_getElem?_getD, hi] at this
  simpa using this
/-- the library's table of trailing zeros -/
def oTz : OA where
  holds := fun w F => Tz w ∧ ∀ i, F i ↔ i = 0
  loc := fun h hc hs => ⟨h.1.chg hc (hs _ ((h.2 _).2 rfl)), h.2⟩
  lt := fun h i hi => by rw [(h.2 i).1 hi]; exact h.1.lt
theorem Gw.St.tz {A : Nat → Prop} {N : Oth} {w0 w : World} {L Z : List OA} (h : St A N w0 w L Z) (k : Nat) (e : Z[k]? = some oTz := by rfl) : Tz w := (h.frz k e).elim fun _ q => q.1
section
variable {A : Nat → Prop} {N : Oth} {w : World}
def bits_Has.f (b : Bits) (n : Int) : Option Bool := chk b.okB (some (b.has n))
theorem bits_Has_st {b : Bits} {n : Int} (S : St A N w w [] []) {r : Bool} (H : bits_Has.f b n = some r) : Calls PP F_bits_Has #[.agg (Bits.C b).toArray, .int .i64 n] w fun e w' => ∃ v, e = .returned v ∧ (v = .bool r ∧ St A N w w' [] []) := by
  obtain ⟨hb, H⟩ := chk_ex H; cases H
  exact toSt (bits_Has_ok w b (Bits.okB_ok hb) n) S
def ref05_Has.f (b : Bits) (n : Int) : Option Bool := chk b.okB (some (b.has n))
theorem ref05_Has_st {b : Bits} {n : Int} (S : St A N w w [] []) {r : Bool} (H : ref05_Has.f b n = some r) : Calls PP F_ref05_Has #[.agg (Bits.C b).toArray, .int .i64 n] w fun e w' => ∃ v, e = .returned v ∧ (v = .bool r ∧ St A N w w' [] []) := by
  obtain ⟨hb, H⟩ := chk_ex H; cases H
  exact toSt (ref05_Has_ok w b (Bits.okB_ok hb) n) S
def bits_Union.f (a b : Bits) : Option Bits := chk (a.okB && b.okB) (some (a.union b))
theorem bits_Union_st {a b : Bits} (S : St A N w w [] []) {r : Bits} (H : bits_Union.f a b = some r) : Calls PP F_bits_Union #[.agg (Bits.C a).toArray, .agg (Bits.C b).toArray] w fun e w' => ∃ v, e = .returned v ∧ (v = .agg (Bits.C r).toArray ∧ St A N w w' [] []) := by
  obtain ⟨hb, H⟩ := chk_ex H; cases H
  have := toSt (bits_Union_ok w a b) S
  rw [Bool.and_eq_true] at hb
  rwa [Bits.zip_union (Bits.okB_ok hb.1) (Bits.okB_ok hb.2)] at this
def bits_Drop.f (b : Bits) (n : Int) : Option Bits := chk b.okB (some (b.del n))
theorem bits_Drop_st {b : Bits} {n : Int} (S : St A N w w [] []) {r : Bits} (H : bits_Drop.f b n = some r) : Calls PP F_bits_Drop #[.agg (Bits.C b).toArray, .int .i64 n] w fun e w' => ∃ v, e = .returned v ∧ (v = .agg (Bits.C r).toArray ∧ St A N w w' [] []) := by
  obtain ⟨hb, H⟩ := chk_ex H; cases H
  exact toSt (bits_Drop_ok w b n (Bits.okB_ok hb)) S
def ref05_Drop.f (b : Bits) (n : Int) : Option Bits := chk b.okB (some (b.del n))
theorem ref05_Drop_st {b : Bits} {n : Int} (S : St A N w w [] []) {r : Bits} (H : ref05_Drop.f b n = some r) : Calls PP F_ref05_Drop #[.agg (Bits.C b).toArray, .int .i64 n] w fun e w' => ∃ v, e = .returned v ∧ (v = .agg (Bits.C r).toArray ∧ St A N w w' [] []) := by
  obtain ⟨hb, H⟩ := chk_ex H; cases H
  exact toSt (ref05_Drop_ok w b n (Bits.okB_ok hb)) S
def ref05_With.f (b : Bits) (n : Int) : Option Bits := chk (b.okB && (decide (0 ≤ n) && decide (n < 1024))) (some (b.add n))
theorem ref05_With_st {b : Bits} {n : Int} (S : St A N w w [] []) {r : Bits} (H : ref05_With.f b n = some r) : Calls PP F_ref05_With #[.agg (Bits.C b).toArray, .int .i64 n] w fun e w' => ∃ v, e = .returned v ∧ (v = .agg (Bits.C r).toArray ∧ St A N w w' [] []) := by
  obtain ⟨hb, H⟩ := chk_ex H; cases H
  simp only [Bool.and_eq_true, decide_eq_true_eq] at hb
  exact toSt (ref05_With_ok w b n (Bits.okB_ok hb.1) hb.2.1 hb.2.2) S
def ref05_Put.f (b : Bits) (n : Int) : Option (Bits × Int) := chk b.okB (some (b.putS n))
theorem ref05_Put_st {b : Bits} {n : Int} (S : St A N w w [] []) {r : Bits × Int} (H : ref05_Put.f b n = some r) : Calls PP F_ref05_Put #[.agg (Bits.C b).toArray, .int .i64 n] w fun e w' => ∃ v, e = .returned v ∧ (v = .tuple #[.agg (Bits.C r.1).toArray, .int .i64 r.2] ∧ St A N w w' [] []) := by
  obtain ⟨hb, H⟩ := chk_ex H; cases H
  exact toSt (ref05_Put_ok w b n (Bits.okB_ok hb)) S
def bits_Of.f (l : List Int) : Option (Bits × Int) := some (Bits.ofs l)
theorem bits_Of_st {l : List Int} {s : SlV} (S : St A N w w [] [fS 1 IC s l]) {r : Bits × Int} (H : bits_Of.f l = some r) : Calls PP F_bits_Of #[s.v] w fun e w' => ∃ v, e = .returned v ∧ (v = .tuple #[.agg (Bits.C r.1).toArray, .int .i64 r.2] ∧ St A N w w' [] []) := by
  cases H
  exact toSt (bits_Of_ok w s l (S.rd 0) (by have := S.len 0; omega)) S
def ref05_Of.f (l : List Int) : Option (Bits × Int) := some (Bits.ofs l)
theorem ref05_Of_st {l : List Int} {s : SlV} (S : St A N w w [] [fS 1 IC s l]) {r : Bits × Int} (H : ref05_Of.f l = some r) : Calls PP F_ref05_Of #[s.v] w fun e w' => ∃ v, e = .returned v ∧ (v = .tuple #[.agg (Bits.C r.1).toArray, .int .i64 r.2] ∧ St A N w w' [] []) := by
  cases H
  exact toSt (ref05_Of_ok w s l (S.rd 0) (by have := S.len 0; omega)) S
def ref05_List.f (b : Bits) : Option (List Int) := chk b.okB (some (b.list.map fun (n : Nat) => (n : Int)))
theorem ref05_List_st {b : Bits} (S : St A N w w [] []) {r : List Int} (H : ref05_List.f b = some r) : Calls PP F_ref05_List #[.agg (Bits.C b).toArray] w fun e w' => ∃ v, e = .returned v ∧ (∃ s : SlV, v = s.v ∧ St A N w w' [oS T_int 1 IC s r] []) := by
  obtain ⟨hb, H⟩ := chk_ex H; obtain rfl := Option.some.inj H
  refine calls_mono (ref05_List_ok w b (Bits.okB_ok hb)) ?_
  rintro v w' ⟨s, rfl, O, hf, E⟩
  have hl : (b.list.map fun (n : Nat) => (n : Int)).length ≤ 140737488355328 := by
    have h := List.length_filter_le (fun n : Nat => b.has n) (List.range 1024)
    rw [List.length_range] at h
    have : b.list.length ≤ 1024 := h
    simp; omega
  exact ⟨s, rfl, S.add (b := oS T_int 1 IC s _) E ⟨⟨O, hl⟩, fun _ => Iff.rfl⟩ hf⟩
end
end Go.Proofs.YtjjkhjieegmphaaDoor
