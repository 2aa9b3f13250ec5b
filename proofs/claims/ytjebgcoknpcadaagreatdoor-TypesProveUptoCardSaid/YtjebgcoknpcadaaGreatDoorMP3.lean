/- Texts put together: Chapters 12 and up: terms, hypotheses, scopes: what they are, and the pieces that stay and hold them. errors.As, asked for a refusal: Go's own text, walked (after the kit's worked example of the toy 'toyas'). Errors: nil, or a refusal with the way to it; errors.As, asked for one. A region that draws its order, with stores; each operation knows that all those that it comes behind are over. Chapters 12 and 13: contracts by hand: scopes, errors on their way up, the nodes of a term. Chapter 12, kinds of terms: Lean functions with the answers of the Go functions. Printed by pp.py, a program of mine. Chapter 12, what is right: Lean functions with the answers of the Go functions. Printed by pp.py, a program of mine. Errors on their way up: Lean functions with the answers of the Go functions. Printed by pp.py, a program of mine. Chapter 13, types: Lean functions with the answers of the Go functions. Printed by pp.py, a program of mine. The program's Table.Cut, by hand. Chapter 09, rules that are chosen: Lean functions with the answers of the Go functions. Printed by pp.py, a program of mine. Chapter 09, premises: Lean functions with the answers of the Go functions. Printed by pp.py, a program of mine. Chapter 09, the heads: Lean functions with the answers of the Go functions. Printed by pp.py, a program of mine. Chapter 09, the document's functions: Lean functions with the answers of the Go functions. Printed by pp.py, a program of mine. Chapter 13, the heads: Lean functions with the answers of the Go functions. Printed by pp.py, a program of mine. Chapter 11: steps, findings, searches on their way: what they are, and the pieces that hold them. Chapter 11, the search: Lean functions with the answers of the Go functions. Printed by pp.py, a program of mine. Chapter 13, TypesProve: Lean functions with the answers of the Go functions. Printed by pp.py, a program of mine. Chapter 12, kinds of terms: the walks. Printed by pp.py, a program of mine. Chapter 12, what is right: the walks. Printed by pp.py, a program of mine. Errors on their way up: the walks. Printed by pp.py, a program of mine. Chapter 13, types: the walks. Printed by pp.py, a program of mine. -/
import Derived.Test.YtjebgcoknpcadaaGreatDoorMP2
import Derived.WalkKit
import Derived.LaidEql
import Derived.Stop.Asserts
import Derived.RowKitTokens
import Derived.WideLaws
set_option linter.unusedVariables false
set_option linter.unusedSimpArgs false
section
namespace Go.Proofs.YtjebgcoknpcadaaGreatDoor
open Gw Go.RowKit
inductive PTerm where
 | mk (kind : Int) (name other : ByteArray) (form : Int) (sub : List PTerm)
namespace PTerm
def kind : PTerm → Int | mk k _ _ _ _ => k
def name : PTerm → ByteArray | mk _ n _ _ _ => n
def other : PTerm → ByteArray | mk _ _ o _ _ => o
def form : PTerm → Int | mk _ _ _ f _ => f
def sub : PTerm → List PTerm | mk _ _ _ _ s => s
def z : PTerm := mk 0 ByteArray.empty ByteArray.empty 0 []
end PTerm
abbrev mT (x : PTerm) (s : SlV) : Term := ⟨x.kind, x.name, x.other, x.form, s⟩
def fT (s : SlV) (ms : List Term) : OA where
 holds := fun w F => (Sl w 5 s (ms.map Term.C) ∧ ms.length ≤ 140737488355328) ∧ ∀ i, F i ↔ (ms ≠ [] ∧ i = s.blk)
 loc := fun h hc hs => ⟨⟨h.1.1.chg hc (fun hr => hs _ ((h.2 _).2 ⟨fun e => hr (by rw [e]; rfl), rfl⟩)), h.1.2⟩, h.2⟩
 lt := fun {w F} h i hi => by
  obtain ⟨hne, rfl⟩ := (h.2 i).1 hi
  obtain ⟨m, ms, rfl⟩ := List.exists_cons_of_ne_nil hne
  have h1 := (h.1.1.cells 0 (Term.C m) (by simp)).2 0 (.int .i64 m.kind) rfl
  rcases Nat.lt_or_ge s.blk w.heap.size with q | q
  ·exact q
  ·simp [World.cell?, Array.getElem?_eq_none q] at h1
theorem fT.sl {w : World} {s : SlV} {ms : List Term} (h : (fT s ms).on w) : Sl w 5 s (ms.map Term.C) := h.elim fun _ h => h.1.1
theorem fT.at {w : World} {s : SlV} {ms : List Term} (h : (fT s ms).on w) {i : Nat} {m : Term} (hm : ms[i]? = some m) : jv w s.blk (s.off + i * 5) (Term.C m) := ((fT.sl h).cells i _ (by simp [hm])).2
theorem fT.len {w : World} {s : SlV} {ms : List Term} (h : (fT s ms).on w) : ms.length ≤ 140737488355328 := h.elim fun _ h => h.1.2
theorem fT.of {w : World} {s : SlV} {ms : List Term} {F : Nat → Prop} (h : (fS 5 Term.C s ms).holds w F) : ∃ G, (fT s ms).holds w G ∧ ∀ i, G i → F i :=
 ⟨fun i => ms ≠ [] ∧ i = s.blk, ⟨⟨h.1.1.sl, h.1.2⟩, fun _ => Iff.rfl⟩, fun i hi => (h.2 i).2 ⟨(fun e => by
  obtain ⟨m, ms, rfl⟩ := List.exists_cons_of_ne_nil hi.1
  have h2 := (h.1.1.sl.cells 0 (Term.C m) (by simp)).1
  rw [e] at h2; exact absurd h2 (by simp)), hi.2⟩⟩
def fTm : Nat → Term → PTerm → OA
 | 0, _, _ => OA.pure False
 | d + 1, m, x => (OA.pure (m.kind = x.kind ∧ m.name = x.name ∧ m.other = x.other ∧ m.form = x.form)).and (OA.ex fun (ms : List Term) => (fT m.sub ms).and (bigA (fTm d) ms x.sub))
def kq (s : SlV) (l : List PTerm) : OA := OA.ex fun (q : Nat × List Term) => (fT s q.2).and (bigA (fTm q.1) q.2 l)
abbrev xb (s : SlV) (l : List PTerm) : OA := kq s l
def kS (m : Term) (x : PTerm) : OA := OA.ex fun (d : Nat) => fTm d m x
theorem fTm_eqs {w : World} {F : Nat → Prop} : ∀ {d : Nat} {m : Term} {x : PTerm}, (fTm d m x).holds w F → m.kind = x.kind ∧ m.name = x.name ∧ m.other = x.other ∧ m.form = x.form
 | _ + 1, _, _, ⟨_, _, g, _⟩ => g.1
 | 0, _, _, h => h.1.elim
theorem fTm_sub {w : World} {F : Nat → Prop} : ∀ {d : Nat} {m : Term} {x : PTerm}, (fTm d m x).holds w F → ∃ G, (kq m.sub x.sub).holds w G ∧ ∀ i, G i → F i
 | d + 1, _, _, ⟨_, H, _, ⟨ms, h⟩, e⟩ => ⟨H, ⟨(d, ms), h⟩, fun i hi => (e i).2 (.inr hi)⟩
 | 0, _, _, h => h.1.elim
theorem bigA_mono {w : World} {μ α : Type} {R R' : μ → α → OA} (hR : ∀ m x F, (R m x).holds w F → (R' m x).holds w F) : ∀ {ms : List μ} {l : List α} {F : Nat → Prop}, (bigA R ms l).holds w F → (bigA R' ms l).holds w F
 | [], [], _, h => h
 | m :: ms, x :: xs, F, ⟨G, H, g, h, e⟩ => ⟨G, H, hR _ _ _ g, bigA_mono hR h, e⟩
 | [], _ :: _, _, h => h.1.elim
 | _ :: _, [], _, h => h.1.elim
theorem fTm_mono {w : World} : ∀ {d d' : Nat} {m : Term} {x : PTerm} {F : Nat → Prop}, d ≤ d' → (fTm d m x).holds w F → (fTm d' m x).holds w F
 | 0, _, _, _, _, _, h => h.1.elim
 | d + 1, 0, _, _, _, hd, _ => by omega
 | d + 1, d' + 1, _, _, _, hd, ⟨G, H, g, ⟨ms, G2, H2, g2, h2, e2⟩, e⟩ => ⟨G, H, g, ⟨ms, G2, H2, g2, bigA_mono (fun _ _ _ q => fTm_mono (by omega) q) h2, e2⟩, e⟩
theorem fTerm_mk {w : World} {F : Nat → Prop} {x : PTerm} {s : SlV} : (kq s x.sub).holds w F → (kS (mT x s) x).holds w F
 | ⟨(d, ms), h⟩ => ⟨d + 1, fun _ => False, F, ⟨⟨rfl, rfl, rfl, rfl⟩, fun _ q => q⟩, ⟨ms, h⟩, fun _ => ⟨.inr, fun q => q.elim (fun q => q.elim) id⟩⟩
theorem big_depth {w : World} : ∀ {ms : List Term} {l : List PTerm} {F : Nat → Prop}, (bigA kS ms l).holds w F → ∃ d, (bigA (fTm d) ms l).holds w F
 | [], [], _, h => ⟨0, h⟩
 | m :: ms, x :: xs, F, ⟨G, H, ⟨d, g⟩, h, e⟩ => by
  obtain ⟨d', h'⟩ := big_depth h
  exact ⟨max d d', G, H, fTm_mono (Nat.le_max_left ..) g, bigA_mono (fun _ _ _ q => fTm_mono (Nat.le_max_right ..) q) h', e⟩
 | [], _ :: _, _, h => h.1.elim
 | _ :: _, [], _, h => h.1.elim
theorem fTerms_mk {w : World} {F G : Nat → Prop} {s : SlV} {ms : List Term} {l : List PTerm} (h : (fT s ms).holds w F) (h' : (bigA kS ms l).holds w G) : (kq s l).holds w fun i => F i ∨ G i := by
 obtain ⟨d, h'⟩ := big_depth h'
 exact ⟨(d, ms), F, G, h, h', fun _ => Iff.rfl⟩
theorem kq.rd {w : World} {s : SlV} {l : List PTerm} (h : (xb s l).on w) : ∃ ms : List Term, Sl w 5 s (ms.map Term.C) ∧ ms.length = l.length ∧ l.length ≤ 140737488355328 := by
 obtain ⟨F, ⟨d, ms⟩, G, H, g, hh, q⟩ := h
 have hl : ms.length = l.length := bigA_len hh
 exact ⟨ms, g.1.1, hl, by rw [← hl]; exact g.1.2⟩
section
variable {A : Nat → Prop} {N : Oth} {w0 w w' : World} {L Z : List OA}
theorem Gw.St.eqsTm (h : St A N w0 w L Z) (k : Nat) {m : Term} {x : PTerm} (e : Z[k]? = some (kS m x) := by rfl) : m.kind = x.kind ∧ m.name = x.name ∧ m.other = x.other ∧ m.form = x.form := by
 obtain ⟨F, d, h⟩ := h.frz k e
 exact fTm_eqs h
theorem Gw.St.subTm (h : St A N w0 w L Z) (k : Nat) {m : Term} {x : PTerm} (e : Z[k]? = some (kS m x) := by rfl) : St A N w0 w L (kq m.sub x.sub :: Z) := by
 obtain ⟨U, hU, hN, hA, hL, hZ, hW⟩ := h
 refine ⟨U, hU, hN, hA, hL, fun z hz => ?_, hW⟩
 rcases List.mem_cons.1 hz with rfl | hz
 ·obtain ⟨F, ⟨d, g⟩, hF⟩ := hZ _ (List.mem_of_getElem? e)
  obtain ⟨G, g', hG⟩ := fTm_sub g
  exact ⟨G, g', fun i hi => hF i (hG i hi)⟩
 ·exact hZ z hz
theorem Gw.St.eltTm (h : St A N w0 w L Z) (k : Nat) {s : SlV} {l : List PTerm} {i : Int} (hi : 0 ≤ i ∧ i < l.length) (e : Z[k]? = some (kq s l) := by rfl) :
  ∃ m : Term, jv w s.blk (s.off + i.toNat * 5) (Term.C m) ∧ St A N w0 w L (kS m (at_ PTerm.z l i) :: Z) := by
 obtain ⟨U, hU, hN, hA, hL, hZ, hW⟩ := h
 obtain ⟨F, ⟨⟨d, ms⟩, G, H, g, hh, q⟩, hF⟩ := hZ _ (List.mem_of_getElem? e)
 have hl : ms.length = l.length := bigA_len hh
 have h1 : i.toNat < ms.length := by omega
 have h2 : i.toNat < l.length := by omega
 have h3 : at_ PTerm.z l i = l[i.toNat] := by simp [at_, List.getD_eq_getElem?_getD, h2]
 obtain ⟨K, hk, hK⟩ := bigA_at hh (List.getElem?_eq_getElem h1) (List.getElem?_eq_getElem h2)
 refine ⟨ms[i.toNat], fT.at ⟨_, g⟩ (List.getElem?_eq_getElem h1), U, hU, hN, hA, hL, fun z hz => ?_, hW⟩
 rcases List.mem_cons.1 hz with rfl | hz
 ·rw [h3]; exact ⟨K, ⟨d, hk⟩, fun j hj => hF j ((q j).2 (.inr (hK j hj)))⟩
 ·exact hZ z hz
theorem Gw.St.viewTerm (h : St A N w0 w L Z) (k : Nat) {s : SlV} {l : List PTerm} {i : Int} (hi : 0 ≤ i ∧ i < l.length) (e : Z[k]? = some (xb s l) := by rfl) :
  ∃ n : SlV, jv w s.blk (s.off + i.toNat * 5) (Term.C ⟨(at_ PTerm.z l i).kind, (at_ PTerm.z l i).name, (at_ PTerm.z l i).other, (at_ PTerm.z l i).form, n⟩) ∧ St A N w0 w L (xb n (at_ PTerm.z l i).sub :: Z) := by
 obtain ⟨m, hc, h1⟩ := h.eltTm k hi e
 obtain ⟨e1, e2, e3, e4⟩ := h1.eqsTm 0
 have h2 := h1.subTm 0
 refine ⟨m.sub, by rw [← e1, ← e2, ← e3, ← e4]; exact hc, h2.pickZ fun z hz => ?_⟩
 rcases List.mem_cons.1 hz with rfl | hz
 ·exact List.mem_cons_self ..
 ·exact List.mem_cons_of_mem _ (List.mem_cons_of_mem _ hz)
theorem Gw.St.lenFZ (h : St A N w0 w L Z) (n : Nat) {s : SlV} {l : List PTerm} (q : Z[n]? = some (xb s l) := by rfl) : l.length ≤ 140737488355328 := (kq.rd (h.frz n q)).elim fun _ h => h.2.2
theorem Gw.St.nilTm (h : St A N w0 w L Z) : St A N w0 w L (xb SlV.nil [] :: Z) :=
 h.say ⟨(0, []), fun _ => False, fun _ => False, ⟨⟨by simpa using Sl.nil w 5, by simp⟩, fun i => ⟨fun x => x.elim, fun x => absurd rfl x.1⟩⟩, ⟨trivial, fun _ x => x⟩, fun _ => ⟨fun x => x.elim, fun x => x.elim id id⟩⟩
theorem Gw.St.bigTm (h : St A N w0 w L Z) : St A N w0 w L (bigA kS [] [] :: Z) := h.say ⟨trivial, fun _ x => x⟩
theorem Gw.St.consTm {ms : List Term} {l : List PTerm} (h : St A N w0 w L (bigA kS ms l :: Z)) (k : Nat) {x : PTerm} {s : SlV} (e : Z[k]? = some (xb s x.sub) := by rfl) : St A N w0 w L (bigA kS (mT x s :: ms) (x :: l) :: Z) := by
 have h1 := h.part (k + 1) (a := xb s x.sub) (b := kS (mT x s) x) (fun F q => ⟨F, fTerm_mk q, fun _ q => q⟩) (by simpa using e)
 have h2 := h1.andZ 0 1
 refine h2.pickZ fun z hz => ?_
 rcases List.mem_cons.1 hz with rfl | hz
 ·exact List.mem_cons_self ..
 ·exact List.mem_cons_of_mem _ (List.mem_cons_of_mem _ (List.mem_cons_of_mem _ hz))
theorem Gw.St.frzTm (h : St A N w0 w L Z) (n k : Nat) {s : SlV} {ms : List Term} {l : List PTerm} {L' : List OA} (q : L[n]? = some (oS xP 5 Term.C s ms) := by rfl) (q' : L.eraseIdx n = L' := by rfl) (e : Z[k]? = some (bigA kS ms l) := by rfl) : St A N w0 w L' (xb s l :: Z) := by
 have h1 := h.frzS n q q'
 replace h1 := h1.part 0 (a := fS 5 Term.C s ms) (b := fT s ms) (fun F q => fT.of q)
 have h2 := h1.andZ 0 (k + 2) (a := fT s ms) (b := bigA kS ms l) rfl (by simpa using e)
 have h3 := h2.part 0 (a := (fT s ms).and (bigA kS ms l)) (b := xb s l) (fun F ⟨G, H, g, hh, q⟩ => ⟨_, fTerms_mk g hh, fun i hi => (q i).2 hi⟩)
 refine h3.pickZ fun z hz => ?_
 rcases List.mem_cons.1 hz with rfl | hz
 ·exact List.mem_cons_self ..
 ·exact List.mem_cons_of_mem _ (List.mem_cons_of_mem _ (List.mem_cons_of_mem _ (List.mem_cons_of_mem _ hz)))
end
section
variable {P : Program} {f : Fr} {w w' : World} {d : Option Tmp} {ty : TypeId} {pos : String} {af : Array Edge} {gd : Option (Nat × Bool)}
theorem Gw.does_lenF {l : List PTerm} {x : Operand} {t e k : Nat} {s : SlV} (ht : yu P t e k) (hx : evF f x = s.v) (h : (xb s l).on w) : Does P ⟨d, .call ⟨.builtin .len, #[x], #[t]⟩, ty, pos, af, gd⟩ f w (.int .i64 l.length) w := by
 obtain ⟨ms, hr, hl, _⟩ := kq.rd h
 have := does_lenS (P := P) (f := f) (w := w) (d := d) (ty := ty) (pos := pos) (af := af) (gd := gd) ht hx
 rw [hr.len, List.length_map, hl] at this; exact this
theorem Gw.does_indexF {l : List PTerm} {x y : Operand} {t e : Nat} {kd : IntKind} {i : Int} {s : SlV} (ht : yu P t e 5) (hx : evF f x = s.v) (hy : evF f y = .int kd i) (h : (xb s l).on w) (h0 : 0 ≤ i) (h1 : i < l.length) :
  Does P ⟨d, .indexAddr t x y, ty, pos, af, gd⟩ f w (.pointer (some ⟨s.blk, s.off + i.toNat * 5, none⟩)) w := by
 obtain ⟨ms, hr, hl, _⟩ := kq.rd h
 exact does_indexS ht hx hy hr h0 (by rw [List.length_map]; omega) rfl
end
def xR : Option Addr → List (ByteArray × Int) → OA
 | a, [] => OA.pure (a = none)
 | a, (n, f) :: l => OA.ex fun (q : Nat × Option Addr) => (OA.pure (a = some ⟨q.1, 0, none⟩)).and ((oB q.1 uh (Scope.C ⟨n, f, q.2⟩)).and (xR q.2 l))
section
variable {A : Nat → Prop} {N : Oth} {w0 w w' : World} {L Z : List OA}
theorem Gw.St.nilScope (h : St A N w0 w L Z) : St A N w0 w L (xR none [] :: Z) := h.say ⟨rfl, fun _ x => x⟩
theorem Gw.St.pushScope (h : St A N w0 w L Z) (j k : Nat) {b : Nat} {n : ByteArray} {f : Int} {a : Option Addr} {l : List (ByteArray × Int)} {L' : List OA} (q : L[j]? = some (oB b uh (Scope.C ⟨n, f, a⟩)) := by rfl) (q' : L.eraseIdx j = L' := by rfl) (e : Z[k]? = some (xR a l) := by rfl) :
  St A N w0 w L' (xR (some ⟨b, 0, none⟩) ((n, f) :: l) :: Z) := by
 have h1 := h.frzO j q q'
 have h2 := h1.andZ 0 (k + 1) (a := oB b uh (Scope.C ⟨n, f, a⟩)) (b := xR a l) rfl (by simpa using e)
 have h3 := h2.say (b := OA.pure ((some ⟨b, 0, none⟩ : Option Addr) = some ⟨b, 0, none⟩)) ⟨rfl, fun _ x => x⟩
 have h4 := h3.andZ 0 1
 have h5 := h4.toexZ (f := fun (q : Nat × Option Addr) => (OA.pure ((some ⟨b, 0, none⟩ : Option Addr) = some ⟨q.1, 0, none⟩)).and ((oB q.1 uh (Scope.C ⟨n, f, q.2⟩)).and (xR q.2 l))) (b, a)
 refine h5.pickZ fun z hz => ?_
 rcases List.mem_cons.1 hz with rfl | hz
 ·exact List.mem_cons_self ..
 ·simp [hz]
theorem Gw.St.openScope (h : St A N w0 w L Z) (k : Nat) {a : Option Addr} {n : ByteArray} {f : Int} {l : List (ByteArray × Int)} (e : Z[k]? = some (xR a ((n, f) :: l)) := by rfl) :
  ∃ p next, a = some ⟨p, 0, none⟩ ∧ St A N w0 w L (oB p uh (Scope.C ⟨n, f, next⟩) :: xR next l :: Z) := by
 obtain ⟨⟨p, next⟩, h1⟩ := h.unexZ k (f := fun (q : Nat × Option Addr) => (OA.pure (a = some ⟨q.1, 0, none⟩)).and ((oB q.1 uh (Scope.C ⟨n, f, q.2⟩)).and (xR q.2 l))) e
 have h2 := h1.unandZ 0
 have hp := h2.getpZ 0
 have h3 := h2.unandZ 1
 refine ⟨p, next, hp, h3.pickZ fun z hz => ?_⟩
 rcases List.mem_cons.1 hz with rfl | hz
 ·exact List.mem_cons_self ..
 rcases List.mem_cons.1 hz with rfl | hz
 ·simp
 ·simp [hz]
theorem Gw.St.endScope (h : St A N w0 w L Z) (k : Nat) {a : Option Addr} (e : Z[k]? = some (xR a []) := by rfl) : a = none := h.getpZ k e
end
end Go.Proofs.YtjebgcoknpcadaaGreatDoor
end
section
namespace Go.Proofs.YtjebgcoknpcadaaGreatDoor
open Go.RowKit Go.Extern.Stop Go.Stop Go.Extern
theorem as_nil (t : Value) (w : World) :
  Calls Tryz.prog 116 #[.nilIface, t] w fun e w' => e = .returned (.bool false) ∧ w' = w := by
 go_enter Tryz.func116, Tryz.ntmps116
 go_wp2
 go_ret
 exact ⟨rfl, rfl⟩
theorem asF_valueOf27 (t : Addr) (w : World) : (ReflectliteValue.unpack (.iface 196 (.pointer (some t)))).run Tryz.prog w
  = .ok (.agg #[.pointer (some ⟨4, 196, none⟩), .pointer (some ⟨w.heap.size, 0, none⟩), .int .u64 150]) (w.alloc (.cells #[.pointer (some t)] 196)) := by kernel_rfl
theorem asF_type27 (a : Addr) (w : World) : (ReflectliteValue.methodAny (ReflectliteValue.valueError "reflectlite.Value.Type" 0) (fun t _ _ _ => ReflectliteType.toType t) #[.agg #[.pointer (some ⟨4, 196, none⟩), .pointer (some a), .int .u64 150]]).run Tryz.prog w
  = .ok (.iface 282 (.agg #[.pointer (some ⟨4, 196, none⟩)])) w := by kernel_rfl
theorem asF_methodKind (h : Value) (w : World) : (Go.method (347 + 100) 282 (.agg #[h]) "Kind").run Tryz.prog w = .ok (261, h) w := by kernel_rfl
theorem asF_kind27 (w : World) : ((ReflectliteType.abiMethod fun t => (fun a : Nat => Value.int IntKind.u8 (a : Int)) <$> Rtype.kind t) #[.pointer (some ⟨4, 196, none⟩)]).run Tryz.prog w = .ok (.int .u8 22) w := by kernel_rfl
theorem asF_kind25 (w : World) : ((ReflectliteType.abiMethod fun t => (fun a : Nat => Value.int IntKind.u8 (a : Int)) <$> Rtype.kind t) #[.pointer (some ⟨4, 191, none⟩)]).run Tryz.prog w = .ok (.int .u8 22) w := by kernel_rfl
theorem asF_rlm (z : Sem Value) (f : TypeId → Addr → Nat → Nat → Sem Value) (v : Value) :
  ReflectliteValue.method z f #[v] = (do match ← ReflectliteValue.parts v with | none => z | some (t, a, fl) => f t a fl (fl % 32)) := rfl
theorem asF_parts27 (a : Addr) (w : World) : (ReflectliteValue.parts (.agg #[.pointer (some ⟨4, 196, none⟩), .pointer (some a), .int .u64 150])).run Tryz.prog w = .ok (some (196, a, 150)) w := by kernel_rfl
theorem asF_isNil27 (a p : Addr) (W : World) (ha : W.cell? a = some (.pointer (some p))) :
  (ReflectliteValue.method (ReflectliteValue.valueError "reflectlite.Value.IsNil" 0) ReflectliteValue.isNil #[.agg #[.pointer (some ⟨4, 196, none⟩), .pointer (some a), .int .u64 150]]).run Tryz.prog W = .ok (.bool false) W := by
 rw [asF_rlm]
 simp only [Sem.run_bind, asF_parts27, Result.andThen]
 simp [ReflectliteValue.isNil, loadVar, isAgg, underlying, Tryz.underlying196, ha, Result.andThen]
theorem asF_methodElem (h : Value) (w : World) : (Go.method (347 + 100) 282 (.agg #[h]) "Elem").run Tryz.prog w = .ok (272, .agg #[h]) w := by kernel_rfl
theorem asF_methodImplements (h : Value) (w : World) : (Go.method (347 + 100) 282 (.agg #[h]) "Implements").run Tryz.prog w = .ok (273, .agg #[h]) w := by kernel_rfl
theorem asF_methodAssignableTo (h : Value) (w : World) : (Go.method (347 + 100) 282 (.agg #[h]) "AssignableTo").run Tryz.prog w = .ok (270, .agg #[h]) w := by kernel_rfl
theorem asF_elem27 (w : World) : (ReflectliteType.method ReflectliteType.elem #[.agg #[.pointer (some ⟨4, 196, none⟩)]]).run Tryz.prog w = .ok (.iface 282 (.agg #[.pointer (some ⟨4, 191, none⟩)])) w := by kernel_rfl
theorem asF_implements25 (w : World) : (ReflectliteType.relation "Implements" ReflectliteType.implements_ #[.agg #[.pointer (some ⟨4, 191, none⟩)], .iface 282 (.agg #[.pointer (some ⟨4, 140, none⟩)])]).run Tryz.prog w = .ok (.bool true) w := by kernel_rfl
theorem asF_typeOf25 (v : Value) (w : World) : (ReflectliteType.typeOf #[.iface 191 v]).run Tryz.prog w = .ok (.iface 282 (.agg #[.pointer (some ⟨4, 191, none⟩)])) w := by kernel_rfl
theorem asF_assignable25 (w : World) : (ReflectliteType.relation "AssignableTo" ReflectliteType.assignableTo #[.agg #[.pointer (some ⟨4, 191, none⟩)], .iface 282 (.agg #[.pointer (some ⟨4, 191, none⟩)])]).run Tryz.prog w = .ok (.bool true) w := by kernel_rfl
theorem asF_valueOf25 (e : Addr) (w : World) : (ReflectliteValue.unpack (.iface 191 (.pointer (some e)))).run Tryz.prog w
  = .ok (.agg #[.pointer (some ⟨4, 191, none⟩), .pointer (some ⟨w.heap.size, 0, none⟩), .int .u64 150]) (w.alloc (.cells #[.pointer (some e)] 191)) := by kernel_rfl
theorem asF_elemOf27 (w : World) : (Rtype.elem? 196).run Tryz.prog w = .ok (some 191) w := by kernel_rfl
theorem asF_mk25 (p : Addr) (w : World) : (ReflectliteValue.mk 191 p ReflectliteValue.flagAddr).run Tryz.prog w = .ok (.agg #[.pointer (some ⟨4, 191, none⟩), .pointer (some p), .int .u64 406]) w := by kernel_rfl
theorem asF_elemV27 (a p : Addr) (W : World) (ha : W.cell? a = some (.pointer (some p))) :
  (ReflectliteValue.method (ReflectliteValue.valueError "reflectlite.Value.Elem" 0) ReflectliteValue.elem #[.agg #[.pointer (some ⟨4, 196, none⟩), .pointer (some a), .int .u64 150]]).run Tryz.prog W
   = .ok (.agg #[.pointer (some ⟨4, 191, none⟩), .pointer (some p), .int .u64 406]) W := by
 rw [asF_rlm]
 simp only [Sem.run_bind, asF_parts27, Result.andThen]
 simp [ReflectliteValue.elem, loadVar, isAgg, underlying, Tryz.underlying196, ha, Result.andThen, asF_elemOf27, asF_mk25]
theorem asF_rls (v x : Value) : ReflectliteValue.set #[v, x] = (do
  let (some (dst, a, fl), some (src, b, _)) := (← ReflectliteValue.parts v, ← ReflectliteValue.parts x)
   | unsupported (.noEntry "extern/(internal/reflectlite.Value).Set.zeroValue")
  if fl / ReflectliteValue.flagAddr % 2 == 0 then unsupported (.noEntry "extern/(internal/reflectlite.Value).Set.unaddressable")
  let val ← loadVar src b
  if ← Rtype.directlyAssignable dst src then storeVar dst a val
  else if ← Rtype.implements dst src then
   if (← Rtype.kind src) == 20 then
    match val with
    | .nilIface => unsupported (.noEntry "extern/reflectlite: a nil value of one interface type handed on as a value of another")
    | _ => storeVar dst a val
   else storeVar dst a (.iface src val)
  else panicString ("reflectlite.Set: value of type " ++ (← Rtype.spelt src) ++ " is not assignable to type " ++ (← Rtype.spelt dst))
  pure (.tuple #[])) := rfl
theorem asF_parts25a (a : Addr) (w : World) : (ReflectliteValue.parts (.agg #[.pointer (some ⟨4, 191, none⟩), .pointer (some a), .int .u64 406])).run Tryz.prog w = .ok (some (191, a, 406)) w := by kernel_rfl
theorem asF_parts25 (a : Addr) (w : World) : (ReflectliteValue.parts (.agg #[.pointer (some ⟨4, 191, none⟩), .pointer (some a), .int .u64 150])).run Tryz.prog w = .ok (some (191, a, 150)) w := by kernel_rfl
theorem asF_direct25 (w : World) : (Rtype.directlyAssignable 191 191).run Tryz.prog w = .ok true w := by kernel_rfl
theorem asF_set25 (ta b e : Addr) (old : Value) (W : World) (hb : W.cell? b = some (.pointer (some e))) (ht : W.cell? ta = some old) (hf : W.frozen? ta = false) :
  (ReflectliteValue.set #[.agg #[.pointer (some ⟨4, 191, none⟩), .pointer (some ta), .int .u64 406], .agg #[.pointer (some ⟨4, 191, none⟩), .pointer (some b), .int .u64 150]]).run Tryz.prog W
   = .ok (.tuple #[]) (W.setCell ta (.pointer (some e))) := by
 rw [asF_rls]
 simp only [Sem.run_bind, asF_parts25a, asF_parts25, Result.andThen]
 simp [ReflectliteValue.flagAddr, loadVar, isAgg, underlying, Tryz.underlying191, hb, Result.andThen, asF_direct25, storeVar, Value.cells, storeCells, Addr.add]
 rw [run_store Tryz.prog W ta _ _ (by rfl)]
 simp [ht, hf]
set_option maxHeartbeats 4000000 in
theorem as_hit (e t : Addr) (old : Value) (w : World) (hg : w.cell? ⟨0, 0, none⟩ = some (.iface 282 (.agg #[.pointer (some ⟨4, 140, none⟩)]))) (ht0 : w.cell? t = some old) (hf0 : w.frozen? t = false) :
  Calls Tryz.prog 116 #[.iface 191 (.pointer (some e)), .iface 196 (.pointer (some t))] w fun ev w' => ev = .returned (.bool true) ∧ w' = ((((w.alloc (.cells #[.pointer (some t)] 196)).alloc (.cells #[.pointer (some ⟨4, 196, none⟩), .pointer (some ⟨w.heap.size, 0, none⟩), .int .u64 150] 246)).alloc (.cells #[.pointer (some ⟨4, 196, none⟩), .pointer (some ⟨w.heap.size, 0, none⟩), .int .u64 150] 246)).alloc (.cells #[.pointer (some e)] 191)).setCell t (.pointer (some e)) := by
 have h6 := @run_callFunc_extern Tryz.prog 180 _ (fun args => ReflectliteValue.unpack (args.getD 0 (.tuple #[]))) Tryz.func180 (by kernel_rfl) (by kernel_rfl) (by kernel_rfl) (by kernel_rfl)
 have h7 := @run_callFunc_extern Tryz.prog 181 _ (ReflectliteValue.methodAny (ReflectliteValue.valueError "reflectlite.Value.Type" 0) (fun t _ _ _ => ReflectliteType.toType t)) Tryz.func181 (by kernel_rfl) (by kernel_rfl) (by kernel_rfl) (by kernel_rfl)
 have h8 := @run_callFunc_extern Tryz.prog 182 _ (ReflectliteValue.method (ReflectliteValue.valueError "reflectlite.Value.IsNil" 0) ReflectliteValue.isNil) Tryz.func182 (by kernel_rfl) (by kernel_rfl) (by kernel_rfl) (by kernel_rfl)
 have h27 := @run_callFunc_extern Tryz.prog 261 _ (ReflectliteType.abiMethod fun t => do pure (.int .u8 (← Rtype.kind t))) Tryz.func261 (by kernel_rfl) (by kernel_rfl) (by kernel_rfl) (by kernel_rfl)
 have h37 := @run_callFunc_extern Tryz.prog 272 _ (ReflectliteType.method ReflectliteType.elem) Tryz.func272 (by kernel_rfl) (by kernel_rfl) (by kernel_rfl) (by kernel_rfl)
 have h38 := @run_callFunc_extern Tryz.prog 273 _ (ReflectliteType.relation "Implements" ReflectliteType.implements_) Tryz.func273 (by kernel_rfl) (by kernel_rfl) (by kernel_rfl) (by kernel_rfl)
 have h10 := @run_callFunc_extern Tryz.prog 217 _ ReflectliteType.typeOf Tryz.func217 (by kernel_rfl) (by kernel_rfl) (by kernel_rfl) (by kernel_rfl)
 have h35 := @run_callFunc_extern Tryz.prog 270 _ (ReflectliteType.relation "AssignableTo" ReflectliteType.assignableTo) Tryz.func270 (by kernel_rfl) (by kernel_rfl) (by kernel_rfl) (by kernel_rfl)
 have h11 := @run_callFunc_extern Tryz.prog 218 _ (ReflectliteValue.method (ReflectliteValue.valueError "reflectlite.Value.Elem" 0) ReflectliteValue.elem) Tryz.func218 (by kernel_rfl) (by kernel_rfl) (by kernel_rfl) (by kernel_rfl)
 have h12 := @run_callFunc_extern Tryz.prog 219 _ ReflectliteValue.set Tryz.func219 (by kernel_rfl) (by kernel_rfl) (by kernel_rfl) (by kernel_rfl)
 have tO := asF_typeOf25
 have mA := asF_methodAssignableTo
 have a25 := asF_assignable25
 have v25 := asF_valueOf25
 have f6 := asF_valueOf27
 have f7 := asF_type27
 have mK := asF_methodKind
 have mE := asF_methodElem
 have mI := asF_methodImplements
 have k27 := asF_kind27
 have k25 := asF_kind25
 have e27 := asF_elem27
 have i25 := asF_implements25
 have n8 := asF_isNil27 ⟨w.heap.size, 0, none⟩ t ((w.alloc (.cells #[.pointer (some t)] 196)).alloc (.cells #[.pointer (some ⟨4, 196, none⟩), .pointer (some ⟨w.heap.size, 0, none⟩), .int .u64 150] 246)) (by simp)
 have hlt : 0 < w.heap.size := by
  rcases Nat.lt_or_ge 0 w.heap.size with h | h
  ·exact h
  ·simp [World.cell?, Array.getElem?_eq_none h] at hg
 have hg2 : ((w.alloc (.cells #[.pointer (some t)] 196)).alloc (.cells #[.pointer (some ⟨4, 196, none⟩), .pointer (some ⟨w.heap.size, 0, none⟩), .int .u64 150] 246)).cell? ⟨0, 0, none⟩ = some (.iface 282 (.agg #[.pointer (some ⟨4, 140, none⟩)])) := by
  rw [World.cell?_alloc_lt _ _ ⟨0, 0, none⟩ (by first | (simp; done) | (simp; omega)), World.cell?_alloc_lt _ _ ⟨0, 0, none⟩ hlt]; exact hg
 have htl : t.block < w.heap.size := by
  rcases Nat.lt_or_ge t.block w.heap.size with h | h
  ·exact h
  ·simp [World.cell?, Array.getElem?_eq_none h] at ht0
 have el := asF_elemV27 ⟨w.heap.size, 0, none⟩ t (((w.alloc (.cells #[.pointer (some t)] 196)).alloc (.cells #[.pointer (some ⟨4, 196, none⟩), .pointer (some ⟨w.heap.size, 0, none⟩), .int .u64 150] 246)).alloc (.cells #[.pointer (some ⟨4, 196, none⟩), .pointer (some ⟨w.heap.size, 0, none⟩), .int .u64 150] 246)) (by rw [World.cell?_alloc_lt _ _ ⟨w.heap.size, 0, none⟩ (by simp; omega)]; simp)
 have st := asF_set25 t ⟨w.heap.size + 1 + 1 + 1, 0, none⟩ e old ((((w.alloc (.cells #[.pointer (some t)] 196)).alloc (.cells #[.pointer (some ⟨4, 196, none⟩), .pointer (some ⟨w.heap.size, 0, none⟩), .int .u64 150] 246)).alloc (.cells #[.pointer (some ⟨4, 196, none⟩), .pointer (some ⟨w.heap.size, 0, none⟩), .int .u64 150] 246)).alloc (.cells #[.pointer (some e)] 191))
  (by rw [World.cell?_alloc_at _ _ _ _ (by simp)]; rfl)
  (by rw [World.cell?_alloc_lt _ _ t (by simp; omega), World.cell?_alloc_lt _ _ t (by simp; omega), World.cell?_alloc_lt _ _ t (by simp; omega), World.cell?_alloc_lt _ _ t htl]; exact ht0)
  (by rw [World.frozen?_alloc_old _ _ t (by simp; omega), World.frozen?_alloc_old _ _ t (by simp; omega), World.frozen?_alloc_old _ _ t (by simp; omega), World.frozen?_alloc_old _ _ t (Nat.ne_of_lt htl)]; exact hf0)
 go_enter Tryz.func116, Tryz.ntmps116
 go_wp2
 refine wp_loop_rounds 1 ?_
 rw [rounds_succ]
 go_wp2
 go_ret
 exact ⟨rfl, rfl⟩
end Go.Proofs.YtjebgcoknpcadaaGreatDoor
end
section
namespace Go.Proofs.YtjebgcoknpcadaaGreatDoor
open Gw Go.RowKit
abbrev xO : TypeId := 191
def oE (v : Value) (x : Option (Int × List Int)) : OA := match x with
 | none => OA.pure (v = .nilIface)
 | some (c, up) => OA.ex fun (q : Nat × SlV) => (OA.pure (v = .iface xO (.pointer (some ⟨q.1, 0, none⟩)))).star ((oB q.1 kM (Refusal.C ⟨c, q.2⟩)).star (oS zX 1 IC q.2 up))
theorem oE.val {w : World} {v : Value} {x : Option (Int × List Int)} (h : (oE v x).on w) : (x = none ∧ v = .nilIface) ∨ ∃ q b, x = some q ∧ v = .iface xO (.pointer (some ⟨b, 0, none⟩)) := by
 obtain ⟨F, h⟩ := h
 cases x with
 | none => exact .inl ⟨rfl, h.1⟩
 | some q => obtain ⟨⟨b, s⟩, G, H, g, _⟩ := h; exact .inr ⟨q, b, rfl, g.1⟩
section
variable {P : Program} {f : Fr} {w w' : World} {d : Option Tmp} {ty : TypeId} {pos : String} {af : Array Edge} {gd : Option (Nat × Bool)}
theorem run_eqGuard_nil (op : BinOp) (t : TypeId) (x : Operand) (c : Value) : (eqGuard op t x (.const c) .nilIface .nilIface).run P w = .ok () w := by
 unfold eqGuard
 cases x <;> split <;> rfl
theorem run_eqGuard_ifn (op : BinOp) (t u : TypeId) (x y : Operand) (v : Value) : (eqGuard op t x y (.iface u v) .nilIface).run P w = .ok () w := by
 unfold eqGuard
 split <;> rfl
theorem Gw.does_neE {t u : TypeId} {x : Operand} {v : Value} {e : Option (Int × List Int)} (ht : P.underlying t = some (.interface (P.methodsAt t))) (hx : evF f x = v) (hy : evF f (.const .nilIface) = .nilIface) (h : (oE v e).on w) : Does P ⟨d, .binOp .neq t x (.const .nilIface) u, ty, pos, af, gd⟩ f w (.bool e.isSome) w := by
 rcases oE.val h with ⟨rfl, rfl⟩ | ⟨q, b, rfl, rfl⟩
 ·simp only [Does, execOp, hx, hy, Sem.run_bind, run_eqGuard_nil, Result.andThen_ok, run_neq_nil_nil w t ht, Sem.run_pure]; rfl
 ·simp only [Does, execOp, hx, hy, Sem.run_bind, run_eqGuard_ifn, Result.andThen_ok, run_neq_held_nil w t _ _ ht, Sem.run_pure]; rfl
theorem Gw.does_eqE {t u : TypeId} {x : Operand} {v : Value} {e : Option (Int × List Int)} (ht : P.underlying t = some (.interface (P.methodsAt t))) (hx : evF f x = v) (hy : evF f (.const .nilIface) = .nilIface) (h : (oE v e).on w) : Does P ⟨d, .binOp .eql t x (.const .nilIface) u, ty, pos, af, gd⟩ f w (.bool e.isNone) w := by
 rcases oE.val h with ⟨rfl, rfl⟩ | ⟨q, b, rfl, rfl⟩
 ·simp only [Does, execOp, hx, hy, Sem.run_bind, run_eqGuard_nil, Result.andThen_ok, run_eql_nil_nil w t ht, Sem.run_pure]; rfl
 ·simp only [Does, execOp, hx, hy, Sem.run_bind, run_eqGuard_ifn, Result.andThen_ok, run_eql_held_nil w t _ _ ht, Sem.run_pure]; rfl
theorem Gw.does_mkIface {t : TypeId} {x : Operand} {v : Value} (ht : P.concrete t = true) (hx : evF f x = v) : Does P ⟨d, .makeInterface t x, ty, pos, af, gd⟩ f w (.iface t v) w := by
 simp only [Does, execOp, hx, Sem.run_bind, run_makeInterface w t v ht, Result.andThen_ok, Sem.run_pure]
end
theorem Gw.does_makeInterface {f : Fr} {w : World} {d : Option Tmp} {ty : TypeId} {pos : String} {af : Array Edge} {gd : Option (Nat × Bool)} {x : Operand} {v : Value} (hx : evF f x = v) : Does PP ⟨d, .makeInterface xO x, ty, pos, af, gd⟩ f w (.iface xO v) w := does_mkIface (by kernel_rfl) hx
section
variable {A : Nat → Prop} {N : Oth} {w0 w w' : World} {L Z : List OA}
theorem Gw.St.nilE (h : St A N w0 w L Z) : St A N w0 w (oE .nilIface none :: L) Z := h.putp rfl
theorem Gw.St.mkE {b : Nat} {s : SlV} {c : Int} {up : List Int} (h : St A N w0 w (oB b kM (Refusal.C ⟨c, s⟩) :: oS zX 1 IC s up :: L) Z) : St A N w0 w (oE (.iface xO (.pointer (some ⟨b, 0, none⟩))) (some (c, up)) :: L) Z :=
 St.toex (f := fun (q : Nat × SlV) => (OA.pure (Value.iface xO (.pointer (some ⟨b, 0, none⟩)) = .iface xO (.pointer (some ⟨q.1, 0, none⟩)))).star ((oB q.1 kM (Refusal.C ⟨c, q.2⟩)).star (oS zX 1 IC q.2 up))) (b, s) (h.star.putp rfl).star
theorem Gw.St.openE (h : St A N w0 w L Z) (k : Nat) {v : Value} {c : Int} {up : List Int} {L' : List OA} (e : L[k]? = some (oE v (some (c, up))) := by rfl) (e' : L.eraseIdx k = L' := by rfl) : ∃ b s, v = .iface xO (.pointer (some ⟨b, 0, none⟩)) ∧ St A N w0 w (oB b kM (Refusal.C ⟨c, s⟩) :: oS zX 1 IC s up :: L') Z := by
 subst e'
 obtain ⟨⟨b, s⟩, h1⟩ := h.unex k (f := fun (q : Nat × SlV) => (OA.pure (v = .iface xO (.pointer (some ⟨q.1, 0, none⟩)))).star ((oB q.1 kM (Refusal.C ⟨c, q.2⟩)).star (oS zX 1 IC q.2 up))) e
 have h2 := h1.unstar 0
 exact ⟨b, s, h2.getp 0, (h2.drop 0).unstar 0⟩
theorem Gw.St.seeE (h : St A N w0 w L Z) (k : Nat) {v : Value} (e : L[k]? = some (oE v none) := by rfl) : v = .nilIface := h.getp k e
end
theorem Gw.St.newP {M : Oth} {w w' : World} {a : OA} {Z : List OA} (h : St (fun _ => False) M w w' [a] Z) : ∃ F, a.holds w' F ∧ ∀ i, F i → w.heap.size ≤ i := by
 obtain ⟨U, hU, hN, hA, ⟨F, hF, hFU, _⟩, hZ, hW⟩ := h
 exact ⟨F, hF, fun i hi => (hU i (hFU i hi)).1.elim (fun x => x.elim) id⟩
def etV : Value := .iface 282 (.agg #[.pointer (some ⟨4, 140, none⟩)])
abbrev Et (w : World) : Prop := jv w 0 0 [etV]
def oEt : OA where
 holds := fun w F => Et w ∧ ∀ i, F i ↔ i = 0
 loc := fun h hc hs => ⟨h.1.chg hc (hs _ ((h.2 _).2 rfl)), h.2⟩
 lt := fun {w F} h i hi => by
  rw [(h.2 i).1 hi]
  have h1 := h.1 0 etV rfl
  rcases Nat.lt_or_ge 0 w.heap.size with q | q
  ·exact q
  ·simp [World.cell?, Array.getElem?_eq_none q] at h1
theorem Gw.St.et {A : Nat → Prop} {N : Oth} {w0 w : World} {L Z : List OA} (h : St A N w0 w L Z) (k : Nat) (e : Z[k]? = some oEt := by rfl) : Et w := (h.frz k e).elim fun _ q => q.1
theorem setCell_chg {w : World} {b : Nat} {t : TypeId} {v : Value} (v' : Value) (hb : Blk w b t [v]) : Blk (w.setCell ⟨b, 0, none⟩ v') b t [v'] ∧ Chg (· = b) w (w.setCell ⟨b, 0, none⟩ v') := by
 have h1 : Blk (w.setCell ⟨b, 0, none⟩ v') b t [v'] := by
  unfold Blk at *
  simp [World.setCell, Array.getElem?_modify, hb]
 have h2 : ∀ k, k ≠ b → (w.setCell ⟨b, 0, none⟩ v').heap[k]? = w.heap[k]? := fun k hk => by simp [World.setCell, Array.getElem?_modify, Ne.symm hk]
 exact ⟨h1, rfl, rfl, rfl, by simp [World.setCell], fun k _ hk => h2 k hk, froz_at b (by rw [h1]; exact y8.cells _ _) (by rw [hb]; exact y8.cells _ _) h2⟩
theorem errors_As_no (t : Value) (w : World) : Calls PP F_errors_As #[.nilIface, t] w fun e w' => ∃ v, e = .returned v ∧ (v = .bool false ∧ Ext w w') :=
 CallsIn.mono (F := fen none) (n := 0) (callsIn_wide.2 (as_nil t w)) (by rintro e w' ⟨rfl, rfl⟩; exact ⟨_, rfl, rfl, Ext.refl _⟩) |> callsIn_wide.1
theorem ext_cells (w : World) (l : List Value) (t : TypeId) : Ext w (w.alloc (.cells l.toArray t)) := New.ext ⟨rfl, rfl⟩
theorem errors_As_yes (e : Addr) {t : Nat} {v : Value} {w : World} (hg : Et w) (hb : Blk w t xO [v]) :
  Calls PP F_errors_As #[.iface xO (.pointer (some e)), .iface 196 (.pointer (some ⟨t, 0, none⟩))] w fun ev w' => ∃ v, ev = .returned v ∧ (v = .bool true ∧ Chg (· = t) w w' ∧ Blk w' t xO [.pointer (some e)]) := by
 have h := as_hit e ⟨t, 0, none⟩ v w (hg 0 etV rfl) (hb.cell rfl) (y8.not (by rw [show w.heap[t]? = _ from hb]; exact y8.cells _ _))
 refine CallsIn.mono (F := fen none) (n := 0) (callsIn_wide.2 h) (fun ev w' => ?_) |> callsIn_wide.1
 rintro ⟨rfl, rfl⟩
 refine ⟨_, rfl, rfl, ?_⟩
 have x1 := ext_cells w [.pointer (some ⟨t, 0, none⟩)] 196
 have x2 := x1.trans (ext_cells _ [.pointer (some ⟨4, 196, none⟩), .pointer (some ⟨w.heap.size, 0, none⟩), .int .u64 150] 246)
 have x3 := x2.trans (ext_cells _ [.pointer (some ⟨4, 196, none⟩), .pointer (some ⟨w.heap.size, 0, none⟩), .int .u64 150] 246)
 have x4 := x3.trans (ext_cells _ [.pointer (some e)] xO)
 obtain ⟨h1, h2⟩ := setCell_chg (.pointer (some e)) (hb.ext x4)
 exact ⟨(x4.mono fun _ _ x => x.elim).trans h2, h1⟩
end Go.Proofs.YtjebgcoknpcadaaGreatDoor
end
section
namespace Go.Proofs.YtjebgcoknpcadaaGreatDoor
open Go.RowKit
namespace Gw
def Owe3 (P : Program) (rd : Option Nat) (n : Nat) (dm : List Nat) (ops : Array Oper) (ds : List Nat) (D : Draw) (f : Fr) (i : Nat) (o : Oper) : Prop :=
 ∀ (L : Nat → Bool) (g : Fr) (w : World), L i = false → (∀ j, ((Region.before ops).getD i 0).testBit j = true → L j = true) → D.T L w → givens ops D g w (yP o) (wl P rd n dm ops [o] (obPost2 dm D L i o.dst (mask ds g f) w) (mask ds g f) w)
def Owes3 (P : Program) (rd : Option Nat) (n : Nat) (dm : List Nat) (ops : Array Oper) (ds : List Nat) (D : Draw) (f : Fr) : List Oper → Nat → Prop
 | [], _ => True
 | o :: l, i => Owe3 P rd n dm ops ds D f i o ∧ Owes3 P rd n dm ops ds D f l (i + 1)
section
variable {P : Program} {rd : Option Nat} {n m : Nat} {dm : List Nat} {ops : Array Oper} {Q : Post} {f : Fr} {w : World}
theorem owes3_at {ds : List Nat} {D : Draw} : ∀ (l : List Oper) (i : Nat), Owes3 P rd n dm ops ds D f l i → ∀ j o, l[j]? = some o → Owe3 P rd n dm ops ds D f (i + j) o
 | [], _, _, j, o, hj => by simp at hj
 | o :: l, i, h, 0, o', hj => by simp at hj; subst hj; exact h.1
 | o :: l, i, h, j + 1, o', hj => by
  have := owes3_at l (i + 1) h.2 j o' (by simpa using hj)
  rwa [show i + 1 + j = i + (j + 1) by omega] at this
theorem wc_draw3 {id : Nat} {l : List Oper} (m : Nat) (D : Draw) (hm : P.follows .mixedOrders = true) (hB : drawB2 l.toArray m = true)
  (hst : ∀ L i v w w', L i = true → D.Le L w w' → D.V i v w → D.V i v w') (hT : D.T (fun _ => false) { w with drawn := w.drawn + 1 })
  (ho : Owes3 P rd n dm l.toArray ((l.take m).filterMap (·.dst)) D f (l.take m) 0)
  (hq : ∀ L g w, (∀ j, L j = decide (j < m)) → D.T L w → allV D g w (l.take m) 0 (wl P rd n dm l.toArray (l.drop m) Q (mask ((l.take m).filterMap (·.dst)) g f) w)) : wc P rd n dm (.region id l.toArray true) Q f w := by
 intro a ha
 refine wpIn_region_any hm ?_
 simp only [drawB2, Bool.and_eq_true, decide_eq_true_eq, List.all_eq_true] at hB
 obtain ⟨⟨⟨hnd, hback⟩, htail⟩, hml⟩ := hB
 simp only [List.size_toArray] at hml
 generalize hds : (l.take m).filterMap (·.dst) = ds at *
 have hb : Back l.toArray := by
  intro i o hi e he hbd
  have := hback (o, i) (by
   rw [List.mem_zipIdx_iff_getElem?]
   simpa using hi) e (by simpa using he)
  simp only [hbd, Bool.not_true, Bool.false_or, decide_eq_true_eq] at this
  exact this
 have hord : ∀ k, m ≤ k → k < l.toArray.size → ∀ listed : Array Bool, listed.size = l.toArray.size → k ∈ Region.ready .any l.toArray listed → Closed l.toArray listed → ∀ j, j < k → listed.getD j false = true := by
  intro k hmk hk listed hs hr hc j hj
  have hkl : k < l.length := by simpa using hk
  have h1 := htail (l[k], k) (by
   rw [List.mem_zipIdx_iff_getElem?]
   simp)
  simp only [Bool.or_eq_true, decide_eq_true_eq] at h1
  rcases h1 with h1 | h1
  ·omega
  ·rw [List.all_eq_true] at h1
   have h2 := h1 j (by simpa using hj)
   rw [mem_ready] at hr
   obtain ⟨_, o, ho', hall⟩ := hr
   refine uR hc [] #[] rfl (by simp) (by simp) l.toArray.toList (by simp) k hk j ?_ ?_
   ·unfold Region.before at h2
    rw [← Array.foldl_toList] at h2
    exact h2
   ·rw [ho']
    simpa using hall
 have hmd : ∀ j o, (l.take m)[j]? = some o → j < m ∧ l.toArray[j]? = some o ∧ ∀ d, o.dst = some d → d ∈ ds := by
  intro j o hj
  have hjm : j < m := by
   have := (List.getElem?_eq_some_iff.1 hj).1
   simp at this; omega
  have hjo : l[j]? = some o := by rw [List.getElem?_take] at hj; simpa [hjm] using hj
  exact ⟨hjm, by simpa using hjo, fun d hd => by rw [← hds]; exact List.mem_filterMap.2 ⟨o, List.mem_of_getElem? hj, hd⟩⟩
 have hinj : ∀ (i j : Nat) (oi oj : Oper) (d : Nat), (l.take m)[i]? = some oi → (l.take m)[j]? = some oj → oi.dst = some d → oj.dst = some d → i = j := by
  have hgen : ∀ (L : List Oper), (L.filterMap (·.dst)).Nodup → ∀ (i j : Nat) (oi oj : Oper) (d : Nat), L[i]? = some oi → L[j]? = some oj → oi.dst = some d → oj.dst = some d → i = j := by
   intro L
   induction L with
   | nil => intro _ i j oi oj d h; simp at h
   | cons o L ih =>
    intro hn i j oi oj d hi hj hdi hdj
    have hn' : (L.filterMap (·.dst)).Nodup := by
     rw [List.filterMap_cons] at hn
     split at hn
     ·exact hn
     ·exact (List.nodup_cons.1 hn).2
    have hno : ∀ (k : Nat) (ok : Oper) (dd : Nat), L[k]? = some ok → o.dst = some dd → ok.dst ≠ some dd := by
     intro k ok dd hk hod hkd
     rw [List.filterMap_cons, hod] at hn
     exact (List.nodup_cons.1 hn).1 (List.mem_filterMap.2 ⟨ok, List.mem_of_getElem? hk, hkd⟩)
    cases i with
    | zero =>
     cases j with
     | zero => rfl
     | succ j => simp at hi; subst hi; exact absurd hdj (hno j oj d (by simpa using hj) hdi)
    | succ i =>
     cases j with
     | zero => simp at hj; subst hj; exact absurd hdi (hno i oi d (by simpa using hi) hdj)
     | succ j => rw [ih hn' i j oi oj d (by simpa using hi) (by simpa using hj) hdi hdj]
  exact hgen _ (by rw [hds]; exact hnd)
 have main : ∀ (fuel : Nat) (listed : Array Bool) (g : Fr) (a : Act) (w : World), listed.size = l.length → fuel + cnt listed l.length = l.length → Closed l.toArray listed → (∀ j, m ≤ j → j < l.length → listed.getD j false = false) →
   Is n dm a (mask ds g f) → D.T (fun j => listed.getD j false) w → (∀ j o, (l.take m)[j]? = some o → listed.getD j false = true → overV D g w j o.dst) → wpAnyIn (fen rd) 0 P .any l.toArray (lift n Q) fuel listed a w := by
  intro fuel
  induction fuel with
  | zero =>
   intro listed g a w hs hcnt hc hno ha hT hV
   have hall := zaQ listed l.length (by omega)
   have hm' : m = l.length := by
    by_cases h : m < l.length
    ·have := hno m (Nat.le_refl _) h
     rw [hall m h] at this
     cases this
    ·omega
   have hfin := uc (l.take m) 0 (fun j o hj => by rw [Nat.zero_add]; exact (hV j o hj (hall j (by have := (hmd j o hj).1; omega))).get) (hq _ g w (fun j => by
    by_cases hj : j < l.length
    ·rw [hall j hj, decide_eq_true (by omega)]
    ·rw [v6 listed j (by omega), decide_eq_false (by omega)]) hT)
   rw [List.drop_eq_nil_of_le (by omega)] at hfin
   refine ⟨?_, ?_⟩
   ·refine List.eq_nil_iff_forall_not_mem.2 fun i hi => ?_
    obtain ⟨h1, h2⟩ := vZ (ops := l.toArray) (by simpa using hs) hi
    rw [hall i (by simpa using h1)] at h2
    cases h2
   ·exact hfin a ha
  | succ fuel ih =>
   intro listed g a w hs hcnt hc hno ha hT hV
   have hs' : listed.size = l.toArray.size := by simpa using hs
   refine ⟨fun hr => ?_, fun i hi => ?_⟩
   ·have hall := ready_nil hb hs' hr
    have := jE listed l.length (fun j hj => hall j (by simpa using hj))
    omega
   ·obtain ⟨h1, h2⟩ := vZ hs' hi
    have h1' : i < l.length := by simpa using h1
    by_cases him : i < m
    ·have hio : (l.take m)[i]? = some l[i] := by
      rw [List.getElem?_take, if_pos him]
      exact List.getElem?_eq_getElem h1'
     obtain ⟨_, hio', hdds⟩ := hmd i _ hio
     have howe := owes3_at _ 0 ho i _ hio (fun j => listed.getD j false) g w (by rw [Nat.zero_add]; exact h2) (fun j hj => by rw [Nat.zero_add] at hj; exact ord_of h1' hj hi hc) hT
     rw [Nat.zero_add] at howe
     have hready := hi
     rw [mem_ready] at hready
     obtain ⟨_, o, hoo, hall⟩ := hready
     rw [hio'] at hoo
     cases hoo
     have hwl := jr (ops := l.toArray) (yP l[i]) (fun j hj => by
      unfold yP at hj
      obtain ⟨e, he, rfl⟩ := List.mem_map.1 hj
      obtain ⟨he1, he2⟩ := List.mem_filter.1 he
      have hbd : Region.binds .any e = true := by
       unfold Region.binds
       cases hg : e.ground <;> rw [hg] at he2 <;> simp at he2 ⊢
      have hlt := hb i _ hio' e (by simpa using he1) hbd
      have hlst := hall e (by simpa using he1) hbd
      have hjm : e.on < m := by omega
      have hjo : (l.take m)[e.on]? = some l[e.on] := by
       rw [List.getElem?_take, if_pos hjm]
       exact List.getElem?_eq_getElem (by omega)
      have := (hV e.on _ hjo hlst).get
      unfold yx
      obtain ⟨_, hj2, _⟩ := hmd _ _ hjo
      rw [hj2]
      simp only [Option.bind_some]
      exact this) howe
     refine zag hio' hwl (fun dm e f' w' q => q.1) ?_ ha
     rintro dm' a' f' w' ha' ⟨_, rfl, hT', hL', hV'⟩
     rw [zaT listed i (by omega)] at hT'
     cases hd : l[i].dst with
     | none =>
      rw [hd] at hV'
      obtain ⟨rfl, hV'⟩ := hV'
      refine ih _ g a' w' (by simpa using hs) ?_ (hc.set hs' hi) ?_ ha' hT' ?_
      ·rw [kA listed i (by omega) h2, if_pos h1']; omega
      ·intro j hmj hjl
       rw [yA _ _ _ (by omega), if_neg (by omega)]
       exact hno j hmj hjl
      ·intro j oj hj hlj
       rw [yA _ _ _ (by omega)] at hlj
       by_cases hij : i = j
       ·subst hij
        rw [hio] at hj
        cases hj
        rw [hd]
        exact hV'
       ·rw [if_neg hij] at hlj
        have hvj := hV j oj hj hlj
        cases hdj : oj.dst with
        | none => rw [hdj] at hvj; exact fun v => hst _ j _ _ _ hlj hL' (hvj v)
        | some dj => rw [hdj] at hvj; exact hst _ j _ _ _ hlj hL' hvj
     | some d =>
     rw [hd] at hV'
     obtain ⟨v, rfl, hV'⟩ := hV'
     have hdds := hdds d hd
     have hmask : upd (mask ds g f) d v = mask ds (upd g d v) f := by
      funext k
      by_cases hk : k = d
      ·subst hk
       rw [upd_same, xN hdds, upd_same]
      ·rw [xT _ _ _ _ hk]
       by_cases hkd : k ∈ ds
       ·rw [xN hkd, xN hkd, xT _ _ _ _ hk]
       ·rw [xI hkd, xI hkd]
     rw [hmask] at ha'
     refine ih _ (upd g d v) a' w' (by simpa using hs) ?_ (hc.set hs' hi) ?_ ha' hT' ?_
     ·rw [kA listed i (by omega) h2, if_pos h1']; omega
     ·intro j hmj hjl
      rw [yA _ _ _ (by omega), if_neg (by omega)]
      exact hno j hmj hjl
     ·intro j oj hj hlj
      rw [yA _ _ _ (by omega)] at hlj
      by_cases hij : i = j
      ·subst hij
       rw [hio] at hj
       cases hj
       rw [hd]
       show D.V i (upd g d v d) _
       rw [upd_same]
       exact hV'
      ·rw [if_neg hij] at hlj
       have hvj := hV j oj hj hlj
       cases hdj : oj.dst with
       | none => rw [hdj] at hvj; exact fun v => hst _ j _ _ _ hlj hL' (hvj v)
       | some dj =>
        rw [hdj] at hvj
        have hne : dj ≠ d := fun e => hij (hinj i j _ oj d hio hj hd (by rw [hdj, e]))
        show D.V j (upd g d v dj) _
        rw [xT _ _ _ _ hne]
        exact hst _ j _ _ _ hlj hL' hvj
    ·have hallj := hord i (by omega) h1 listed hs' hi hc
     have him' : i = m := by
      by_cases h : m < i
      ·have := hno m (Nat.le_refl _) (by omega)
       rw [hallj m h] at this
       cases this
      ·omega
     subst him'
     have hfin := uc (l.take i) 0 (fun j o hj => by rw [Nat.zero_add]; exact (hV j o hj (hallj j (by have := (hmd j o hj).1; omega))).get) (hq _ g w (fun j => by
      by_cases hj : j < i
      ·rw [hallj j hj, decide_eq_true hj]
      ·rw [decide_eq_false hj]
       by_cases hjl : j < l.length
       ·exact hno j (by omega) hjl
       ·exact v6 listed j (by omega)) hT)
     have hfa := hfin a ha
     have hcn : cnt listed l.length = i := by
      have hz : ∀ k, i ≤ k → k ≤ l.length → cnt listed k = i := by
       intro k
       induction k with
       | zero => intro h _; rw [show i = 0 by omega]; rfl
       | succ k ihk =>
        intro h1 h2
        by_cases hk : i ≤ k
        ·rw [jJ, ihk hk (by omega), hno k hk (by omega)]; simp
        ·have : k + 1 = i := by omega
         rw [this]
         exact jE listed i hallj
      exact hz _ (by omega) (Nat.le_refl _)
     have htl := any_tail (rd := rd) (P := P) (m := i) (R := lift n Q) hb hord (fuel + 1) i listed a w (Nat.le_refl _) hs' hc (fun j hj => ⟨(fun h => by
      refine Nat.lt_of_not_le fun hij => ?_
      rw [hno j hij (by simpa using hj)] at h
      cases h), hallj j⟩) (by simp; omega) hfa
     exact htl.2 i hi
 have h0 : Is n dm a (mask ds f f) := by
  have : mask ds f f = f := by funext k; unfold mask; cases ds.elem k <;> rfl
  rw [this]; exact ha
 have hz : cnt (Array.replicate l.toArray.size false) l.length = 0 := by
  unfold cnt
  rw [List.length_eq_zero_iff]
  refine List.filter_eq_nil_iff.2 fun j hj => ?_
  rw [xM]
  simp
 refine main _ _ f a _ (by simp) (by rw [hz]; simp) ?_ (by intro j _ _; rw [xM]) h0 (by rw [show (fun j => (Array.replicate l.toArray.size false).getD j false) = fun _ => false from funext fun j => xM _ j]; exact hT) ?_
 ·intro j o _ h; rw [xM] at h; cases h
 ·intro j o _ h; rw [xM] at h; cases h
end
end Gw
end Go.Proofs.YtjebgcoknpcadaaGreatDoor
end
section
namespace Go.Proofs.YtjebgcoknpcadaaGreatDoor
open Gw Go.RowKit
structure PChecker where
 t : Tb
structure PC where
 t : Tb
 hyps : List Hyp
 way : List Int
 wrong : List Int
section
variable {A : Nat → Prop} {N : Oth} {w0 w w' : World} {L Z : List OA}
end
section
variable {A : Nat → Prop} {N : Oth} {w : World}
-- scopes
theorem Gw.St.nil_fScopeZ {w0 : World} {L Z : List OA} (h : St A N w0 w L Z) : St A N w0 w L (xR none [] :: Z) := h.nilScope
def types_scope_with.f (l : List (ByteArray × Int)) (n : ByteArray) (f : Int) : Option (List (ByteArray × Int)) := some ((n, f) :: l)
theorem yd (w : World) (a : Option Addr) (n : ByteArray) (f : Int) : Calls PP jm #[.pointer a, .string n, .int .i64 f] w fun e w' => ∃ v, e = .returned v ∧ ∃ b : Nat, v = .pointer (some ⟨b, 0, none⟩) ∧ Ext w w' ∧ Blk w' b uh (Scope.C ⟨n, f, a⟩) ∧ w.heap.size ≤ b := by
 refine zw (n := 12) fn_types_scope_with rfl rfl (by simp) ?_
 refine zb (za ?_)
 refine wd (xj rfl) ?_
 refine zd ?_
 refine zb (za ?_)
 refine wd (x9 rfl) ?_
 refine wd (zh rfl) ?_
 refine wd (zr rfl) ?_
 refine wd (xB bu_Scope (Bld.one rfl rfl (by rw [Scope.len]; decide) (Scope.set_name _ _) (Bld.one rfl rfl (by rw [Scope.len]; decide) (Scope.set_form _ _) (Bld.one rfl rfl (by rw [Scope.len]; decide) (Scope.set_next _ _) Bld.nil)))) ?_
 refine zJ rfl (by decide) fun b w1 h1 => ?_
 refine wd (xj rfl) ?_
 refine zd ?_
 refine zn ?_
 exact ⟨_, (zS (ze rfl)), b, rfl, h1.ext, h1.blk, by have := h1.at_; omega⟩
theorem types_scope_with_st {a : Option Addr} {l : List (ByteArray × Int)} {n : ByteArray} {f : Int} (S : St A N w w [] [xR a l]) {r : List (ByteArray × Int)} (H : types_scope_with.f l n f = some r) :
  Calls PP jm #[.pointer a, .string n, .int .i64 f] w fun e w' => ∃ v, e = .returned v ∧ (∃ ao0 : Option Addr, v = .pointer ao0 ∧ St A N w w' [] [xR ao0 r]) := by
 cases H
 refine calls_mono (yd w a n f) ?_
 rintro v w' ⟨b, rfl, hx, hb, hl⟩
 have h1 : St A N w w' [oB b uh (Scope.C ⟨n, f, a⟩)] [xR a l] := S.newAt hx hb hl
 exact ⟨_, rfl, (h1.pushScope 0 0).zs [0]⟩
def types_scope_find.f (l : List (ByteArray × Int)) (n : ByteArray) : Option (Int × Option (Int × List Int)) := some (match l.find? (fun q => decide (q.1 = n)) with | some q => (q.2, none) | none => (0, some (131, [])))
theorem types_scope_find_st {a : Option Addr} {l : List (ByteArray × Int)} {n : ByteArray} (S : St A N w w [] [xR a l]) {r : Int × Option (Int × List Int)} (H : types_scope_find.f l n = some r) :
  Calls PP kR #[.pointer a, .string n] w fun e w' => ∃ v, e = .returned v ∧ (∃ vo0 : Value, v = .tuple #[.int .i64 r.1, vo0] ∧ St A N w w' [oE vo0 r.2] []) := by
 cases H
 refine zw (n := 25) fn_types_scope_find rfl rfl (by simp) ?_
 refine zb (za ?_)
 refine wd (zf rfl) ?_
 refine wd (zA rfl) ?_
 refine zd ?_
 refine zb ?_
 refine yT [0, 4, 5, 6, 7, 8, 9, 10, 11, 12, 13, 14, 15, 16, 17, 18, 19, 20, 21] (fun fr W => l.find? (fun q => decide (q.1 = n)) = none ∧ St A N w W [] []) ?_ ?_
 ·refine zF ?_
  refine yp (α := List (ByteArray × Int) × Option Addr) [0, 4, 5, 6, 7, 8, 9, 10, 11, 12, 13, 14, 15, 16, 17, 18, 19, 20, 21] (fun x fr W => fr 0 = .pointer x.2 ∧ x.1.find? (fun q => decide (q.1 = n)) = l.find? (fun q => decide (q.1 = n)) ∧ St A N w W [] [xR x.2 x.1]) (fun x => x.1.length) (l, a) ⟨rfl, rfl, S⟩ ?_
  rintro ⟨l', a'⟩ g u ⟨q0, hf, S⟩
  try dsimp only at q0 hf S
  refine zb (zb (za ?_))
  refine wd (zr q0) ?_
  refine wd (does_nep0 un_dictum_types_with rfl rfl) ?_
  refine zd ?_
  cases l' with
  | nil =>
   have ha := S.endScope 0
   subst ha
   refine uH rfl ?_
   refine yf ?_
   exact ⟨rfl, (((Dif.self _ _ _).upd rfl _).upd rfl _), hf.symm, S.pickZ (by simp)⟩
  | cons q l' =>
   obtain ⟨n', f'⟩ := q
   obtain ⟨p, nx, ha, S⟩ := S.openScope 0
   subst ha
   refine vI rfl ?_
   refine zt ?_
   refine zb ?_
   refine zF ?_
   refine zb (za ?_)
   refine wd (zr q0) ?_
   refine wd (zH rfl) ?_
   refine wd (zi fl_Scope_name rfl (o' := 0) rfl) ?_
   refine wd (zm xY rfl ((S.blkZ 0).cell (Scope.get_name _))) ?_
   refine wd (x9 rfl) ?_
   refine wd (vu rfl rfl) ?_
   refine zd ?_
   refine zC rfl (fun hc => ?_) (fun hc => ?_)
   ·refine zb (za ?_)
    refine wd (zr q0) ?_
    refine wd (zH rfl) ?_
    refine wd (zi fl_Scope_form rfl (o' := 1) rfl) ?_
    refine wd (zm zQ rfl ((S.blkZ 0).cell (Scope.get_form _))) ?_
    refine wd (zf rfl) ?_
    refine wd (zA rfl) ?_
    refine zd ?_
    refine zn ?_
    refine ⟨_, (zU (ze rfl) (ze rfl)), ?_⟩
    rw [← hf, List.find?_cons_of_pos (by simpa using hc)]
    exact ⟨_, rfl, (S.pickZ (by simp)).nilE⟩
   ·refine zt ?_
    refine za ?_
    refine wd (zr q0) ?_
    refine wd (zH rfl) ?_
    refine wd (zi fl_Scope_next rfl (o' := 2) rfl) ?_
    refine wd (zm on_dictum_types_with rfl ((S.blkZ 0).cell (Scope.get_next _))) ?_
    refine wd (xj rfl) ?_
    refine zd ?_
    refine ⟨rfl, ?_, (l', nx), ⟨rfl, ?_, S.zs [1]⟩, by simp⟩
    ·exact (((((((((((((Dif.self _ _ _).upd rfl _).upd rfl _).upd rfl _).upd rfl _).upd rfl _).upd rfl _).upd rfl _).upd rfl _).upd rfl _).upd rfl _).upd rfl _).upd rfl _).upd rfl _
    ·rw [← hf, List.find?_cons_of_neg (by simpa using hc)]
 rintro g u ⟨hn, S⟩
 refine zb (za ?_)
 refine wd (xB jS (Bld.one rfl rfl (by rw [Refusal.len]; decide) (Refusal.set_code _ _) Bld.nil)) ?_
 refine zJ rfl (by decide) fun b w1 h1 => ?_
 replace S := S.new h1
 refine wd (does_makeInterface rfl) ?_
 refine wd (zf rfl) ?_
 refine wd (zA rfl) ?_
 refine zd ?_
 refine zn ?_
 refine ⟨_, (zU (ze rfl) (ze rfl)), ?_⟩
 rw [hn]
 exact ⟨_, rfl, ((S.nil zX 1 IC).front 1).mkE⟩
-- a slice of numbers, turned round in place
def revI (l : List Int) : Nat → List Int
 | 0 => l
 | i + 1 => ((revI l i).set i (at_ (0 : Int) (revI l i) ((l.length : Int) - 1 - i))).set ((l.length : Int) - 1 - i).toNat (at_ (0 : Int) (revI l i) i)
theorem revI_len (l : List Int) : ∀ i, (revI l i).length = l.length
 | 0 => rfl
 | i + 1 => by simp [revI, revI_len l i]
theorem revI_get (l : List Int) : ∀ (i : Nat), 2 * i ≤ l.length → ∀ j, j < l.length → (revI l i)[j]? = if j < i ∨ l.length - 1 - i < j then l[l.length - 1 - j]? else l[j]?
 | 0, _, j, hj => by
  rw [if_neg (by omega)]; rfl
 | i + 1, hi, j, hj => by
  have ih := revI_get l i (by omega)
  have hl := revI_len l i
  have e1 : ((l.length : Int) - 1 - i).toNat = l.length - 1 - i := by omega
  have g1 : at_ (0 : Int) (revI l i) ((l.length : Int) - 1 - i) = l[l.length - 1 - i]'(by omega) := by
   unfold at_
   rw [e1, List.getD_eq_getElem?_getD, ih _ (by omega), if_neg (by omega), List.getElem?_eq_getElem (by omega)]; rfl
  have g2 : at_ (0 : Int) (revI l i) (i : Int) = l[i]'(by omega) := by
   unfold at_
   rw [Int.toNat_natCast, List.getD_eq_getElem?_getD, ih _ (by omega), if_neg (by omega), List.getElem?_eq_getElem (by omega)]; rfl
  rw [revI, g1, g2, e1, List.getElem?_set, List.getElem?_set]
  simp only [List.length_set, hl]
  by_cases h1 : l.length - 1 - i = j
  ·subst h1
   rw [if_pos rfl, if_pos (by omega), if_pos (by omega), List.getElem?_eq_getElem (by omega)]
   congr 2; omega
  ·rw [if_neg h1]
   by_cases h2 : i = j
   ·subst h2
    rw [if_pos rfl, if_pos (by omega), if_pos (by omega), List.getElem?_eq_getElem (by omega)]
   ·rw [if_neg h2, ih j hj]
    by_cases h3 : j < i ∨ l.length - 1 - i < j
    ·rw [if_pos h3, if_pos (by omega)]
    ·rw [if_neg h3, if_neg (by omega)]
theorem revI_rev (l : List Int) (i : Nat) (h1 : 2 * i ≤ l.length) (h2 : ¬ (i : Int) < (l.length : Int) - 1 - i) : revI l i = l.reverse := by
 refine List.ext_getElem? fun j => ?_
 by_cases hj : j < l.length
 ·rw [revI_get l i h1 j hj, List.getElem?_reverse hj]
  split
  ·rfl
  ·congr 1; omega
 ·rw [List.getElem?_eq_none (by rw [revI_len]; omega), List.getElem?_eq_none (by simp; omega)]
theorem uD {L : Nat → Bool} {i : Nat} {l : List Nat} (h : ∀ q, q ∈ l → L q = true) : ∀ q, q ∈ l → plus L i q = true := fun q hq => by
 unfold plus; rw [h q hq]; simp
def slices_Reverse_int_int.f (l : List Int) : Option (List Int) := some l.reverse
theorem zan {a0 : List Int} {s_0 : SlV} (S : St A N w w [oS zX 1 IC s_0 a0] []) {r : List Int} (H : slices_Reverse_int_int.f a0 = some r) :
  Calls PP jg #[s_0.v] w fun e w' => ∃ v, e = .returned v ∧ (v = .tuple #[] ∧ St A N w w' [oS zX 1 IC s_0 r] []) := by
 cases H
 have hlen := S.lenO 0
 refine zw (n := 28) zaj rfl rfl (by simp) ?_
 refine zb (za ?_)
 refine wd (zR rfl) ?_
 refine wd (xG zY rfl (S.rdO 0)) ?_
 refine wd (does_subc rfl rfl (c := (a0.length : Int) - 1) rfl (by omega) (by omega)) ?_
 refine wd (zf rfl) ?_
 refine wd (zf rfl) ?_
 refine zd ?_
 refine yT [2, 3, 7, 8, 9, 10, 11, 12, 13, 14, 15, 16, 17, 18, 19, 20, 21, 22, 23, 24, 25, 26, 27] (fun fr W => St A N w W [oS zX 1 IC s_0 a0.reverse] []) ?_ ?_
 ·refine zF ?_
  refine yp (α := Nat) [2, 3, 7, 8, 9, 10, 11, 12, 13, 14, 15, 16, 17, 18, 19, 20, 21, 22, 23, 24, 25, 26, 27] (fun x fr W => fr 2 = .int .i64 (x : Int) ∧ fr 3 = .int .i64 ((a0.length : Int) - 1 - x) ∧ 2 * x ≤ a0.length ∧ St A N w W [oS zX 1 IC s_0 (revI a0 x)] []) (fun x => a0.length - x) 0 ⟨rfl, by simp; rfl, by omega, S⟩ ?_
  rintro i g u ⟨q2, q3, hi, S⟩
  try dsimp only at q2 q3 hi S
  refine zb (zb (za ?_))
  refine wd (zh q2) ?_
  refine wd (zh q3) ?_
  refine wd (xm rfl rfl) ?_
  refine zd ?_
  refine zC rfl (fun hc => ?_) (fun hc => ?_)
  rotate_left
  ·refine yf ?_
   rw [revI_rev a0 i hi (of_decide_eq_false hc)] at S
   exact ⟨rfl, (((Dif.self _ _ _).upd rfl _).upd rfl _).upd rfl _, S⟩
  have hlt : (i : Int) < (a0.length : Int) - 1 - i := of_decide_eq_true hc
  refine zt ?_
  have hlr := revI_len a0 i
  have hb1 : 0 ≤ (i : Int) ∧ (i : Int) < (revI a0 i).length := by omega
  have hb2 : 0 ≤ (a0.length : Int) - 1 - i ∧ (a0.length : Int) - 1 - i < (revI a0 i).length := by omega
  generalize hcur : revI a0 i = cur at hlr hb1 hb2 S
  generalize hj : (a0.length : Int) - 1 - i = j at hlt hb2 q3
  have hO := S.sl 0
  refine zb ?_
  refine zF ?_
  refine wc_draw3 14 ⟨fun L v => Chg s_0.fp u v ∧ (L 13 = false → Ext u v) ∧ (L 13 = true → Own v 0 zX 1 s_0 ((cur.set (i : Int).toNat (at_ (0 : Int) cur j)).map IC)) ∧ (L 13 = true → ∀ q, q ∈ [6, 7, 10, 11, 12] → L q = true), fun L a c => Chg s_0.fp a c ∧ (L 13 = true → Ext a c), fun k v _ => match k with
   | 0 => v = SlV.v s_0
   | 1 => v = Value.int .i64 (i : Int)
   | 2 => v = SlV.v s_0
   | 3 => v = Value.int .i64 j
   | 4 => v = SlV.v s_0
   | 5 => v = Value.int .i64 j
   | 6 => v = Value.pointer (some ⟨s_0.blk, s_0.off + j.toNat * 1, none⟩)
   | 7 => v = Value.int .i64 (at_ (0 : Int) cur j)
   | 8 => v = SlV.v s_0
   | 9 => v = Value.int .i64 (i : Int)
   | 10 => v = Value.pointer (some ⟨s_0.blk, s_0.off + (i : Int).toNat * 1, none⟩)
   | 11 => v = Value.int .i64 (at_ (0 : Int) cur (i : Int))
   | 12 => v = Value.pointer (some ⟨s_0.blk, s_0.off + (i : Int).toNat * 1, none⟩)
   | _ => True⟩ hmix (by kernel_rfl) (fun _ _ _ _ _ _ _ hv => hv) ⟨(Ext.drawn _).mono (fun _ _ x => x.elim), fun _ => Ext.drawn _, fun h => (by cases h), fun h => (by cases h)⟩ ⟨?_, ?_, ?_, ?_, ?_, ?_, ?_, ?_, ?_, ?_, ?_, ?_, ?_, ?_, trivial⟩ ?_
  ·rintro L g v hL hcl hT 
   refine wd (zR rfl) (zd (ob2 ⟨hT.1, fun h => hT.2.1 h, fun h => hT.2.2.1 h, fun h => uD (hT.2.2.2 h)⟩ ⟨Chg.refl _ _, fun _ => Ext.refl _⟩ rfl))
  ·rintro L g v hL hcl hT 
   refine wd (zh q2) (zd (ob2 ⟨hT.1, fun h => hT.2.1 h, fun h => hT.2.2.1 h, fun h => uD (hT.2.2.2 h)⟩ ⟨Chg.refl _ _, fun _ => Ext.refl _⟩ rfl))
  ·rintro L g v hL hcl hT 
   refine wd (zR rfl) (zd (ob2 ⟨hT.1, fun h => hT.2.1 h, fun h => hT.2.2.1 h, fun h => uD (hT.2.2.2 h)⟩ ⟨Chg.refl _ _, fun _ => Ext.refl _⟩ rfl))
  ·rintro L g v hL hcl hT 
   refine wd (zh q3) (zd (ob2 ⟨hT.1, fun h => hT.2.1 h, fun h => hT.2.2.1 h, fun h => uD (hT.2.2.2 h)⟩ ⟨Chg.refl _ _, fun _ => Ext.refl _⟩ rfl))
  ·rintro L g v hL hcl hT 
   refine wd (zR rfl) (zd (ob2 ⟨hT.1, fun h => hT.2.1 h, fun h => hT.2.2.1 h, fun h => uD (hT.2.2.2 h)⟩ ⟨Chg.refl _ _, fun _ => Ext.refl _⟩ rfl))
  ·rintro L g v hL hcl hT 
   refine wd (zh q3) (zd (ob2 ⟨hT.1, fun h => hT.2.1 h, fun h => hT.2.2.1 h, fun h => uD (hT.2.2.2 h)⟩ ⟨Chg.refl _ _, fun _ => Ext.refl _⟩ rfl))
  ·rintro L g v hL hcl hT hv4 hv5
   have h13 : L 13 = false := (by cases h : L 13 with | false => rfl | true => exact absurd (hT.2.2.2 h 6 (by decide)) (by rw [hL]; decide))
   refine wd (zZ zY hv4 hv5 (hO.ext (hT.2.1 h13)).toRd hb2.1 hb2.2) (zd (ob2 ⟨hT.1, fun h => hT.2.1 h, fun h => hT.2.2.1 h, fun h => uD (hT.2.2.2 h)⟩ ⟨Chg.refl _ _, fun _ => Ext.refl _⟩ rfl))
  ·rintro L g v hL hcl hT hv6
   have h13 : L 13 = false := (by cases h : L 13 with | false => rfl | true => exact absurd (hT.2.2.2 h 7 (by decide)) (by rw [hL]; decide))
   refine wd (zm zQ hv6 ((hO.ext (hT.2.1 h13)).toRd.one (yg (0 : Int) hb2) rfl)) (zd (ob2 ⟨hT.1, fun h => hT.2.1 h, fun h => hT.2.2.1 h, fun h => uD (hT.2.2.2 h)⟩ ⟨Chg.refl _ _, fun _ => Ext.refl _⟩ rfl))
  ·rintro L g v hL hcl hT 
   refine wd (zR rfl) (zd (ob2 ⟨hT.1, fun h => hT.2.1 h, fun h => hT.2.2.1 h, fun h => uD (hT.2.2.2 h)⟩ ⟨Chg.refl _ _, fun _ => Ext.refl _⟩ rfl))
  ·rintro L g v hL hcl hT 
   refine wd (zh q2) (zd (ob2 ⟨hT.1, fun h => hT.2.1 h, fun h => hT.2.2.1 h, fun h => uD (hT.2.2.2 h)⟩ ⟨Chg.refl _ _, fun _ => Ext.refl _⟩ rfl))
  ·rintro L g v hL hcl hT hv8 hv9
   have h13 : L 13 = false := (by cases h : L 13 with | false => rfl | true => exact absurd (hT.2.2.2 h 10 (by decide)) (by rw [hL]; decide))
   refine wd (zZ zY hv8 hv9 (hO.ext (hT.2.1 h13)).toRd hb1.1 hb1.2) (zd (ob2 ⟨hT.1, fun h => hT.2.1 h, fun h => hT.2.2.1 h, fun h => uD (hT.2.2.2 h)⟩ ⟨Chg.refl _ _, fun _ => Ext.refl _⟩ rfl))
  ·rintro L g v hL hcl hT hv10
   have h13 : L 13 = false := (by cases h : L 13 with | false => rfl | true => exact absurd (hT.2.2.2 h 11 (by decide)) (by rw [hL]; decide))
   refine wd (zm zQ hv10 ((hO.ext (hT.2.1 h13)).toRd.one (yg (0 : Int) hb1) rfl)) (zd (ob2 ⟨hT.1, fun h => hT.2.1 h, fun h => hT.2.2.1 h, fun h => uD (hT.2.2.2 h)⟩ ⟨Chg.refl _ _, fun _ => Ext.refl _⟩ rfl))
  ·rintro L g v hL hcl hT hv0 hv1
   have h13 : L 13 = false := (by cases h : L 13 with | false => rfl | true => exact absurd (hT.2.2.2 h 12 (by decide)) (by rw [hL]; decide))
   refine wd (zZ zY hv0 hv1 (hO.ext (hT.2.1 h13)).toRd hb1.1 hb1.2) (zd (ob2 ⟨hT.1, fun h => hT.2.1 h, fun h => hT.2.2.1 h, fun h => uD (hT.2.2.2 h)⟩ ⟨Chg.refl _ _, fun _ => Ext.refl _⟩ rfl))
  ·rintro L g v hL hcl hT hv12 hv7
   refine wl_store1 (C := IC) (a := at_ (0 : Int) cur j) zQ hv12 hv7 (hO.ext (hT.2.1 hL)) hb1 rfl rfl fun v' O hc => zd (ob0 ⟨hT.1.trans hc, fun h => (by cases h), fun _ => O, fun _ => uD fun q hq => hcl q ?_⟩ ⟨hc, fun h => (by rw [hL] at h; cases h)⟩ (fun _ => trivial))
   simp only [List.mem_cons, List.not_mem_nil, or_false] at hq
   rcases hq with rfl | rfl | rfl | rfl | rfl <;> kernel_rfl
  rintro L g w4 hLm hT hv0 hv1 hv2 hv3 hv4 hv5 hv6 hv7 hv8 hv9 hv10 hv11 hv12 _
  have hlO := S.lenO 0
  replace S : St A N w w4 [oS zX 1 IC s_0 (cur.set (i : Int).toNat (at_ (0 : Int) cur j))] [] := S.push 0 (hT.2.2.1 (by rw [hLm]; rfl)) (by rw [List.length_set]; exact hlO) hT.1 (fun i hi => .inl hi)
  have hb3 : 0 ≤ j ∧ j < (cur.set (i : Int).toNat (at_ (0 : Int) cur j)).length := by rw [List.length_set]; exact hb2
  refine wd (zZ zY hv2 hv3 (S.rdO 0) hb3.1 hb3.2) ?_
  refine wl_store1 (C := IC) (a := at_ (0 : Int) cur (i : Int)) zQ rfl hv11 (S.sl 0) hb3 rfl rfl fun w5 O hw5 => ?_
  have hlO2 := S.lenO 0
  replace S : St A N w w5 [oS zX 1 IC s_0 ((cur.set (i : Int).toNat (at_ (0 : Int) cur j)).set j.toNat (at_ (0 : Int) cur (i : Int)))] [] := S.push 0 O (by rw [List.length_set]; exact hlO2) hw5 (fun i hi => .inl hi)
  refine zd ?_
  refine za ?_
  refine wd (zh q2) ?_
  refine wd (xg rfl rfl (c := (i : Int) + 1) rfl (by omega) (by omega)) ?_
  refine wd (zh q3) ?_
  refine wd (does_subc rfl rfl (c := j - 1) rfl (by omega) (by omega)) ?_
  refine wd (zf rfl) ?_
  refine wd (zf rfl) ?_
  refine zd ?_
  refine ⟨rfl, ?_, i + 1, ⟨?_, ?_, by omega, ?_⟩, by omega⟩
  ·exact (((((((((((Dif.self _ _ _).upd rfl _).upd rfl _).upd rfl _).mask rfl _).upd rfl _).upd rfl _).upd rfl _).upd rfl _).upd rfl _).upd rfl _).upd rfl _
  ·exact congrArg (Value.int .i64) (by omega)
  ·exact congrArg (Value.int .i64) (by omega)
  ·have hr : revI a0 (i + 1) = (cur.set (i : Int).toNat (at_ (0 : Int) cur j)).set j.toNat (at_ (0 : Int) cur (i : Int)) := by
    rw [revI, hcur, hj, Int.toNat_natCast]
   rw [hr]; exact S
 rintro g u S
 exact ⟨_, rets0, rfl, S⟩
mutual
def sizeT : PTerm → Nat
 | .mk _ _ _ _ s => 1 + sizeL s
def sizeL : List PTerm → Nat
 | [] => 0
 | x :: l => sizeT x + sizeL l
end
theorem sizeT_eq (x : PTerm) : sizeT x = 1 + sizeL x.sub := by cases x; simp [sizeT, PTerm.sub]
theorem sizeT_pos (x : PTerm) : 1 ≤ sizeT x := by rw [sizeT_eq]; omega
def term_Size.f (x : PTerm) : Option Int := some (min (sizeT x) 65537 : Nat)
theorem sizeL_take : ∀ {l : List PTerm} {i : Nat} {x : PTerm}, l[i]? = some x → sizeL (l.take (i + 1)) = sizeL (l.take i) + sizeT x
 | [], _, _, h => by simp at h
 | y :: l, 0, x, h => by simp at h; subst h; simp [sizeL]
 | y :: l, i + 1, x, h => by
  have := sizeL_take (l := l) (i := i) (by simpa using h)
  simp only [List.take_succ_cons, sizeL]; omega
theorem sizeL_le : ∀ {l : List PTerm} (i : Nat), sizeL (l.take i) ≤ sizeL l
 | [], i => by simp
 | y :: l, 0 => by simp [sizeL]
 | y :: l, i + 1 => by have := sizeL_le (l := l) i; simp only [List.take_succ_cons, sizeL]; omega
theorem does_lenM {P : Program} {f : Fr} {w : World} {d : Option Tmp} {ty : TypeId} {pos : String} {af : Array Edge} {gd : Option (Nat × Bool)} {ms : List Term} {x : Operand} {t e k : Nat} {s : SlV} (ht : yu P t e k) (hx : evF f x = s.v) (h : (fT s ms).on w) : Does P ⟨d, .call ⟨.builtin .len, #[x], #[t]⟩, ty, pos, af, gd⟩ f w (.int .i64 ms.length) w := by
 have := does_lenS (P := P) (f := f) (w := w) (d := d) (ty := ty) (pos := pos) (af := af) (gd := gd) ht hx
 rw [(fT.sl h).len, List.length_map] at this; exact this
def cntV (b3 b4 : Nat) : Value := .func (.func zaD) #[] #[.pointer (some ⟨b3, 0, none⟩), .pointer (some ⟨b4, 0, none⟩)]
theorem size_count : ∀ (d : Nat) {A : Nat → Prop} {N : Oth} {w : World} {b3 b4 : Nat} {m : Term} {x : PTerm} {n : Nat}, n ≤ 65536 → St A N w w [oB b3 zX [.int .i64 (n : Int)]] [oB b4 yN [cntV b3 b4], fTm d m x] →
  Calls PP zaD #[.agg (Term.C m).toArray, .pointer (some ⟨b3, 0, none⟩), .pointer (some ⟨b4, 0, none⟩)] w fun e w' => ∃ v, e = .returned v ∧ (v = .tuple #[] ∧ St A N w w' [oB b3 zX [.int .i64 ((min (n + sizeT x) 65537 : Nat) : Int)]] [])
 | 0, _, _, _, _, _, _, _, _, _, S => (S.frz 1 rfl).elim fun _ h => h.1.elim
 | d + 1, A, N, w, b3, b4, m, x, n, hn, S => by
  have S1 := S.unandZ 1 (a := OA.pure (m.kind = x.kind ∧ m.name = x.name ∧ m.other = x.other ∧ m.form = x.form)) (b := OA.ex fun (ms : List Term) => (fT m.sub ms).and (bigA (fTm d) ms x.sub)) rfl
  obtain ⟨ms, S2⟩ := S1.unexZ 1 (f := fun (ms : List Term) => (fT m.sub ms).and (bigA (fTm d) ms x.sub)) rfl
  have S3 := S2.unandZ 0 (a := fT m.sub ms) (b := bigA (fTm d) ms x.sub) rfl
  replace S : St A N w w [oB b3 zX [.int .i64 (n : Int)]] [oB b4 yN [cntV b3 b4], fT m.sub ms, bigA (fTm d) ms x.sub] := S3.zs [5, 0, 1]
  clear S1 S2 S3
  have hl : ms.length = x.sub.length := (S.frz 2 rfl).elim fun _ h => bigA_len h
  have hb := fT.len (S.onZ 1)
  refine zw (n := 25) fn_term_Size_1 rfl rfl (by simp) ?_
  refine zb (za ?_)
  refine zJ rfl (by decide) fun bx w1 h1 => ?_
  replace S := S.new h1
  refine zd ?_
  refine zb (za ?_)
  refine wd (zm zQ rfl ((S.blk 1).cell rfl)) ?_
  refine wd (xg rfl rfl (c := (n : Int) + 1) rfl (by omega) (by omega)) ?_
  refine xi zQ rfl rfl (S.blk 1) (by simp) rfl rfl fun w2 B2 hw2 z2 => ?_
  replace S : St A N w w2 [oB b3 zX [.int .i64 ((n : Int) + 1)], oB bx xP (Term.C m)] [oB b4 yN [cntV b3 b4], fT m.sub ms, bigA (fTm d) ms x.sub] := S.store 1 B2 hw2
  clear B2
  refine zd ?_
  refine zb (za ?_)
  refine wd (zf rfl) ?_
  refine zd ?_
  refine yT [4, 7, 8, 9, 10, 11, 12, 13, 14, 15, 16, 17, 18, 19, 20, 21, 22, 23, 24] (fun fr W => St A N w W [oB b3 zX [.int .i64 ((min (n + sizeT x) 65537 : Nat) : Int)]] []) ?_ ?_
  ·refine zF ?_
   refine yp (α := Nat × Nat) [4, 7, 8, 9, 10, 11, 12, 13, 14, 15, 16, 17, 18, 19, 20, 21, 22, 23, 24] (fun q fr W => fr 4 = .int .i64 (q.1 : Int) ∧ q.1 ≤ x.sub.length ∧ q.2 = min (n + 1 + sizeL (x.sub.take q.1)) 65537 ∧ St A N w W [oB b3 zX [.int .i64 (q.2 : Int)], oB bx xP (Term.C m)] [oB b4 yN [cntV b3 b4], fT m.sub ms, bigA (fTm d) ms x.sub]) (fun q => x.sub.length - q.1) (0, n + 1) ⟨rfl, Nat.zero_le _, by simp [sizeL]; omega, S⟩ ?_
   rintro ⟨i, c⟩ g u ⟨q4, hi, hcq, S⟩
   try dsimp only at q4 hi hcq S
   refine zb (zb (za ?_))
   refine wd (zh q4) ?_
   refine wd (zi ud rfl (o' := 4) rfl) ?_
   refine wd (zm vi rfl ((S.blk 1).cell (Term.get_sub _))) ?_
   refine wd (does_lenM xL rfl (S.onZ 1)) ?_
   refine wd (xm rfl rfl) ?_
   refine wd (zB rfl) ?_
   refine zD (j := 5) (pol := true) rfl rfl rfl (by decide) (fun hg => zm zQ rfl ((S.blk 0).cell rfl)) (by decide) ?_
   refine zD (j := 5) (pol := true) rfl rfl rfl (by decide) (fun hg => zao (zq hg) rfl) (by decide) ?_
   refine wd (xe rfl (fun hp => (zq (xF hp)))) ?_
   refine zd ?_
   refine zC rfl (fun hc => ?_) (fun hc => ?_)
   rotate_left
   ·refine yf ?_
    have he : c = min (n + sizeT x) 65537 := by
     have h2 := sizeL_le (l := x.sub) i
     rw [sizeT_eq]
     simp only [Bool.and_eq_false_iff, decide_eq_false_iff_not] at hc
     rcases hc with hc | hc
     ·rw [List.take_of_length_le (by omega)] at hcq; omega
     ·omega
    rw [← he]
    exact ⟨rfl, (((((((((Dif.self _ _ _).upd rfl _).upd rfl _).upd rfl _).upd rfl _).upd rfl _).upd rfl _).upd rfl _).upd rfl _).upd rfl _, S.arr [0] []⟩
   refine zt ?_
   simp only [Bool.and_eq_true, decide_eq_true_eq] at hc
   have hi1 : i < ms.length := by omega
   have hi2 : i < x.sub.length := by omega
   have he1 : ms[i]? = some ms[i] := List.getElem?_eq_getElem hi1
   have he2 : x.sub[i]? = some x.sub[i] := List.getElem?_eq_getElem hi2
   refine zb ?_
   refine zF ?_
   refine yn 6 (Ext u) hmix (by kernel_rfl) (by kernel_rfl) (Ext.drawn _) ?_
   refine zy (fun v K => zm jY rfl (((S.ext K).blkZ 0).cell rfl)) ?_
   refine zy (fun v K => zi ud rfl (o' := 4) rfl) ?_
   refine zy (fun v K => zm vi rfl (((S.ext K).blk 1).cell (Term.get_sub _))) ?_
   refine zy (fun v K => zh q4) ?_
   refine zy (fun v K => does_indexS xL rfl rfl (fT.sl ((S.ext K).onZ 1)) (by omega) (by rw [List.length_map]; omega) rfl) ?_
   refine zy (fun v K => zj xn rfl (fT.at ((S.ext K).onZ 1) (show ms[((i : Nat) : Int).toNat]? = some ms[i] by rw [Int.toNat_natCast]; exact he1)) (Term.len _)) ?_
   refine vt fun w3 K => ?_
   replace S := S.ext K
   clear K
   have S' := S.part 2 (a := bigA (fTm d) ms x.sub) (b := fTm d ms[i] x.sub[i]) (fun F h => bigA_at h he1 he2)
   obtain ⟨B, M, SB, back⟩ := S'.calln 1 (.z 1 rfl (.z 0 rfl .nil))
   refine zu (ye ca_term_Size_1 rfl) (by decide) (size_count d (by omega) SB) ?_
   rintro _ w4 ⟨rfl, S2⟩
   replace S : St A N w w4 [oB b3 zX [.int .i64 ((min (c + sizeT x.sub[i]) 65537 : Nat) : Int)], oB bx xP (Term.C m)] [fTm d ms[i] x.sub[i], oB b4 yN [cntV b3 b4], fT m.sub ms, bigA (fTm d) ms x.sub] := back _ _ _ _ S2 rfl
   clear back S2 SB S'
   refine zd ?_
   refine za ?_
   refine wd (zh q4) ?_
   refine wd (xg rfl rfl (c := (i : Int) + 1) rfl (by omega) (by omega)) ?_
   refine wd (zf rfl) ?_
   refine zd ?_
   refine ⟨rfl, ?_, (i + 1, min (c + sizeT x.sub[i]) 65537), ⟨?_, by omega, ?_, S.zs [1, 2, 3]⟩, by dsimp only; omega⟩
   ·exact (((((((((((((((((((Dif.self _ _ _).upd rfl _).upd rfl _).upd rfl _).upd rfl _).upd rfl _).upd rfl _).upd rfl _).upd rfl _).upd rfl _).upd rfl _).upd rfl _).upd rfl _).upd rfl _).upd rfl _).upd rfl _).upd rfl _).upd rfl _).upd rfl _).upd rfl _
   ·rfl
   ·dsimp only
    rw [sizeL_take he2]; omega
  rintro g u S
  exact ⟨_, rets0, rfl, S⟩
theorem term_Size_st {a0 : PTerm} {s_0 : SlV} (S : St A N w w [] [xb s_0 a0.sub]) {r : Int} (H : term_Size.f a0 = some r) :
  Calls PP F_term_Size #[.agg (Term.C (⟨a0.kind, a0.name, a0.other, a0.form, s_0⟩ : Term)).toArray] w fun e w' => ∃ v, e = .returned v ∧ (v = .int .i64 r ∧ St A N w w' [] []) := by
 cases H
 obtain ⟨d, S⟩ : ∃ d, St A N w w [] [fTm d (mT a0 s_0) a0] := by
  have h1 := S.part 0 (a := xb s_0 a0.sub) (b := kS (mT a0 s_0) a0) (fun F q => ⟨F, fTerm_mk q, fun _ q => q⟩)
  obtain ⟨d, h2⟩ := h1.unexZ 0 (f := fun (d : Nat) => fTm d (mT a0 s_0) a0) rfl
  exact ⟨d, h2.zs [0]⟩
 refine zw (n := 10) fn_term_Size rfl rfl (by simp) ?_
 refine zb (za ?_)
 refine zJ rfl (by decide) fun b1 w1 h1 => ?_
 replace S := S.new h1
 refine wd (zf rfl) ?_
 refine zd ?_
 refine zb (za ?_)
 refine zP ze_int (by decide) fun b3 w2 h2 => ?_
 replace S := S.new h2
 refine xi zQ rfl rfl (S.blk 0) (by simp) rfl rfl fun w3 B3 hw3 z3 => ?_
 replace S : St A N w w3 [oB b3 zX [.int .i64 0], oB b1 xP (Term.C (mT a0 s_0))] [fTm d (mT a0 s_0) a0] := S.store 0 B3 hw3
 clear B3
 refine zd ?_
 refine zb (za ?_)
 refine zP ze_func_api_Term (by decide) fun b4 w4 h4 => ?_
 replace S := S.new h4
 refine zd ?_
 refine zb (za ?_)
 refine wd vR ?_
 refine xi jY rfl rfl (S.blk 0) (by simp) rfl rfl fun w5 B5 hw5 z5 => ?_
 replace S : St A N w w5 [oB b4 yN [cntV b3 b4], oB b3 zX [.int .i64 0], oB b1 xP (Term.C (mT a0 s_0))] [fTm d (mT a0 s_0) a0] := S.store 0 B5 hw5
 clear B5
 replace S := S.frzO 0
 replace S : St A N w w5 [oB b3 zX [.int .i64 ((0 : Nat) : Int)], oB b1 xP (Term.C (mT a0 s_0))] [oB b4 yN [cntV b3 b4], fTm d (mT a0 s_0) a0] := S
 refine zd ?_
 refine zb (za ?_)
 refine wd (zm jY rfl ((S.blkZ 0).cell rfl)) ?_
 refine wd (zj xn rfl ((S.blk 1).all _ (Term.len _)) (Term.len _)) ?_
 obtain ⟨B, M, SB, back⟩ := S.calln 1 (.z 0 rfl (.z 1 rfl .nil))
 refine zu (ye ca_term_Size_1 rfl) (by decide) (size_count d (by omega) SB) ?_
 rintro _ w6 ⟨rfl, S2⟩
 replace S : St A N w w6 [oB b3 zX [.int .i64 ((min (0 + sizeT a0) 65537 : Nat) : Int)], oB b1 xP (Term.C (mT a0 s_0))] [oB b4 yN [cntV b3 b4], fTm d (mT a0 s_0) a0] := back _ _ _ _ S2 rfl
 clear back S2 SB
 refine zd ?_
 refine zb (za ?_)
 refine wd (zm zQ rfl ((S.blk 0).cell rfl)) ?_
 refine wd (zf rfl) ?_
 refine zd ?_
 refine zn ?_
 exact ⟨.int .i64 ((min (0 + sizeT a0) 65537 : Nat) : Int), zS (ze rfl), congrArg (Value.int .i64) (by rw [Nat.zero_add]), S.arr [] []⟩
end
end Go.Proofs.YtjebgcoknpcadaaGreatDoor
end
section
namespace Go.Proofs.YtjebgcoknpcadaaGreatDoor
open Gw
def term_shape.f (a0 : Int) : Option (Int × Bool × Bool × Bool) :=
 if decide (a0 = 1) then some (0, true, false, true) else if decide (a0 = 2) then some (1, true, false, true) else if decide (a0 = 12) then some (2, true, false, true) else if decide (a0 = 9) then some (3, true, true, true) else (if decide (a0 = 5) then some (decide (a0 = 5)) else if decide (a0 = 6) then some (decide (a0 = 6)) else if decide (a0 = 7) then some (decide (a0 = 7)) else if decide (a0 = 8) then some (decide (a0 = 8)) else if decide (a0 = 10) then some (decide (a0 = 10)) else some (decide (a0 = 11))).bind fun (o5 : Bool) => if o5 then some (1, false, false, true) else if decide (a0 = 3) then if decide (a0 = 3) then some (2, false, false, true) else some (0, false, false, false) else if decide (a0 = 4) then some (2, false, false, true) else some (0, false, false, false)
def term_named.f (a0 : ByteArray) (a1 : Bool) : Option Bool :=
 if !a1 then some (decide (a0 = (⟨#[]⟩ : ByteArray))) else (formula_Word.f a0).bind fun r2 => some r2
def term_deep.b0 (a0 : PTerm) (a1 : Int) (rec_term_deep : PTerm → Int → Option Int) (x4_0 : Int) (x4_1 : Int) : Option (Stp (Int × Int) Int) :=
 if (decide (x4_1 < (a0.sub.length : Int))) && (decide (x4_0 < IntKind.i64.wrap (a1 - 1))) then chk (inb x4_1 a0.sub.length) ((rec_term_deep (at_ PTerm.z a0.sub x4_1) (IntKind.i64.wrap (a1 - 1))).bind fun r9 => some (.go ((if x4_0 < r9 then r9 else x4_0), IntKind.i64.wrap (x4_1 + 1)))) else some (.brk (x4_0, x4_1))
def term_deep.g (rec_term_deep : PTerm → Int → Option Int) (k : Nat) (a0 : PTerm) (a1 : Int) : Option Int :=
 if decide (a1 ≤ 1) then some a1 else (iter (fun s => term_deep.b0 a0 a1 rec_term_deep s.1 s.2) k (0, 0)).bind (aft fun (s4 : Int × Int) => some (IntKind.i64.wrap (s4.1 + 1)))
def term_deep.f : Nat → PTerm → Int → Option Int
 | 0 => fun _ _ => none
 | k + 1 => term_deep.g (term_deep.f k) k
def term_Deep.f (k : Nat) (a0 : PTerm) : Option Int :=
 (term_deep.f k a0 1025).bind fun r3 => some r3
end Go.Proofs.YtjebgcoknpcadaaGreatDoor
end
section
namespace Go.Proofs.YtjebgcoknpcadaaGreatDoor
open Gw
def term_right_1.g (rec_term_right : PTerm → Option Bool) (a0 : PTerm) : Option Bool :=
 (rec_term_right a0).bind fun r3 => some (!r3)
def slices_IndexFunc_api_Term_api_Term__term_right_1.b0 (rec_term_right : PTerm → Option Bool) (a0 : List PTerm) (i1 : Int) : Option (Stp Unit Int) :=
 (term_right_1.g rec_term_right (at_ PTerm.z a0 i1)).bind fun r6 => if r6 then some (.ret i1) else some (.go ())
def slices_IndexFunc_api_Term_api_Term__term_right_1.g (rec_term_right : PTerm → Option Bool) (a0 : List PTerm) : Option Int :=
 (forN (fun i s => slices_IndexFunc_api_Term_api_Term__term_right_1.b0 rec_term_right a0 i) ((a0.length : Int) - 0).toNat 0 ()).bind (aft fun (s1 : Unit) => some (-1))
def slices_ContainsFunc_api_Term_api_Term__term_right_1.g (rec_term_right : PTerm → Option Bool) (a0 : List PTerm) : Option Bool :=
 (slices_IndexFunc_api_Term_api_Term__term_right_1.g rec_term_right a0).bind fun r1 => some (decide (0 ≤ r1))
def term_right.g (rec_term_right : PTerm → Option Bool) (a0 : PTerm) : Option Bool :=
 (term_shape.f a0.kind).bind fun r3 => (if (!((!r3.2.2.2) || (decide ((a0.sub.length : Int) ≠ r3.1)))) then term_named.f a0.name r3.2.1 else some false).bind fun r6 => (if (!(((!r3.2.2.2) || (decide ((a0.sub.length : Int) ≠ r3.1))) || (!r6))) then term_named.f a0.other r3.2.2.1 else some false).bind fun r8 => if (((!r3.2.2.2) || (decide ((a0.sub.length : Int) ≠ r3.1))) || (!r6)) || (!r8) then some false else if (((decide (a0.kind ≠ 11)) && (decide (a0.form ≠ 0))) || (decide (a0.form < 0))) || (decide (1024 ≤ a0.form)) then some false else (slices_ContainsFunc_api_Term_api_Term__term_right_1.g rec_term_right a0.sub).bind fun r12 => some (!r12)
def term_right.f : Nat → PTerm → Option Bool
 | 0 => fun _ => none
 | k + 1 => term_right.g (term_right.f k)
def term_Check.f (k : Nat) (a0 : PTerm) : Option Int :=
 (term_Size.f a0).bind fun r3 => (if (!(decide (65536 < r3))) then term_Deep.f k a0 else some 0).bind fun r6 => if (decide (65536 < r3)) || (decide (1024 < r6)) then some 121 else (term_right.f k a0).bind fun r9 => if !r9 then some 120 else some 0
end Go.Proofs.YtjebgcoknpcadaaGreatDoor
end
section
namespace Go.Proofs.YtjebgcoknpcadaaGreatDoor
open Gw
def types_at.f (a0 : Int) (a1 : Option (Int × List Int)) : Option (Option (Int × List Int)) :=
 match a1 with
 | none => some none
 | some (c0, up0) => chk (decide ((up0.length + 1) * 8 ≤ 140737488355328)) (some (some (c0, up0 ++ [a0])))
def types_code.f (a0 : Option (Int × List Int)) : Option (List Int × Int) :=
 match a0 with
 | none => some (([] : List Int), 0)
 | some (c0, up0) => (slices_Reverse_int_int.f up0).bind fun r9 => some (r9, c0)
end Go.Proofs.YtjebgcoknpcadaaGreatDoor
end
section
namespace Go.Proofs.YtjebgcoknpcadaaGreatDoor
open Gw
def types_checker_node.f (a0 : PChecker) (a1 : Int) (a2 : Int) : Option (Nd × (Option (Int × List Int))) :=
 (formula_Table_Node.f a0.t a1).bind fun r5 => if decide (r5.1.kind ≠ a2) then some (r5.1, (some (130, ([] : List Int)))) else some (r5.1, none)
def types_checker_part.g (rec_types_checker_told : PChecker → PTerm → (List (ByteArray × Int)) → Option (Int × (Option (Int × List Int)))) (a0 : PChecker) (a1 : PTerm) (a2 : Int) (a3 : List (ByteArray × Int)) : Option (Int × (Option (Int × List Int))) :=
 chk (inb a2 a1.sub.length) ((rec_types_checker_told a0 (at_ PTerm.z a1.sub a2) a3).bind fun r16 => (types_at.f a2 r16.2).bind fun r22 => some (r16.1, r22))
def types_checker_check.g (rec_types_checker_checked : PChecker → PTerm → (List (ByteArray × Int)) → Int → Option (Option (Int × List Int))) (a0 : PChecker) (a1 : PTerm) (a2 : Int) (a3 : List (ByteArray × Int)) (a4 : Int) : Option (Option (Int × List Int)) :=
 chk (inb a2 a1.sub.length) ((rec_types_checker_checked a0 (at_ PTerm.z a1.sub a2) a3 a4).bind fun r8 => (types_at.f a2 r8).bind fun r12 => some r12)
def types_checker_head.g (rec_types_checker_told : PChecker → PTerm → (List (ByteArray × Int)) → Option (Int × (Option (Int × List Int)))) (a0 : PChecker) (a1 : PTerm) (a2 : List (ByteArray × Int)) (a3 : Int) : Option (Nd × (Option (Int × List Int))) :=
 (types_checker_part.g rec_types_checker_told a0 a1 0 a2).bind fun r7 => if r7.2.isSome then some (Nd.z, r7.2) else (types_checker_node.f a0 r7.1 a3).bind fun r13 => some (r13.1, r13.2)
def types_checker_told.g (rec_types_checker_told : PChecker → PTerm → (List (ByteArray × Int)) → Option (Int × (Option (Int × List Int)))) (rec_types_checker_checked : PChecker → PTerm → (List (ByteArray × Int)) → Int → Option (Option (Int × List Int))) (a0 : PChecker) (a1 : PTerm) (a2 : List (ByteArray × Int)) : Option (Int × (Option (Int × List Int))) :=
 if decide (a1.kind = 1) then (types_scope_find.f a2 a1.name).bind fun r6 => some (r6.1, r6.2) else if decide (a1.kind = 3) then (types_checker_head.g rec_types_checker_told a0 a1 a2 5).bind fun r11 => if r11.2.isSome then some (0, r11.2) else (types_checker_check.g rec_types_checker_checked a0 a1 1 a2 r11.1.l).bind fun r19 => some (r11.1.r, r19) else if decide (a1.kind = 5) then (types_checker_head.g rec_types_checker_told a0 a1 a2 3).bind fun r24 => some (r24.1.l, r24.2) else if decide (a1.kind = 6) then (types_checker_head.g rec_types_checker_told a0 a1 a2 3).bind fun r32 => some (r32.1.r, r32.2) else if decide (a1.kind = 11) then (formula_Table_Node.f a0.t a1.form).bind fun r40 => if !r40.2 then some (0, (some (31, ([] : List Int)))) else (types_checker_check.g rec_types_checker_checked a0 a1 0 a2 a1.form).bind fun r49 => some (a1.form, r49) else if decide (a1.kind = 12) then (types_checker_part.g rec_types_checker_told a0 a1 0 a2).bind fun r54 => if r54.2.isSome then some (0, r54.2) else (types_checker_part.g rec_types_checker_told a0 a1 1 ((a1.name, r54.1) :: a2)).bind fun r66 => some (r66.1, r66.2) else if decide (a1.kind = 9) then (types_checker_head.g rec_types_checker_told a0 a1 a2 4).bind fun r73 => if r73.2.isSome then some (0, r73.2) else (types_checker_part.g rec_types_checker_told a0 a1 1 ((a1.name, r73.1.l) :: a2)).bind fun r88 => if r88.2.isSome then some (0, r88.2) else (types_checker_part.g rec_types_checker_told a0 a1 2 ((a1.other, r73.1.r) :: a2)).bind fun r102 => if r102.2.isNone && (decide (r102.1 ≠ r88.1)) then some (r88.1, (some (130, ([] : List Int)))) else some (r88.1, r102.2) else some (0, (some (132, ([] : List Int))))
def types_checker_checked.g (rec_types_checker_told : PChecker → PTerm → (List (ByteArray × Int)) → Option (Int × (Option (Int × List Int)))) (rec_types_checker_checked : PChecker → PTerm → (List (ByteArray × Int)) → Int → Option (Option (Int × List Int))) (a0 : PChecker) (a1 : PTerm) (a2 : List (ByteArray × Int)) (a3 : Int) : Option (Option (Int × List Int)) :=
 if decide (a1.kind = 2) then (types_checker_node.f a0 a3 5).bind fun r6 => if r6.2.isSome then some r6.2 else (types_checker_check.g rec_types_checker_checked a0 a1 0 ((a1.name, r6.1.l) :: a2) r6.1.r).bind fun r17 => some r17 else if decide (a1.kind = 4) then (types_checker_node.f a0 a3 3).bind fun r22 => if r22.2.isSome then some r22.2 else (types_checker_check.g rec_types_checker_checked a0 a1 0 a2 r22.1.l).bind fun r30 => if r30.isSome then some r30 else (types_checker_check.g rec_types_checker_checked a0 a1 1 a2 r22.1.r).bind fun r35 => some r35 else (if decide (a1.kind = 7) then some (decide (a1.kind = 7)) else some (decide (a1.kind = 8))).bind fun (o39 : Bool) => if o39 then (types_checker_node.f a0 a3 4).bind fun r44 => if r44.2.isSome then some r44.2 else if decide (a1.kind = 7) then (types_checker_check.g rec_types_checker_checked a0 a1 0 a2 r44.1.l).bind fun r53 => some r53 else (types_checker_check.g rec_types_checker_checked a0 a1 0 a2 r44.1.r).bind fun r57 => some r57 else if decide (a1.kind = 9) then (types_checker_head.g rec_types_checker_told a0 a1 a2 4).bind fun r62 => if r62.2.isSome then some r62.2 else (types_checker_check.g rec_types_checker_checked a0 a1 1 ((a1.name, r62.1.l) :: a2) a3).bind fun r73 => if r73.isSome then some r73 else (types_checker_check.g rec_types_checker_checked a0 a1 2 ((a1.other, r62.1.r) :: a2) a3).bind fun r81 => some r81 else if decide (a1.kind = 10) then (types_checker_head.g rec_types_checker_told a0 a1 a2 2).bind fun r86 => some r86.2 else if decide (a1.kind = 12) then (types_checker_part.g rec_types_checker_told a0 a1 0 a2).bind fun r94 => if r94.2.isSome then some r94.2 else (types_checker_check.g rec_types_checker_checked a0 a1 1 ((a1.name, r94.1) :: a2) a3).bind fun r102 => some r102 else (rec_types_checker_told a0 a1 a2).bind fun r106 => if r106.2.isNone && (decide (r106.1 ≠ a3)) then some (some (130, ([] : List Int))) else some r106.2
def types_tc.p : Nat → (PChecker → PTerm → (List (ByteArray × Int)) → Option (Int × (Option (Int × List Int)))) × (PChecker → PTerm → (List (ByteArray × Int)) → Int → Option (Option (Int × List Int)))
 | 0 => (fun _ _ _ => none, fun _ _ _ _ => none)
 | k + 1 => (types_checker_told.g (types_tc.p k).1 (types_tc.p k).2, types_checker_checked.g (types_tc.p k).1 (types_tc.p k).2)
def types_checker_told.f (k : Nat) : PChecker → PTerm → (List (ByteArray × Int)) → Option (Int × (Option (Int × List Int))) := (types_tc.p k).1
def types_checker_checked.f (k : Nat) : PChecker → PTerm → (List (ByteArray × Int)) → Int → Option (Option (Int × List Int)) := (types_tc.p k).2
def types_ahead.b0 (a1 : List Hyp) (i7 : Int) (x7_0 : List Int) (x7_1 : List (ByteArray × Int)) : Option (List Int × (List (ByteArray × Int))) :=
 chk (decide ((x7_0.length + ([(at_ Hyp.z a1 i7).form]).length) * 8 ≤ 140737488355328)) ((types_scope_with.f x7_1 ((at_ Hyp.z a1 i7).name) ((at_ Hyp.z a1 i7).form)).bind fun r25 => some (x7_0 ++ [(at_ Hyp.z a1 i7).form], r25))
def types_ahead.b1 (a0 : Tb) (o7 : List Int × (List (ByteArray × Int))) (i31 : Int) : Option (Stp Unit ((List (ByteArray × Int)) × Int)) :=
 (formula_Table_Node.f a0 (at_ (0 : Int) o7.1 i31)).bind fun r34 => if !r34.2 then some (.ret (([] : List (ByteArray × Int)), 31)) else some (.go ())
def types_ahead.f (k : Nat) (a0 : Tb) (a1 : List Hyp) (a2 : PTerm) (a3 : List Int) : Option ((List (ByteArray × Int)) × Int) :=
 (formula_Table_Not_neg.f a0 (-1)).bind fun r3 => if decide (r3.2 = 1) then some (([] : List (ByteArray × Int)), r3.2) else (forS (fun i s => types_ahead.b0 a1 i s.1 s.2) ((a1.length : Int) - 0).toNat 0 (a3, ([] : List (ByteArray × Int)))).bind fun (o7 : List Int × (List (ByteArray × Int))) => (forN (fun i s => types_ahead.b1 a0 o7 i) ((o7.1.length : Int) - 0).toNat 0 ()).bind (aft fun (s31 : Unit) => (term_Check.f k a2).bind fun r43 => some (o7.2, r43))
def types_Where.f (k : Nat) (a0 : Tb) (a1 : List Hyp) (a2 : PTerm) (a3 : Int) : Option (List Int × Int) :=
 (types_ahead.f k a0 a1 a2 ([a3])).bind fun r6 => if decide (r6.2 ≠ 0) then some (([] : List Int), r6.2) else (types_checker_checked.f k (⟨a0⟩ : PChecker) a2 r6.1 a3).bind fun r11 => (types_code.f r11).bind fun r15 => some (r15.1, r15.2)
def types_Check.f (k : Nat) (a0 : Tb) (a1 : List Hyp) (a2 : PTerm) (a3 : Int) : Option Int :=
 (types_Where.f k a0 a1 a2 a3).bind fun r3 => some r3.2
def types_Infer.f (k : Nat) (a0 : Tb) (a1 : List Hyp) (a2 : PTerm) : Option (Int × Int) :=
 (types_ahead.f k a0 a1 a2 ([] : List Int)).bind fun r3 => if decide (r3.2 ≠ 0) then some (0, r3.2) else (types_checker_told.f k (⟨a0⟩ : PChecker) a2 r3.1).bind fun r8 => (types_code.f r8.2).bind fun r12 => if decide (r12.2 ≠ 0) then some (0, r12.2) else some (r8.1, 0)
end Go.Proofs.YtjebgcoknpcadaaGreatDoor
end
section
namespace Go.Proofs.YtjebgcoknpcadaaGreatDoor
open Gw Go.RowKit
section
variable {A : Nat → Prop} {N : Oth} {w : World}
theorem del_mid {x : Nd} {v : Int} : ∀ {l r : List (Nd × Int)}, (∀ q ∈ l, q.1 ≠ x) → del x (l ++ (x, v) :: r) = l ++ r
 | [], r, _ => by unfold del; simp
 | (k, y) :: l, r, h => by
  have h1 : ¬ x = k := fun e => h (k, y) (by simp) e.symm
  rw [List.cons_append]; unfold del; rw [if_neg h1, del_mid (fun q hq => h q (by simp [hq]))]; rfl
def cutT (M : List Nd) (k i : Nat) : List (Nd × Int) := zipT (M.take k) ++ (((M.drop k).zipIdx k).map fun q => (q.1, (q.2 : Int))).drop i
theorem cutT_0 {M : List Nd} {k : Nat} (h : k ≤ M.length) : zipT M = cutT M k 0 := by
 unfold cutT zipT
 conv => lhs; rw [← List.take_append_drop k M, List.zipIdx_append]
 rw [List.map_append, List.drop_zero]; simp [Nat.min_eq_left h]
theorem cutT_end {M : List Nd} {k : Nat} : cutT M k (M.drop k).length = zipT (M.take k) := by
 unfold cutT
 rw [List.drop_eq_nil_of_le (by simp)]; simp
theorem cutT_step {M : List Nd} {k i : Nat} (nd : M.Nodup) {x : Nd} (hx : (M.drop k)[i]? = some x) : del x (cutT M k i) = cutT M k (i + 1) := by
 unfold cutT
 have hi : i < (M.drop k).length := (List.getElem?_eq_some_iff.1 hx).1
 have hx' := (List.getElem?_eq_some_iff.1 hx).2
 rw [List.drop_eq_getElem_cons (by simpa using hi)]
 simp only [List.getElem_map, List.getElem_zipIdx]
 rw [hx']
 refine del_mid fun q hq e => ?_
 obtain ⟨q', hq', rfl⟩ := List.mem_map.1 hq
 have h1 : q'.1 ∈ M.take k := by
  obtain ⟨a, b⟩ := q'
  have := List.mem_zipIdx hq'
  rw [this.2.2]; exact List.getElem_mem _
 have h2 : x ∈ M.drop k := List.mem_of_getElem? hx
 rw [← List.take_append_drop k M, List.nodup_append] at nd
 exact nd.2.2 _ h1 _ h2 e
def formula_Table_Cut.f (t : Tb) (k : Int) : Option (Tb × Int) := match t with
 | none => some (none, 1)
 | some M => if (decide (k < 0) || decide ((M.length : Int) < k)) = true then some (some M, 2) else chk (decide M.Nodup) (some (some (M.take k.toNat), 0))
theorem j9 {a : Option Addr} {t : Tb} {k : Int} (S : St A N w w [oT a t] []) {r : Tb × Int} (H : formula_Table_Cut.f t k = some r) : Calls PP kw #[.pointer a, .int .i64 k] w fun e w' => ∃ v, e = .returned v ∧ (v = .int .i64 r.2 ∧ St A N w w' [oT a r.1] []) := by
 refine zw (n := 49) fn_formula_Table_Cut rfl rfl (by simp) ?_
 repeat (first | refine zb ?_ | refine za ?_ | refine zF ?_)
 refine zg (zf rfl) (by decide) ?_
 refine zd ?_
 repeat (first | refine zb ?_ | refine za ?_ | refine zF ?_)
 refine zg (zr rfl) (by decide) ?_
 cases t with
 | none =>
  obtain ⟨F, hF⟩ := S.own 0 rfl
  refine zu (zo xZ) (by decide) (jb _ (oT.dead hF)) ?_
  rintro _ w1 ⟨rfl, h1⟩
  replace S := S.ext h1
  refine zg (xk rfl) (by decide) ?_
  refine zg (zl rfl) (by decide) ?_
  refine zd ?_
  refine vI rfl ?_
  repeat (first | refine zb ?_ | refine za ?_ | refine zF ?_)
  refine zg (zf rfl) (by decide) ?_
  refine zd ?_
  refine zn ?_
  obtain rfl := Option.some.inj H
  exact ⟨_, (zS (ze rfl)), rfl, S⟩
 | some M =>
  obtain ⟨F, p, rfl, T, hN⟩ := S.own 0 rfl
  refine zu (zo xZ) (by decide) (yL _ T) ?_
  rintro _ w1 ⟨rfl, h1⟩
  replace S := S.ext h1
  refine zg (xk rfl) (by decide) ?_
  refine zg (zl rfl) (by decide) ?_
  refine zd ?_
  refine uH rfl ?_
  obtain ⟨p', s, m, hp, _, S⟩ := S.openT
  cases hp
  repeat (first | refine zb ?_ | refine za ?_ | refine zF ?_)
  refine zg (zh rfl) (by decide) ?_
  refine zg (xm rfl rfl) (by decide) ?_
  refine zg (zB rfl) (by decide) ?_
  refine zD (j := 2) (pol := false) rfl rfl rfl (by decide) (fun hg => zh rfl) (by decide) ?_
  refine zD (j := 2) (pol := false) rfl rfl rfl (by decide) (fun hg => zr rfl) (by decide) ?_
  refine zD (j := 2) (pol := false) rfl rfl rfl (by decide) (fun hg => zH (zq hg)) (by decide) ?_
  refine zD (j := 2) (pol := false) rfl rfl rfl (by decide) (fun hg => zi vj (zq hg) (o' := 0) rfl) (by decide) ?_
  refine zD (j := 2) (pol := false) rfl rfl rfl (by decide) (fun hg => zm xH (zq hg) ((S.blk 0).cell (Tab.get_rows _))) (by decide) ?_
  refine zD (j := 2) (pol := false) rfl rfl rfl (by decide) (fun hg => xG z9 (zq hg) (S.sl 2).toRd) (by decide) ?_
  refine zD (j := 2) (pol := false) rfl rfl rfl (by decide) (fun hg => does_gt (zq hg) (zq hg)) (by decide) ?_
  refine zg (xU rfl (fun hp => (zq (xF hp)))) (by decide) ?_
  refine zg (zl rfl) (by decide) ?_
  refine zd ?_
  dsimp only [formula_Table_Cut.f] at H
  refine zC rfl (fun hc => ?_) (fun hc => ?_)
  ·rw [if_pos hc] at H
   repeat (first | refine zb ?_ | refine za ?_ | refine zF ?_)
   refine zg (zf rfl) (by decide) ?_
   refine zd ?_
   refine zn ?_
   obtain rfl := Option.some.inj H
   exact ⟨_, (zS (ze rfl)), rfl, S.shutT hN rfl⟩
  replace H : chk (decide M.Nodup) (some (some (M.take k.toNat), 0)) = some r := by simpa [hc] using H
  obtain ⟨nd, H⟩ := xK H
  obtain rfl := Option.some.inj H
  clear H
  replace nd : M.Nodup := of_decide_eq_true nd
  simp only [Bool.or_eq_false_iff, decide_eq_false_iff_not] at hc
  have hk : 0 ≤ k ∧ k ≤ M.length := by omega
  refine zt ?_
  repeat (first | refine zb ?_ | refine za ?_ | refine zF ?_)
  refine zg (zr rfl) (by decide) ?_
  refine zg (zH rfl) (by decide) ?_
  refine zg (zi vj rfl (o' := 0) rfl) (by decide) ?_
  refine zg (zm xH rfl ((S.blk 0).cell (Tab.get_rows _))) (by decide) ?_
  refine zg (zh rfl) (by decide) ?_
  refine zg (does_suf z9 rfl rfl (S.sl 2).toRd hk) (by decide) ?_
  refine zg (xG z9 rfl ((S.sl 2).toRd.suf hk).1) (by decide) ?_
  refine zg (zh rfl) (by decide) ?_
  refine zd ?_
  rw [cutT_0 (M := M) (k := k.toNat) (by omega)] at S
  clear h1
  refine yT [6, 30, 31, 32, 33, 34, 35, 36, 37, 38, 39] (fun fr W => St A N w W [oB p kj (Tab.C ⟨s, some m⟩), oM m ndV (Value.int .i64) (cutT M k.toNat (M.drop k.toNat).length), oS T_Nd 4 Nd.C s M] []) ?_ ?_
  ·refine zF ?_
   refine yp (α := Nat) [6, 30, 31, 32, 33, 34, 35, 36, 37, 38, 39] (fun i fr W => i ≤ (M.drop k.toNat).length ∧ fr 30 = .int .i64 i ∧ St A N w W [oB p kj (Tab.C ⟨s, some m⟩), oM m ndV (Value.int .i64) (cutT M k.toNat i), oS T_Nd 4 Nd.C s M] []) (fun i => (M.drop k.toNat).length - i) 0 ⟨Nat.zero_le _, rfl, S⟩ ?_
   rintro i g u ⟨hi, q, S⟩
   try dsimp only at q
   repeat (first | refine zb ?_ | refine za ?_ | refine zF ?_)
   refine zg (xm q rfl) (by decide) ?_
   refine zd ?_
   repeat (first | refine zb ?_ | refine za ?_ | refine zF ?_)
   refine zC rfl (fun hc => ?_) (fun hc => ?_)
   rotate_left
   ·refine yf ?_
    have hge : ¬ ((i : Int) < ((M.drop k.toNat).length : Int)) := of_decide_eq_false hc
    obtain rfl : i = (M.drop k.toNat).length := by omega
    exact ⟨rfl, by repeat (first | exact Dif.self _ _ _ | exact Dif.refl _ _ | refine Dif.upd ?_ rfl _), S⟩
   refine zt ?_
   have hlt : i < (M.drop k.toNat).length := by simpa using hc
   have hd : (M.drop k.toNat).length ≤ 1024 := by simp; omega
   have hrd := ((S.sl 2).toRd.suf hk).1
   obtain ⟨x, hx⟩ : ∃ x, (M.drop k.toNat)[i]? = some x := ⟨_, List.getElem?_eq_getElem hlt⟩
   repeat (first | refine zb ?_ | refine za ?_ | refine zF ?_)
   refine zg (zZ z9 rfl q hrd (by omega) (by omega)) (by decide) ?_
   refine zg (zj ya rfl (hrd.at (show (M.drop k.toNat)[Int.toNat (i : Int)]? = some x from hx)) (Nd.len _)) (by decide) ?_
   refine zP uW (by decide) fun b2 w2 hw2 => ?_
   replace S := S.new hw2
   refine zx ya rfl rfl (S.blk 0) (Nd.len _) (by rw [Nd.len]; decide) (Nd.one _) (zG (Nd.len _)) fun w3 B3 hw3 zw3 => ?_
   replace S : St A N w w3 [oB b2 T_Nd (Nd.C x), oB p kj (Tab.C ⟨s, some m⟩), oM m ndV (Value.int .i64) (cutT M k.toNat i), oS T_Nd 4 Nd.C s M] [] := S.store 0 B3 hw3
   refine zd ?_
   refine yn 5 (Ext w3) hmix (by kernel_rfl) (by kernel_rfl) (Ext.drawn _) ?_
   refine zy (fun v K => zr rfl) ?_
   refine zy (fun v K => zH rfl) ?_
   refine zy (fun v K => zi zaa rfl (o' := 1) rfl) ?_
   refine zy (fun v K => zm vM rfl (((S.ext K).blk 1).cell (Tab.get_at_ _))) ?_
   refine zy (fun v K => zj ya rfl (((S.ext K).blk 0).all _ (Nd.len _)) (Nd.len _)) ?_
   refine vt fun w4 K => ?_
   replace S := S.ext K
   refine wl_delete0 (C := fun x : Nd => .agg (Nd.C x).toArray) (key := x) vK key_Nd rfl rfl (S.map 2) fun w5 B5 h5 z5 => ?_
   rw [cutT_step nd hx] at B5
   replace S : St A N w w5 [oM m ndV (Value.int .i64) (cutT M k.toNat (i + 1)), oB b2 T_Nd (Nd.C x), oB p kj (Tab.C ⟨s, some m⟩), oS T_Nd 4 Nd.C s M] [] := S.mapSet 2 ⟨B5, h5, z5⟩
   replace S : St A N w w5 [oM m ndV (Value.int .i64) (cutT M k.toNat (i + 1)), oB p kj (Tab.C ⟨s, some m⟩), oS T_Nd 4 Nd.C s M] [] := S.drop 1
   replace S : St A N w w5 [oB p kj (Tab.C ⟨s, some m⟩), oM m ndV (Value.int .i64) (cutT M k.toNat (i + 1)), oS T_Nd 4 Nd.C s M] [] := S.front 1
   refine zd ?_
   repeat (first | refine zb ?_ | refine za ?_ | refine zF ?_)
   refine zg (xg q rfl (c := (i : Int) + 1) rfl (by omega) (by omega)) (by decide) ?_
   refine zg (zh rfl) (by decide) ?_
   refine zd ?_
   exact ⟨rfl, by repeat (first | exact Dif.self _ _ _ | exact Dif.refl _ _ | refine Dif.upd ?_ rfl _), i + 1, ⟨by omega, rfl, S⟩, by omega⟩
  ·rintro g u S
   rw [cutT_end] at S
   repeat (first | refine zb ?_ | refine za ?_ | refine zF ?_)
   refine zg (zr rfl) (by decide) ?_
   refine zg (zr rfl) (by decide) ?_
   refine zg (zH rfl) (by decide) ?_
   refine zg (zi vj rfl (o' := 0) rfl) (by decide) ?_
   refine zg (zm xH rfl ((S.blk 0).cell (Tab.get_rows _))) (by decide) ?_
   refine zg (zh rfl) (by decide) ?_
   refine zg (does_pre z9 rfl rfl (S.sl 2) hk) (by decide) ?_
   refine zg (zH rfl) (by decide) ?_
   refine zg (zi vj rfl (o' := 0) rfl) (by decide) ?_
   refine xi xH rfl rfl (S.blk 0) (by rw [Tab.len]; decide) (SlV.one _ _ rfl) (Tab.set_rows _ _) fun w5 B h5 z5 => ?_
   replace S : St A N w w5 [oB p kj (Tab.C ⟨⟨s.p, k.toNat, s.c⟩, some m⟩), oM m ndV (Value.int .i64) (zipT (M.take k.toNat)), oS T_Nd 4 Nd.C s M] [] := S.store 0 B h5
   replace S : St A N w w5 [oS T_Nd 4 Nd.C ⟨s.p, k.toNat, s.c⟩ (M.take k.toNat), oB p kj (Tab.C ⟨⟨s.p, k.toNat, s.c⟩, some m⟩), oM m ndV (Value.int .i64) (zipT (M.take k.toNat))] [] := S.push 2 (s := s) (l := M) (l' := M.take k.toNat) ((S.sl 2).preL hk ((S.sl 2).clip hk) (Nat.le_refl _)) (by simp; omega) (Chg.refl _ _) (fun i hi => .inl hi)
   replace S := S.front 2
   replace S : St A N w w5 [oB p kj (Tab.C ⟨⟨s.p, k.toNat, s.c⟩, some m⟩), oM m ndV (Value.int .i64) (zipT (M.take k.toNat)), oS T_Nd 4 Nd.C ⟨s.p, k.toNat, s.c⟩ (M.take k.toNat)] [] := S.front 2
   refine zd ?_
   repeat (first | refine zb ?_ | refine za ?_ | refine zF ?_)
   refine zg (zf rfl) (by decide) ?_
   refine zd ?_
   refine zn ?_
   exact ⟨_, (zS (ze rfl)), rfl, S.shutT (by simp; omega) rfl⟩
end
end Go.Proofs.YtjebgcoknpcadaaGreatDoor
end
section
namespace Go.Proofs.YtjebgcoknpcadaaGreatDoor
open Gw
def rule_node.f (a0 : Tb) (a1 : Int) : Option Nd :=
 (formula_Table_Node.f a0 a1).bind fun r3 => some r3.1
def rule_on.f (a0 : Tb) (a1 : Sq) (a2 : Int) : Option Int :=
 (rule_node.f a0 a2).bind fun r3 => if decide (r3.kind = 2) then some 1 else if decide (r3.kind = 3) then some 3 else if decide (r3.kind = 4) then some 10 else if decide (r3.kind = 5) then (rule_node.f a0 r3.l).bind fun r13 => if decide (r13.kind = 1) then (bits_Has.f a1.left r3.l).bind fun r17 => if r17 then some 4 else some 0 else if decide (r13.kind = 2) then some 5 else if decide (r13.kind = 3) then some 6 else if decide (r13.kind = 4) then some 7 else if decide (r13.kind = 5) then some 13 else some 0 else some 0
def rule_fits.f (a0 : Tb) (a1 : Sq) (a2 : Int) (a3 : Int) : Option Bool :=
 (if (!(decide (a3 < 0))) then formula_Table_Len.f a0 else some 0).bind fun r3 => if (decide (a3 < 0)) || (decide (r3 ≤ a3)) then some false else (bits_Has.f a1.left a3).bind fun r6 => (rule_node.f a0 a3).bind fun r8 => if decide (a2 = 2) then some ((decide (a3 = a1.goal)) && r6) else if decide (a2 = 8) then some ((decide (a3 = a1.goal)) && (decide (r8.kind = 5))) else if decide (a2 = 9) then some ((decide (a3 = a1.goal)) && (decide (r8.kind = 3))) else (if decide (a2 = 11) then some (decide (a2 = 11)) else some (decide (a2 = 12))).bind fun (o14 : Bool) => if o14 then some ((decide (a3 = a1.goal)) && (decide (r8.kind = 4))) else (if ((decide (a2 ≠ 0)) && r6) then rule_on.f a0 a1 a3 else some 0).bind fun r19 => some (((decide (a2 ≠ 0)) && r6) && (decide (r19 = a2)))
def rule_with.f (a0 : Sq) (a1 : List Int) : Option Sq :=
 (bits_Of.f a1).bind fun r5 => (bits_Union.f a0.left r5.1).bind fun r11 => some ({ a0 with left := r11 })
def rule_to.f (a0 : Sq) (a1 : Int) : Option Sq :=
 some ({ a0 with goal := a1 })
def rule_look.b0 (a0 : Tb) (i15 : Int) (x15_0 : Int) : Option (Stp Int Int) :=
 (formula_Table_Len.f a0).bind fun r16 => if decide (r16 ≤ i15) then some (.ret 31) else some (.go x15_0)
def rule_look.f (a0 : Tb) (a1 : Sq) : Option Int :=
 (formula_Table_Not_neg.f a0 (-1)).bind fun r7 => if decide (r7.2 = 1) then some r7.2 else chk a1.left.okB ((forE (fun (x : Nat) (s : Int) => rule_look.b0 a0 (x : Int) s) (Bits.list a1.left) 0).bind (fin (fun (s15 : Int) => (if (!(decide (a1.goal < 0))) then formula_Table_Len.f a0 else some 0).bind fun r22 => if (decide (a1.goal < 0)) || (decide (r22 ≤ a1.goal)) then some 31 else some 0) (fun (s15 : Int) => some s15)))
def rule_apply_1_1.f (a0 : Int) : Option Bool :=
 some (decide (a0 = 1))
def rule_least__rule_apply_1_1.b0 (a0 : Tb) (a1 : Sq) (i14 : Int) (x14_0 : Bool) (x14_1 : Fnd) : Option (Stp (Bool × Fnd) (Bool × Fnd)) :=
 (rule_on.f a0 a1 i14).bind fun r15 => (rule_apply_1_1.f r15).bind fun r18 => if r18 then some (.ret (true, (⟨r15, i14⟩ : Fnd))) else some (.go (x14_0, x14_1))
def rule_least__rule_apply_1_1.f (a0 : Tb) (a1 : Sq) : Option (Fnd × Bool) :=
 chk a1.left.okB ((forE (fun (x : Nat) (s : Bool × Fnd) => rule_least__rule_apply_1_1.b0 a0 a1 (x : Int) s.1 s.2) (Bits.list a1.left) (false, Fnd.z)).bind (fin (fun (s14 : Bool × Fnd) => some (Fnd.z, false)) (fun (s14 : Bool × Fnd) => some (s14.2, s14.1))))
def rule_apply_1.f (a0 : Tb) (a1 : Sq) : Option (Fnd × Bool) :=
 (rule_least__rule_apply_1_1.f a0 a1).bind fun r3 => some (r3.1, r3.2)
def rule_apply_2.f (a0 : Sq) : Option (Fnd × Bool) :=
 (bits_Has.f a0.left a0.goal).bind fun r3 => some ((⟨2, a0.goal⟩ : Fnd), r3)
def rule_apply_3_1.f (a0 : Int) : Option Bool :=
 some ((decide (3 ≤ a0)) && (decide (a0 ≤ 7)))
def rule_least__rule_apply_3_1.b0 (a0 : Tb) (a1 : Sq) (i14 : Int) (x14_0 : Bool) (x14_1 : Fnd) : Option (Stp (Bool × Fnd) (Bool × Fnd)) :=
 (rule_on.f a0 a1 i14).bind fun r15 => (rule_apply_3_1.f r15).bind fun r18 => if r18 then some (.ret (true, (⟨r15, i14⟩ : Fnd))) else some (.go (x14_0, x14_1))
def rule_least__rule_apply_3_1.f (a0 : Tb) (a1 : Sq) : Option (Fnd × Bool) :=
 chk a1.left.okB ((forE (fun (x : Nat) (s : Bool × Fnd) => rule_least__rule_apply_3_1.b0 a0 a1 (x : Int) s.1 s.2) (Bits.list a1.left) (false, Fnd.z)).bind (fin (fun (s14 : Bool × Fnd) => some (Fnd.z, false)) (fun (s14 : Bool × Fnd) => some (s14.2, s14.1))))
def rule_apply_3.f (a0 : Tb) (a1 : Sq) : Option (Fnd × Bool) :=
 (rule_least__rule_apply_3_1.f a0 a1).bind fun r3 => some (r3.1, r3.2)
def rule_apply_4.f (a0 : Sq) (a1 : Tb) : Option (Fnd × Bool) :=
 (rule_node.f a1 a0.goal).bind fun r3 => some ((⟨8, a0.goal⟩ : Fnd), decide (r3.kind = 5))
def rule_apply_5.f (a0 : Sq) (a1 : Tb) : Option (Fnd × Bool) :=
 (rule_node.f a1 a0.goal).bind fun r3 => some ((⟨9, a0.goal⟩ : Fnd), decide (r3.kind = 3))
def rule_apply_6_1.f (a0 : Int) : Option Bool :=
 some (decide (a0 = 10))
def rule_least__rule_apply_6_1.b0 (a0 : Tb) (a1 : Sq) (i14 : Int) (x14_0 : Bool) (x14_1 : Fnd) : Option (Stp (Bool × Fnd) (Bool × Fnd)) :=
 (rule_on.f a0 a1 i14).bind fun r15 => (rule_apply_6_1.f r15).bind fun r18 => if r18 then some (.ret (true, (⟨r15, i14⟩ : Fnd))) else some (.go (x14_0, x14_1))
def rule_least__rule_apply_6_1.f (a0 : Tb) (a1 : Sq) : Option (Fnd × Bool) :=
 chk a1.left.okB ((forE (fun (x : Nat) (s : Bool × Fnd) => rule_least__rule_apply_6_1.b0 a0 a1 (x : Int) s.1 s.2) (Bits.list a1.left) (false, Fnd.z)).bind (fin (fun (s14 : Bool × Fnd) => some (Fnd.z, false)) (fun (s14 : Bool × Fnd) => some (s14.2, s14.1))))
def rule_apply_6.f (a0 : Tb) (a1 : Sq) : Option (Fnd × Bool) :=
 (rule_least__rule_apply_6_1.f a0 a1).bind fun r3 => some (r3.1, r3.2)
def rule_apply.f (a0 : Tb) (a1 : Sq) : Option Fnd :=
 (rule_apply_1.f a0 a1).bind fun r12 => if r12.2 then some r12.1 else (rule_apply_2.f a1).bind fun r22 => if r22.2 then some r22.1 else (rule_apply_3.f a0 a1).bind fun r32 => if r32.2 then some r32.1 else (rule_apply_4.f a1 a0).bind fun r42 => if r42.2 then some r42.1 else (rule_apply_5.f a1 a0).bind fun r52 => if r52.2 then some r52.1 else (rule_apply_6.f a0 a1).bind fun r62 => if r62.2 then some r62.1 else some (⟨14, 0⟩ : Fnd)
def rule_Apply.f (a0 : Tb) (a1 : Sq) : Option (Int × Int × Int) :=
 (rule_look.f a0 a1).bind fun r3 => if decide (r3 ≠ 0) then some (0, 0, r3) else (rule_apply.f a0 a1).bind fun r7 => some (r7.k, r7.main, 0)
def rule_Choices.b0 (a0 : Tb) (a1 : Sq) (i43 : Int) (x43_0 : List Int) (x43_1 : List Int) : Option (Stp (List Int × List Int) Empty) :=
 (rule_on.f a0 a1 i43).bind fun r46 => if decide (r46 = 13) then chk (decide ((x43_1.length + ([13]).length) * 8 ≤ 140737488355328)) (chk (decide ((x43_0.length + ([i43]).length) * 8 ≤ 140737488355328)) (some (.go (x43_0 ++ [i43], x43_1 ++ [13])))) else some (.go (x43_0, x43_1))
def rule_Choices.f (a0 : Tb) (a1 : Sq) : Option (List Int × List Int × Int) :=
 (rule_look.f a0 a1).bind fun r5 => if decide (r5 ≠ 0) then some (([] : List Int), ([] : List Int), r5) else (rule_apply.f a0 a1).bind fun r13 => if decide (r13.k ≠ 14) then some (([] : List Int), ([] : List Int), 0) else (rule_node.f a0 a1.goal).bind fun r17 => (if decide (r17.kind = 4) then chk (decide ((([] : List Int).length + ([11, 12]).length) * 8 ≤ 140737488355328)) (chk (decide ((([] : List Int).length + ([a1.goal, a1.goal]).length) * 8 ≤ 140737488355328)) (some ((([] : List Int) ++ [a1.goal, a1.goal], ([] : List Int) ++ [11, 12])))) else some ((([] : List Int), ([] : List Int)))).bind fun (o20 : List Int × List Int) => chk a1.left.okB ((forE (fun (x : Nat) (s : List Int × List Int) => rule_Choices.b0 a0 a1 (x : Int) s.1 s.2) (Bits.list a1.left) (o20.1, o20.2)).bind (fin (fun (s43 : List Int × List Int) => some (s43.2, s43.1, 0)) (fun (z : Empty) => z.elim)))
end Go.Proofs.YtjebgcoknpcadaaGreatDoor
end
section
namespace Go.Proofs.YtjebgcoknpcadaaGreatDoor
open Gw
def rule_pair_1.f (a0 : List Int) (a1 : Int) (a2 : Int) : Option (Int × Int) :=
 some (a1, a2)
def rule_pair.f (a0 : Int) (a1 : Int) : Option (Int × Int) :=
 some (a0, a1)
def rule_premises_1.f (a0 : List Int) (a1 : Nd) : Option (Int × Int) :=
 chk (inb 0 a0.length) (some (a1.l, at_ (0 : Int) a0 0))
def rule_imps__rule_pair_1__rule_premises_1.f (a0 : Tb) (a1_0 : Int) (a1_1 : Int) (a1_2 : Nd) : Option (Tb × List Int × Int) :=
 (rule_pair_1.f ([]) a1_0 a1_1).bind fun r3 => (formula_Table_Imp.f a0 r3.1 r3.2).bind fun r6 => if decide (r6.2.2 ≠ 0) then some (r6.1, ([] : List Int), r6.2.2) else chk (decide ((([] : List Int).length + ([r6.2.1]).length) * 8 ≤ 140737488355328)) ((rule_premises_1.f (([] : List Int) ++ [r6.2.1]) a1_2).bind fun r18 => (formula_Table_Imp.f r6.1 r18.1 r18.2).bind fun r21 => if decide (r21.2.2 ≠ 0) then some (r21.1, ([] : List Int), r21.2.2) else chk (decide (((([] : List Int) ++ [r6.2.1]).length + ([r21.2.1]).length) * 8 ≤ 140737488355328)) (some (r21.1, (([] : List Int) ++ [r6.2.1]) ++ [r21.2.1], 0)))
def rule_imps__rule_pair_1__rule_pair_1.f (a0 : Tb) (a1_0 : Int) (a1_1 : Int) (a1_2 : Int) (a1_3 : Int) : Option (Tb × List Int × Int) :=
 (rule_pair_1.f ([]) a1_0 a1_1).bind fun r3 => (formula_Table_Imp.f a0 r3.1 r3.2).bind fun r6 => if decide (r6.2.2 ≠ 0) then some (r6.1, ([] : List Int), r6.2.2) else chk (decide ((([] : List Int).length + ([r6.2.1]).length) * 8 ≤ 140737488355328)) ((rule_pair_1.f (([] : List Int) ++ [r6.2.1]) a1_2 a1_3).bind fun r18 => (formula_Table_Imp.f r6.1 r18.1 r18.2).bind fun r21 => if decide (r21.2.2 ≠ 0) then some (r21.1, ([] : List Int), r21.2.2) else chk (decide (((([] : List Int) ++ [r6.2.1]).length + ([r21.2.1]).length) * 8 ≤ 140737488355328)) (some (r21.1, (([] : List Int) ++ [r6.2.1]) ++ [r21.2.1], 0)))
def rule_imps__rule_pair_1.f (a0 : Tb) (a1_0 : Int) (a1_1 : Int) : Option (Tb × List Int × Int) :=
 (rule_pair_1.f ([]) a1_0 a1_1).bind fun r3 => (formula_Table_Imp.f a0 r3.1 r3.2).bind fun r6 => if decide (r6.2.2 ≠ 0) then some (r6.1, ([] : List Int), r6.2.2) else chk (decide ((([] : List Int).length + ([r6.2.1]).length) * 8 ≤ 140737488355328)) (some (r6.1, ([] : List Int) ++ [r6.2.1], 0))
def rule_premises.f (a0 : Tb) (a1 : Sq) (a2 : Int) (a3 : Int) : Option (Tb × List Sq × Int) :=
 (rule_node.f a0 a3).bind fun r3 => (rule_node.f a0 r3.l).bind fun r9 => (bits_Drop.f a1.left a3).bind fun r18 => if decide (a2 = 3) then (rule_with.f ({ a1 with left := r18 }) ([r3.l, r3.r])).bind fun r26 => some (a0, [r26], 0) else if decide (a2 = 4) then (rule_with.f ({ a1 with left := r18 }) ([r3.r])).bind fun r36 => some (a0, [r36], 0) else if decide (a2 = 5) then some (a0, [{ a1 with left := r18 }], 0) else if decide (a2 = 6) then (rule_pair.f r9.r r3.r).bind fun r47 => (rule_imps__rule_pair_1__rule_premises_1.f a0 r47.1 r47.2 r9).bind fun r55 => if decide (r55.2.2 ≠ 0) then some (r55.1, ([] : List Sq), r55.2.2) else chk (inb 1 r55.2.1.length) ((rule_with.f ({ a1 with left := r18 }) ([at_ (0 : Int) r55.2.1 1])).bind fun r64 => some (r55.1, [r64], 0)) else if decide (a2 = 7) then (rule_pair.f r9.l r3.r).bind fun r79 => (rule_pair.f r9.r r3.r).bind fun r82 => (rule_imps__rule_pair_1__rule_pair_1.f a0 r79.1 r79.2 r82.1 r82.2).bind fun r88 => if decide (r88.2.2 ≠ 0) then some (r88.1, ([] : List Sq), r88.2.2) else (rule_with.f ({ a1 with left := r18 }) r88.2.1).bind fun r95 => some (r88.1, [r95], 0) else if decide (a2 = 8) then (rule_with.f a1 ([r3.l])).bind fun r103 => (rule_to.f r103 r3.r).bind fun r106 => some (a0, [r106], 0) else if decide (a2 = 9) then (rule_to.f a1 r3.l).bind fun r113 => (rule_to.f a1 r3.r).bind fun r115 => some (a0, [r113, r115], 0) else if decide (a2 = 10) then (rule_with.f ({ a1 with left := r18 }) ([r3.l])).bind fun r123 => (rule_with.f ({ a1 with left := r18 }) ([r3.r])).bind fun r127 => some (a0, [r123, r127], 0) else if decide (a2 = 11) then (rule_to.f a1 r3.l).bind fun r134 => some (a0, [r134], 0) else if decide (a2 = 12) then (rule_to.f a1 r3.r).bind fun r141 => some (a0, [r141], 0) else if decide (a2 = 13) then (rule_pair.f r9.r r3.r).bind fun r148 => (rule_imps__rule_pair_1.f a0 r148.1 r148.2).bind fun r156 => if decide (r156.2.2 ≠ 0) then some (r156.1, ([] : List Sq), r156.2.2) else (rule_with.f ({ a1 with left := r18 }) r156.2.1).bind fun r161 => (rule_to.f r161 r3.l).bind fun r162 => (rule_with.f ({ a1 with left := r18 }) ([r3.r])).bind fun r166 => some (r156.1, [r162, r166], 0) else some (a0, ([] : List Sq), 0)
def rule_Premises.f (a0 : Tb) (a1 : Sq) (a2 : Int) (a3 : Int) : Option (Tb × List Sq × Int) :=
 (rule_look.f a0 a1).bind fun r3 => if decide (r3 ≠ 0) then some (a0, ([] : List Sq), r3) else (rule_fits.f a0 a1 a2 a3).bind fun r7 => if !r7 then some (a0, ([] : List Sq), 90) else (formula_Table_Len.f a0).bind fun r11 => (rule_premises.f a0 a1 a2 a3).bind fun r14 => if decide (r14.2.2 ≠ 0) then (formula_Table_Cut.f r14.1 r11).bind fun r19 => some (r19.1, ([] : List Sq), r14.2.2) else some (r14.1, r14.2.1, 0)
end Go.Proofs.YtjebgcoknpcadaaGreatDoor
end
section
namespace Go.Proofs.YtjebgcoknpcadaaGreatDoor
open Gw
def formula_From.b0 (a0 : List Nd) (i5 : Int) (x5_0 : Tb) : Option (Stp Tb (Tb × Int)) :=
 (formula_Table_Put.f x5_0 (at_ Nd.z a0 i5)).bind fun r11 => if (decide (r11.2.2 = 0)) && (decide (r11.2.1 ≠ i5)) then if decide (31 ≠ 0) then some (.ret (none, 31)) else some (.go r11.1) else if decide (r11.2.2 ≠ 0) then some (.ret (none, r11.2.2)) else some (.go r11.1)
def formula_From.f (a0 : List Nd) : Option (Tb × Int) :=
 (formula_New.f).bind fun r1 => (forN (fun i s => formula_From.b0 a0 i s) ((a0.length : Int) - 0).toNat 0 r1).bind (aft fun (s5 : Tb) => some (s5, 0))
end Go.Proofs.YtjebgcoknpcadaaGreatDoor
end
section
namespace Go.Proofs.YtjebgcoknpcadaaGreatDoor
open Gw
def ref03_Ints.b0 (a1 : List Int) (a0 : List Int) (i2 : Int) : Option (Stp Unit Bool) :=
 chk (inb i2 a1.length) (if decide (at_ (0 : Int) a0 i2 ≠ at_ (0 : Int) a1 i2) then some (.ret false) else some (.go ()))
def ref03_Ints.f (a0 : List Int) (a1 : List Int) : Option Bool :=
 if decide ((a0.length : Int) ≠ (a1.length : Int)) then some false else (forN (fun i s => ref03_Ints.b0 a1 a0 i) ((a0.length : Int) - 0).toNat 0 ()).bind (aft fun (s2 : Unit) => some true)
def ref03_T_Has.f (a0 : Tb) (a1 : Int) : Option Bool :=
 chk a0.isSome (some ((decide (0 ≤ a1)) && (decide (a1 < ((a0.getD []).length : Int)))))
def ref03_T_Find.b0 (a0 : Tb) (a1 : Nd) (i4 : Int) : Option (Stp Unit (Int × Bool)) :=
 if decide (at_ Nd.z (a0.getD []) i4 = a1) then some (.ret (i4, true)) else some (.go ())
def ref03_T_Find.f (a0 : Tb) (a1 : Nd) : Option (Int × Bool) :=
 chk a0.isSome ((forN (fun i s => ref03_T_Find.b0 a0 a1 i) (((a0.getD []).length : Int) - 0).toNat 0 ()).bind (aft fun (s4 : Unit) => some (0, false)))
def ref03_T_Put.f (a0 : Tb) (a1 : Nd) : Option (Tb × Int × Int) :=
 (if decide (a1.kind = 1) then if (decide (a1.l ≠ 0)) || (decide (a1.r ≠ 0)) then some (.inr (a0, 0, 31)) else (ref03_Word.f a1.name).bind fun r6 => if !r6 then some (.inr (a0, 0, 32)) else some (.inl a0) else if decide (a1.kind = 2) then if ((decide (a1.name ≠ (⟨#[]⟩ : ByteArray))) || (decide (a1.l ≠ 0))) || (decide (a1.r ≠ 0)) then some (.inr (a0, 0, 31)) else some (.inl a0) else (if decide (a1.kind = 3) then some (decide (a1.kind = 3)) else if decide (a1.kind = 4) then some (decide (a1.kind = 4)) else some (decide (a1.kind = 5))).bind fun (o12 : Bool) => if o12 then (if (!(decide (a1.name ≠ (⟨#[]⟩ : ByteArray)))) then ref03_T_Has.f a0 a1.l else some false).bind fun r18 => (if (!((decide (a1.name ≠ (⟨#[]⟩ : ByteArray))) || (!r18))) then ref03_T_Has.f a0 a1.r else some false).bind fun r20 => if ((decide (a1.name ≠ (⟨#[]⟩ : ByteArray))) || (!r18)) || (!r20) then some (.inr (a0, 0, 31)) else some (.inl a0) else some (.inr (a0, 0, 31))).bind (aft fun (s3 : Tb) => (ref03_T_Find.f s3 a1).bind fun r25 => if r25.2 then some (s3, r25.1, 0) else chk s3.isSome (if decide (1024 ≤ ((s3.getD []).length : Int)) then some ((some (s3.getD [])), 0, 30) else chk (decide (((s3.getD []).length + 1) * 40 ≤ 140737488355328)) (some ((some ((s3.getD []) ++ [a1])), IntKind.i64.wrap ((((s3.getD []) ++ [a1]).length : Int) - 1), 0))))
def ref09_kind.f (a0 : Tb) (a1 : Int) : Option Int :=
 chk a0.isSome (chk (inb a1 (a0.getD []).length) (some ((at_ Nd.z (a0.getD []) a1).kind)))
def ref09_Fits.f (a0 : Tb) (a1 : Sq) (a2 : Int) (a3 : Int) : Option Bool :=
 (ref03_T_Has.f a0 a3).bind fun r3 => if !r3 then some false else chk a0.isSome (chk (inb a3 (a0.getD []).length) ((ref05_Has.f a1.left a3).bind fun r15 => if decide (a2 = 1) then some (r15 && (decide ((at_ Nd.z (a0.getD []) a3).kind = 2))) else if decide (a2 = 2) then some (r15 && (decide (a3 = a1.goal))) else if decide (a2 = 3) then some (r15 && (decide ((at_ Nd.z (a0.getD []) a3).kind = 3))) else if decide (a2 = 4) then (if (r15 && (decide ((at_ Nd.z (a0.getD []) a3).kind = 5))) then ref09_kind.f a0 ((at_ Nd.z (a0.getD []) a3).l) else some 0).bind fun r22 => (if ((r15 && (decide ((at_ Nd.z (a0.getD []) a3).kind = 5))) && (decide (r22 = 1))) then ref05_Has.f a1.left ((at_ Nd.z (a0.getD []) a3).l) else some false).bind fun r24 => some (((r15 && (decide ((at_ Nd.z (a0.getD []) a3).kind = 5))) && (decide (r22 = 1))) && r24) else if decide (a2 = 5) then (if (r15 && (decide ((at_ Nd.z (a0.getD []) a3).kind = 5))) then ref09_kind.f a0 ((at_ Nd.z (a0.getD []) a3).l) else some 0).bind fun r27 => some ((r15 && (decide ((at_ Nd.z (a0.getD []) a3).kind = 5))) && (decide (r27 = 2))) else if decide (a2 = 6) then (if (r15 && (decide ((at_ Nd.z (a0.getD []) a3).kind = 5))) then ref09_kind.f a0 ((at_ Nd.z (a0.getD []) a3).l) else some 0).bind fun r30 => some ((r15 && (decide ((at_ Nd.z (a0.getD []) a3).kind = 5))) && (decide (r30 = 3))) else if decide (a2 = 7) then (if (r15 && (decide ((at_ Nd.z (a0.getD []) a3).kind = 5))) then ref09_kind.f a0 ((at_ Nd.z (a0.getD []) a3).l) else some 0).bind fun r33 => some ((r15 && (decide ((at_ Nd.z (a0.getD []) a3).kind = 5))) && (decide (r33 = 4))) else if decide (a2 = 8) then some ((decide (a3 = a1.goal)) && (decide ((at_ Nd.z (a0.getD []) a3).kind = 5))) else if decide (a2 = 9) then some ((decide (a3 = a1.goal)) && (decide ((at_ Nd.z (a0.getD []) a3).kind = 3))) else if decide (a2 = 10) then some (r15 && (decide ((at_ Nd.z (a0.getD []) a3).kind = 4))) else (if decide (a2 = 11) then some (decide (a2 = 11)) else some (decide (a2 = 12))).bind fun (o38 : Bool) => if o38 then some ((decide (a3 = a1.goal)) && (decide ((at_ Nd.z (a0.getD []) a3).kind = 4))) else if decide (a2 = 13) then (if (r15 && (decide ((at_ Nd.z (a0.getD []) a3).kind = 5))) then ref09_kind.f a0 ((at_ Nd.z (a0.getD []) a3).l) else some 0).bind fun r44 => some ((r15 && (decide ((at_ Nd.z (a0.getD []) a3).kind = 5))) && (decide (r44 = 5))) else some false))
def ref03_From.b0 (a0 : List Nd) (i3 : Int) (x3_0 : Tb) : Option (Stp Tb (Tb × Int)) :=
 (ref03_T_Put.f x3_0 (at_ Nd.z a0 i3)).bind fun r6 => if decide (r6.2.2 ≠ 0) then some (.ret (none, r6.2.2)) else if decide (r6.2.1 ≠ i3) then some (.ret (none, 31)) else some (.go r6.1)
def ref03_From.f (a0 : List Nd) : Option (Tb × Int) :=
 (forN (fun i s => ref03_From.b0 a0 i s) ((a0.length : Int) - 0).toNat 0 (some [])).bind (aft fun (s3 : Tb) => some (s3, 0))
def law03_Both.f (a0 : List Nd) : Option (Tb × Tb × Bool) :=
 chk (decide ((([] : List Nd).length + a0.length) * 40 ≤ 140737488355328)) ((ref03_From.f a0).bind fun r7 => if decide (r7.2 ≠ 0) then some (none, none, false) else (formula_From.f (([] : List Nd) ++ a0)).bind fun r12 => some (r12.1, r7.1, true))
end Go.Proofs.YtjebgcoknpcadaaGreatDoor
end
section
namespace Go.Proofs.YtjebgcoknpcadaaGreatDoor
open Gw
def law13_v.f (a0 : ByteArray) : Option PTerm :=
 some (⟨1, a0, ByteArray.empty, 0, []⟩ : PTerm)
def law13_heads.f (k : Nat)  : Option Bool :=
 (formula_From.f ([{ Nd.z with kind := 1, name := (⟨#[112]⟩ : ByteArray) }, { Nd.z with kind := 1, name := (⟨#[113]⟩ : ByteArray) }, { Nd.z with kind := 3, l := 0, r := 1 }, { Nd.z with kind := 5, l := 2, r := 0 }, { Nd.z with kind := 2 }])).bind fun r4 => (law13_v.f (⟨#[120]⟩ : ByteArray)).bind fun r8 => (law13_v.f (⟨#[120]⟩ : ByteArray)).bind fun r18 => (types_Check.f k r4.1 ([]) (⟨2, (⟨#[120]⟩ : ByteArray), ByteArray.empty, 0, [(⟨5, ByteArray.empty, ByteArray.empty, 0, [r8]⟩ : PTerm)]⟩ : PTerm) 3).bind fun r31 => (types_Where.f k r4.1 ([]) (⟨2, (⟨#[120]⟩ : ByteArray), ByteArray.empty, 0, [(⟨6, ByteArray.empty, ByteArray.empty, 0, [r18]⟩ : PTerm)]⟩ : PTerm) 3).bind fun r37 => (types_Infer.f k r4.1 ([(⟨(⟨#[120]⟩ : ByteArray), 2⟩ : Hyp)]) (⟨6, ByteArray.empty, ByteArray.empty, 0, [r18]⟩ : PTerm)).bind fun r44 => (law13_v.f (⟨#[121]⟩ : ByteArray)).bind fun r47 => (types_Infer.f k r4.1 ([]) r47).bind fun r51 => (law13_v.f (⟨#[120]⟩ : ByteArray)).bind fun r54 => (types_Infer.f k r4.1 ([]) (⟨2, (⟨#[120]⟩ : ByteArray), ByteArray.empty, 0, [r54]⟩ : PTerm)).bind fun r61 => (law13_v.f (⟨#[120]⟩ : ByteArray)).bind fun r67 => (types_Check.f k r4.1 ([(⟨(⟨#[120]⟩ : ByteArray), 4⟩ : Hyp)]) (⟨10, ByteArray.empty, ByteArray.empty, 0, [r67]⟩ : PTerm) 1).bind fun r74 => chk (((decide (r4.2 = 0)) && (decide (r31 = 0))) && (decide (r37.2 = 130))) ((if (((decide (r4.2 = 0)) && (decide (r31 = 0))) && (decide (r37.2 = 130))) then ref03_Ints.f r37.1 ([0]) else some false).bind fun r81 => some (((((((((decide (r4.2 = 0)) && (decide (r31 = 0))) && (decide (r37.2 = 130))) && r81) && (decide (r44.1 = 1))) && (decide (r44.2 = 0))) && (decide (r51.2 = 131))) && (decide (r61.2 = 132))) && (decide (r74 = 0))))
end Go.Proofs.YtjebgcoknpcadaaGreatDoor
end
section
namespace Go.Proofs.YtjebgcoknpcadaaGreatDoor
open Gw Go.RowKit
structure PStep where
 seq : Sq
 proved : Bool
 rule : Int
 main : Int
 kids : List Int
 deriving DecidableEq
def PStep.z : PStep := ⟨Sq.z, false, 0, 0, []⟩
structure PFound where
 proved : Bool
 steps : List PStep
 visits : Int
 deriving DecidableEq
structure PFinder where
 t : Tb
 steps : List PStep
 at_ : List (Sq × Int)
 left : Int
 visits : Int
structure PRRun where
 t : Tb
 steps : List PStep
 visits : Int
 budget : Int
def jH (m : Step) (x : PStep) : OA := (OA.pure (m.seq = x.seq ∧ m.proved = x.proved ∧ m.rule = x.rule ∧ m.main = x.main)).star (oS zX 1 IC m.kids x.kids)
theorem jH.eqs {w : World} {m : Step} {x : PStep} (h : (jH m x).on w) : m.seq = x.seq ∧ m.proved = x.proved ∧ m.rule = x.rule ∧ m.main = x.main := by
 obtain ⟨F, G, H, g, _⟩ := h
 exact g.1
theorem jH.get_proved {w : World} {m : Step} {x : PStep} (h : (jH m x).on w) : (Step.C m)[17]? = some (.bool x.proved) := by rw [Step.get_proved, (jH.eqs h).2.1]
def mSqC (x : Sq) : Value := .agg (Sq.C x).toArray
abbrev zaB (s : SlV) (l : List PStep) : OA := oD vE 21 Step.C jH s l
abbrev oMSq (m : Nat) (l : List (Sq × Int)) : OA := oM m mSqC (Value.int .i64) l
def oF (a ta : Option Addr) (x : PFinder) : OA := OA.ex fun (q : Nat × SlV × Nat) => (OA.pure (a = some ⟨q.1, 0, none⟩)).star ((oB q.1 jy (Finder.C ⟨ta, q.2.1, some q.2.2, x.left, x.visits⟩)).star ((oT ta x.t).star ((zaB q.2.1 x.steps).star (oMSq q.2.2 x.at_))))
section
variable {A : Nat → Prop} {N : Oth} {w0 w w' : World} {L Z : List OA}
theorem Gw.St.open_oF (h : St A N w0 w L Z) (k : Nat) {a ta : Option Addr} {x : PFinder} {L' : List OA} (e : L[k]? = some (oF a ta x) := by rfl) (e' : L.eraseIdx k = L' := by rfl) :
  ∃ p ss m, a = some ⟨p, 0, none⟩ ∧ St A N w0 w (oB p jy (Finder.C ⟨ta, ss, some m, x.left, x.visits⟩) :: oT ta x.t :: zaB ss x.steps :: oMSq m x.at_ :: L') Z := by
 subst e'
 obtain ⟨⟨p, ss, m⟩, h1⟩ := h.unex k e
 have h2 := h1.unstar 0
 have hp := h2.getp 0
 have h3 := h2.drop 0
 have h4 := h3.unstar 0
 have h5 := h4.unstar 1
 have h6 := h5.unstar 1
 exact ⟨p, ss, m, hp, ((h6.front 3).front 3).front 1⟩
theorem Gw.St.shut_oF {p : Nat} {ta a : Option Addr} {ss : SlV} {m : Nat} {lf vs : Int} {t : Tb} {st : List PStep} {mp : List (Sq × Int)} (h : St A N w0 w (oB p jy (Finder.C ⟨ta, ss, some m, lf, vs⟩) :: oT ta t :: zaB ss st :: oMSq m mp :: L) Z) (ha : a = some ⟨p, 0, none⟩) : St A N w0 w (oF a ta ⟨t, st, mp, lf, vs⟩ :: L) Z := by
 have h1 : St A N w0 w (zaB ss st :: oMSq m mp :: oB p jy (Finder.C ⟨ta, ss, some m, lf, vs⟩) :: oT ta t :: L) Z := (h.front 3).front 3
 have h2 : St A N w0 w (oT ta t :: (zaB ss st).star (oMSq m mp) :: oB p jy (Finder.C ⟨ta, ss, some m, lf, vs⟩) :: L) Z := h1.star.front 2
 have h3 : St A N w0 w (oB p jy (Finder.C ⟨ta, ss, some m, lf, vs⟩) :: (oT ta t).star ((zaB ss st).star (oMSq m mp)) :: L) Z := h2.star.front 1
 exact St.toex (f := fun (q : Nat × SlV × Nat) => (OA.pure (a = some ⟨q.1, 0, none⟩)).star ((oB q.1 jy (Finder.C ⟨ta, q.2.1, some q.2.2, lf, vs⟩)).star ((oT ta t).star ((zaB q.2.1 st).star (oMSq q.2.2 mp))))) (p, ss, m) ((h3.star.putp ha).star)
end
section
variable {A : Nat → Prop} {N : Oth} {w0 w w' : World} {L Z : List OA}
end
end Go.Proofs.YtjebgcoknpcadaaGreatDoor
end
section
namespace Go.Proofs.YtjebgcoknpcadaaGreatDoor
open Gw
def search_finder_end.f (a0 : PFinder) (a1 : PStep) : Option (PFinder × Int × Int) :=
 chk (decide ((a0.steps.length + 1) * 184 ≤ 140737488355328)) (some ((⟨a0.t, a0.steps ++ [a1], Gw.ins a1.seq (a0.steps.length : Int) a0.at_, a0.left, a0.visits⟩ : PFinder), IntKind.i64.wrap (((a0.steps ++ [a1]).length : Int) - 1), 0))
def search_finder_choose.b1 (rec_search_finder_decide : PFinder → Sq → Option (PFinder × Int × Int)) (r38 : Tb × List Sq × Int) (i50 : Int) (x50_0 : PStep) (x50_1 : PFinder) (x50_2 : PStep) : Option (Stp (PStep × PFinder × PStep) (Stp (PStep × PFinder) (PFinder × Int × Int))) :=
 (rec_search_finder_decide x50_1 (at_ Sq.z r38.2.1 i50)).bind fun r62 => if decide (r62.2.2 ≠ 0) then some (.ret (.ret (r62.1, 0, r62.2.2))) else chk (decide ((x50_0.kids.length + ([r62.2.1]).length) * 8 ≤ 140737488355328)) (chk (inb r62.2.1 r62.1.steps.length) (if (at_ PStep.z r62.1.steps r62.2.1).proved then some (.go ((⟨x50_0.seq, x50_0.proved, x50_0.rule, x50_0.main, x50_0.kids ++ [r62.2.1]⟩ : PStep), r62.1, x50_2)) else if decide (i50 = 0) then chk (decide ((x50_2.kids.length + ([r62.2.1]).length) * 8 ≤ 140737488355328)) (some (.brk ((⟨x50_0.seq, false, x50_0.rule, x50_0.main, x50_0.kids ++ [r62.2.1]⟩ : PStep), r62.1, (⟨x50_2.seq, x50_2.proved, x50_2.rule, x50_2.main, x50_2.kids ++ [r62.2.1]⟩ : PStep)))) else (search_finder_end.f r62.1 (⟨x50_0.seq, false, x50_0.rule, x50_0.main, [r62.2.1]⟩ : PStep)).bind fun r92 => some (.ret (.ret (r92.1, r92.2.1, r92.2.2)))))
def search_finder_choose.b0 (r11 : List Int × List Int × Int) (a1 : Sq) (rec_search_finder_decide : PFinder → Sq → Option (PFinder × Int × Int)) (i22 : Int) (x22_0 : PStep) (x22_1 : PFinder) : Option (Stp (PStep × PFinder) (PFinder × Int × Int)) :=
 chk (inb i22 r11.2.1.length) ((rule_Premises.f x22_1.t a1 (at_ (0 : Int) r11.1 i22) (at_ (0 : Int) r11.2.1 i22)).bind fun r38 => if decide (r38.2.2 ≠ 0) then some (.ret ((⟨r38.1, x22_1.steps, x22_1.at_, x22_1.left, x22_1.visits⟩ : PFinder), 0, r38.2.2)) else chk (inb i22 r11.2.1.length) ((forN (fun i s => search_finder_choose.b1 rec_search_finder_decide r38 i s.1 s.2.1 s.2.2) ((r38.2.1.length : Int) - 0).toNat 0 ((⟨a1, true, at_ (0 : Int) r11.1 i22, at_ (0 : Int) r11.2.1 i22, ([] : List Int)⟩ : PStep), (⟨r38.1, x22_1.steps, x22_1.at_, x22_1.left, x22_1.visits⟩ : PFinder), x22_0)).bind (aft fun (s50 : PStep × PFinder × PStep) => if s50.1.proved then (search_finder_end.f s50.2.1 s50.1).bind fun r98 => some (.ret (r98.1, r98.2.1, r98.2.2)) else some (.go (s50.2.2, s50.2.1)))))
def search_finder_choose.g (rec_search_finder_decide : PFinder → Sq → Option (PFinder × Int × Int)) (a0 : PFinder) (a1 : Sq) : Option (PFinder × Int × Int) :=
 (rule_Choices.f a0.t a1).bind fun r11 => if decide (r11.2.2 ≠ 0) then some (a0, 0, r11.2.2) else (forN (fun i s => search_finder_choose.b0 r11 a1 rec_search_finder_decide i s.1 s.2) ((r11.1.length : Int) - 0).toNat 0 ((⟨a1, false, 14, 0, ([] : List Int)⟩ : PStep), a0)).bind (aft fun (s22 : PStep × PFinder) => (search_finder_end.f s22.2 s22.1).bind fun r103 => some (r103.1, r103.2.1, r103.2.2))
def search_finder_decide.b0 (rec_search_finder_decide : PFinder → Sq → Option (PFinder × Int × Int)) (r43 : Tb × List Sq × Int) (a1 : Sq) (r28 : Int × Int × Int) (i53 : Int) (x53_0 : PStep) (x53_1 : PFinder) : Option (Stp (PStep × PFinder) (PFinder × Int × Int)) :=
 (rec_search_finder_decide x53_1 (at_ Sq.z r43.2.1 i53)).bind fun r62 => if decide (r62.2.2 ≠ 0) then some (.ret (r62.1, 0, r62.2.2)) else chk (inb r62.2.1 r62.1.steps.length) (if !((at_ PStep.z r62.1.steps r62.2.1).proved) then (search_finder_end.f r62.1 (⟨a1, false, r28.1, r28.2.1, [r62.2.1]⟩ : PStep)).bind fun r75 => some (.ret (r75.1, r75.2.1, r75.2.2)) else chk (decide ((x53_0.kids.length + ([r62.2.1]).length) * 8 ≤ 140737488355328)) (some (.go ((⟨x53_0.seq, x53_0.proved, x53_0.rule, x53_0.main, x53_0.kids ++ [r62.2.1]⟩ : PStep), r62.1))))
def search_finder_decide.g (rec_search_finder_decide : PFinder → Sq → Option (PFinder × Int × Int)) (a0 : PFinder) (a1 : Sq) : Option (PFinder × Int × Int) :=
 if (Gw.look a1 a0.at_).isSome then some (a0, (Gw.look a1 a0.at_).getD 0, 0) else if decide (a0.left = 0) then some (a0, 0, 110) else (rule_Apply.f a0.t a1).bind fun r28 => if decide (r28.2.2 ≠ 0) then some ((⟨a0.t, a0.steps, a0.at_, IntKind.i64.wrap (a0.left - 1), IntKind.i64.wrap (a0.visits + 1)⟩ : PFinder), 0, r28.2.2) else if decide (r28.1 = 14) then (search_finder_choose.g rec_search_finder_decide (⟨a0.t, a0.steps, a0.at_, IntKind.i64.wrap (a0.left - 1), IntKind.i64.wrap (a0.visits + 1)⟩ : PFinder) a1).bind fun r32 => some (r32.1, r32.2.1, r32.2.2) else (rule_Premises.f a0.t a1 r28.1 r28.2.1).bind fun r43 => if decide (r43.2.2 ≠ 0) then some ((⟨r43.1, a0.steps, a0.at_, IntKind.i64.wrap (a0.left - 1), IntKind.i64.wrap (a0.visits + 1)⟩ : PFinder), 0, r43.2.2) else (forN (fun i s => search_finder_decide.b0 rec_search_finder_decide r43 a1 r28 i s.1 s.2) ((r43.2.1.length : Int) - 0).toNat 0 ((⟨a1, true, r28.1, r28.2.1, ([] : List Int)⟩ : PStep), (⟨r43.1, a0.steps, a0.at_, IntKind.i64.wrap (a0.left - 1), IntKind.i64.wrap (a0.visits + 1)⟩ : PFinder))).bind (aft fun (s53 : PStep × PFinder) => (search_finder_end.f s53.2 s53.1).bind fun r87 => some (r87.1, r87.2.1, r87.2.2))
def search_finder_decide.f : Nat → PFinder → Sq → Option (PFinder × Int × Int)
 | 0 => fun _ _ => none
 | k + 1 => search_finder_decide.g (search_finder_decide.f k)
def search_Run.b0 (a0 : Tb) (i18 : Int) (x18_0 : Int) (x18_1 : PFound) : Option (Stp (Int × PFound) (Int × PFound)) :=
 (formula_Table_Len.f a0).bind fun r20 => if decide (r20 ≤ i18) then some (.ret (31, (⟨false, ([] : List PStep), 0⟩ : PFound))) else some (.go (x18_0, x18_1))
def search_Run.f (k : Nat) (a0 : Tb) (a1 : Sq) (a2 : Int) : Option (Tb × PFound × Int) :=
 (formula_Table_Not_neg.f a0 (-1)).bind fun r9 => if decide (r9.2 = 1) then some (a0, (⟨false, ([] : List PStep), 0⟩ : PFound), r9.2) else chk a1.left.okB ((forE (fun (x : Nat) (s : Int × PFound) => search_Run.b0 a0 (x : Int) s.1 s.2) (Bits.list a1.left) (0, (⟨false, ([] : List PStep), 0⟩ : PFound))).bind (fin (fun (s18 : Int × PFound) => (if (!(decide (a1.goal < 0))) then formula_Table_Len.f a0 else some 0).bind fun r28 => if (decide (a1.goal < 0)) || (decide (r28 ≤ a1.goal)) then some (a0, (⟨false, ([] : List PStep), 0⟩ : PFound), 31) else if (decide (a2 < 1)) || (decide (4096 < a2)) then some (a0, (⟨false, ([] : List PStep), 0⟩ : PFound), 2) else (formula_Table_Len.f a0).bind fun r38 => (search_finder_decide.f k (⟨a0, ([] : List PStep), ([] : List (Sq × Int)), a2, 0⟩ : PFinder) a1).bind fun r45 => if decide (r45.2.2 ≠ 0) then (formula_Table_Cut.f r45.1.t r38).bind fun r53 => some (r53.1, (⟨false, ([] : List PStep), 0⟩ : PFound), r45.2.2) else chk (inb r45.2.1 r45.1.steps.length) (some (r45.1.t, (⟨(at_ PStep.z r45.1.steps r45.2.1).proved, r45.1.steps, r45.1.visits⟩ : PFound), 0))) (fun (s18 : Int × PFound) => some (a0, s18.2, s18.1))))
end Go.Proofs.YtjebgcoknpcadaaGreatDoor
end
section
namespace Go.Proofs.YtjebgcoknpcadaaGreatDoor
open Gw
def law13_TypesProve.b0 (a1 : List Hyp) (i17 : Int) (x17_0 : Sq) : Option (Stp Sq Bool) :=
 (ref05_Put.f x17_0.left ((at_ Hyp.z a1 i17).form)).bind fun r20 => if decide (r20.2 ≠ 0) then some (.ret false) else some (.go ({ x17_0 with left := r20.1 }))
def law13_TypesProve.f (k : Nat) (a0 : List Nd) (a1 : List Hyp) (a2 : PTerm) (a3 : Int) : Option Bool :=
 (law03_Both.f a0).bind fun r3 => (if (!(!r3.2.2)) then types_Check.f k r3.1 a1 a2 a3 else some 0).bind fun r8 => if (!r3.2.2) || (decide (r8 ≠ 0)) then (law13_heads.f k).bind fun r11 => some r11 else (forN (fun i s => law13_TypesProve.b0 a1 i s) ((a1.length : Int) - 0).toNat 0 ({ Sq.z with goal := a3 })).bind (aft fun (s17 : Sq) => (search_Run.f k r3.1 s17 4096).bind fun r28 => if (decide (r28.2.2 = 110)) || (decide (r28.2.2 = 30)) then (law13_heads.f k).bind fun r36 => some r36 else (if ((decide (r28.2.2 = 0)) && r28.2.1.proved) then law13_heads.f k else some false).bind fun r39 => some (((decide (r28.2.2 = 0)) && r28.2.1.proved) && r39))
end Go.Proofs.YtjebgcoknpcadaaGreatDoor
end
section
namespace Go.Proofs.YtjebgcoknpcadaaGreatDoor
open Gw Go.RowKit
set_option maxHeartbeats 4000000
set_option maxRecDepth 20000
theorem term_shape_st {A : Nat → Prop} {N : Oth} {w : World} {a0 : Int} (S : St A N w w [] []) {r : Int × Bool × Bool × Bool} (H : term_shape.f a0 = some r) :
  Calls PP F_term_shape #[.int .i64 a0] w fun e w' => ∃ v, e = .returned v ∧ (v = .tuple #[.int .i64 r.1, .bool r.2.1, .bool r.2.2.1, .bool r.2.2.2] ∧ St A N w w' [] []) := by
 unfold term_shape.f at H
 refine zw (n := 25) fn_term_shape rfl rfl (by simp) (zb (za (wd (zf rfl) (wd (zl rfl) (wd (zl rfl) (wd (zl rfl) (zd (zb (zb (za ?_))))))))))
 refine wd (zh rfl) (zd ?_)
 refine zF (zb (za (wd (zN rfl rfl) (wd (zl rfl) (zd ?_)))))
 refine zC rfl (fun hc1 => ?_) (fun hc1 => ?_)
 ·replace H := if_t hc1 H
  refine zb (za (wd (zf rfl) (wd (zl rfl) (wd (zl rfl) (wd (zl rfl) (zd (zn ?_)))))))
  refine ⟨_, (rets4 (ze rfl) (ze rfl) (ze rfl) (ze rfl)), ?_⟩
  obtain rfl := Option.some.inj H
  exact ⟨rfl, S⟩
 replace H := if_f hc1 H
 refine zb (za (wd (zN rfl rfl) (wd (zl rfl) (zd ?_))))
 refine zC rfl (fun hc2 => ?_) (fun hc2 => ?_)
 ·replace H := if_t hc2 H
  refine zb (za (wd (zf rfl) (wd (zl rfl) (wd (zl rfl) (wd (zl rfl) (zd (zn ?_)))))))
  refine ⟨_, (rets4 (ze rfl) (ze rfl) (ze rfl) (ze rfl)), ?_⟩
  obtain rfl := Option.some.inj H
  exact ⟨rfl, S⟩
 replace H := if_f hc2 H
 refine zb (za (wd (zN rfl rfl) (wd (zl rfl) (zd ?_))))
 refine zC rfl (fun hc3 => ?_) (fun hc3 => ?_)
 ·replace H := if_t hc3 H
  refine zb (za (wd (zf rfl) (wd (zl rfl) (wd (zl rfl) (wd (zl rfl) (zd (zn ?_)))))))
  refine ⟨_, (rets4 (ze rfl) (ze rfl) (ze rfl) (ze rfl)), ?_⟩
  obtain rfl := Option.some.inj H
  exact ⟨rfl, S⟩
 replace H := if_f hc3 H
 refine zb (za (wd (zN rfl rfl) (wd (zl rfl) (zd ?_))))
 refine zC rfl (fun hc4 => ?_) (fun hc4 => ?_)
 ·replace H := if_t hc4 H
  refine zb (za (wd (zf rfl) (wd (zl rfl) (wd (zl rfl) (wd (zl rfl) (zd (zn ?_)))))))
  refine ⟨_, (rets4 (ze rfl) (ze rfl) (ze rfl) (ze rfl)), ?_⟩
  obtain rfl := Option.some.inj H
  exact ⟨rfl, S⟩
 replace H := if_f hc4 H
 refine zb (zb (za (wd (zN rfl rfl) (wd (zl rfl) (zd ?_)))))
 obtain ⟨o5, e5, Ho5⟩ := zp H
 replace H := e5; clear e5
 refine yT [15, 17, 18, 19, 20, 21] (fun fr W => fr 15 = .bool o5 ∧ St A N w W [] []) ?_ ?_
 ·refine zC rfl (fun hc6 => ?_) (fun hc6 => ?_)
  ·replace H := if_t hc6 H
   refine zt ?_
   obtain rfl := Option.some.inj H
   exact ⟨rfl, (Dif.refl _ _), rfl, S⟩
  ·replace H := if_f hc6 H
   refine zb (za (wd (zN rfl rfl) (wd (zl rfl) (zd ?_))))
   refine zC rfl (fun hc7 => ?_) (fun hc7 => ?_)
   ·replace H := if_t hc7 H
    refine zt ?_
    obtain rfl := Option.some.inj H
    exact ⟨rfl, (((Dif.refl _ _).upd rfl _).upd rfl _), rfl, S⟩
   ·replace H := if_f hc7 H
    refine zb (za (wd (zN rfl rfl) (wd (zl rfl) (zd ?_))))
    refine zC rfl (fun hc8 => ?_) (fun hc8 => ?_)
    ·replace H := if_t hc8 H
     refine zt ?_
     obtain rfl := Option.some.inj H
     exact ⟨rfl, (((((Dif.refl _ _).upd rfl _).upd rfl _).upd rfl _).upd rfl _), rfl, S⟩
    ·replace H := if_f hc8 H
     refine zb (za (wd (zN rfl rfl) (wd (zl rfl) (zd ?_))))
     refine zC rfl (fun hc9 => ?_) (fun hc9 => ?_)
     ·replace H := if_t hc9 H
      refine zt ?_
      obtain rfl := Option.some.inj H
      exact ⟨rfl, (((((((Dif.refl _ _).upd rfl _).upd rfl _).upd rfl _).upd rfl _).upd rfl _).upd rfl _), rfl, S⟩
     ·replace H := if_f hc9 H
      refine zb (za (wd (zN rfl rfl) (wd (zl rfl) (zd ?_))))
      refine zC rfl (fun hc10 => ?_) (fun hc10 => ?_)
      ·replace H := if_t hc10 H
       refine zt ?_
       obtain rfl := Option.some.inj H
       exact ⟨rfl, (((((((((Dif.refl _ _).upd rfl _).upd rfl _).upd rfl _).upd rfl _).upd rfl _).upd rfl _).upd rfl _).upd rfl _), rfl, S⟩
      ·replace H := if_f hc10 H
       refine za (wd (zN rfl rfl) (wd (zl rfl) (zd ?_)))
       obtain rfl := Option.some.inj H
       exact ⟨rfl, (((((((((((Dif.refl _ _).upd rfl _).upd rfl _).upd rfl _).upd rfl _).upd rfl _).upd rfl _).upd rfl _).upd rfl _).upd rfl _).upd rfl _), rfl, S⟩
 rintro g11 u12 ⟨p5_15, S⟩
 have H := Ho5
 refine zC p5_15 (fun hc13 => ?_) (fun hc13 => ?_)
 ·replace H := if_t hc13 H
  refine zb (za (wd (zf rfl) (wd (zl rfl) (wd (zl rfl) (wd (zl rfl) (zd (zn ?_)))))))
  refine ⟨_, (rets4 (ze rfl) (ze rfl) (ze rfl) (ze rfl)), ?_⟩
  obtain rfl := Option.some.inj H
  exact ⟨rfl, S⟩
 replace H := if_f hc13 H
 refine zb (zb (za (wd (zN rfl rfl) (wd (zl rfl) (zd ?_)))))
 refine zC rfl (fun hc14 => ?_) (fun hc14 => ?_)
 ·replace H := if_t hc14 H
  refine zt ?_
  refine zC rfl (fun hc15 => ?_) (fun hc15 => ?_)
  ·replace H := if_t hc15 H
   refine zb (za (wd (zf rfl) (wd (zl rfl) (wd (zl rfl) (wd (zl rfl) (zd (zn ?_)))))))
   refine ⟨_, (rets4 (ze rfl) (ze rfl) (ze rfl) (ze rfl)), ?_⟩
   obtain rfl := Option.some.inj H
   exact ⟨rfl, S⟩
  replace H := if_f hc15 H
  refine zt (zb (za (wd (zf rfl) (wd (zl rfl) (wd (zl rfl) (wd (zl rfl) (zd (zn ?_))))))))
  refine ⟨_, (rets4 (ze rfl) (ze rfl) (ze rfl) (ze rfl)), ?_⟩
  obtain rfl := Option.some.inj H
  exact ⟨rfl, S⟩
 ·replace H := if_f hc14 H
  refine za (wd (zN rfl rfl) (wd (zl rfl) (zd ?_)))
  refine zC rfl (fun hc16 => ?_) (fun hc16 => ?_)
  ·replace H := if_t hc16 H
   refine zb (za (wd (zf rfl) (wd (zl rfl) (wd (zl rfl) (wd (zl rfl) (zd (zn ?_)))))))
   refine ⟨_, (rets4 (ze rfl) (ze rfl) (ze rfl) (ze rfl)), ?_⟩
   obtain rfl := Option.some.inj H
   exact ⟨rfl, S⟩
  replace H := if_f hc16 H
  refine zt (zb (za (wd (zf rfl) (wd (zl rfl) (wd (zl rfl) (wd (zl rfl) (zd (zn ?_))))))))
  refine ⟨_, (rets4 (ze rfl) (ze rfl) (ze rfl) (ze rfl)), ?_⟩
  obtain rfl := Option.some.inj H
  exact ⟨rfl, S⟩
theorem term_named_st {A : Nat → Prop} {N : Oth} {w : World} {a0 : ByteArray} {a1 : Bool} (S : St A N w w [] []) {r : Bool} (H : term_named.f a0 a1 = some r) :
  Calls PP F_term_named #[.string a0, .bool a1] w fun e w' => ∃ v, e = .returned v ∧ (v = .bool r ∧ St A N w w' [] []) := by
 unfold term_named.f at H
 refine zw (n := 11) fn_term_named rfl rfl (by simp) (zb (za (wd (zl rfl) (zd (zb (zb (za (wd (zB rfl) ?_))))))))
 refine wd (xk rfl) (zd ?_)
 refine zC rfl (fun hc1 => ?_) (fun hc1 => ?_)
 ·replace H := if_t hc1 H
  refine zb (za (wd (x9 rfl) (wd (vu rfl rfl) (wd (zl rfl) (zd (zn ?_))))))
  refine ⟨_, (zS (ze rfl)), ?_⟩
  obtain rfl := Option.some.inj H
  exact ⟨rfl, S⟩
 replace H := if_f hc1 H
 refine zt (zb (za (wd (x9 rfl) ?_)))
 obtain ⟨r2, er2, H⟩ := zp H
 obtain ⟨B4, MB4, SB4, back⟩ := S.calln 0 ((.nil))
 refine zu (zo ca_formula_Word) (by decide) (formula_Word_st SB4 er2) ?_
 rintro _ w3 ⟨rfl, S2⟩
 replace S := back _ _ _ _ S2 rfl
 clear back S2 SB4
 refine wd (zl rfl) (zd (zn ?_))
 refine ⟨_, (zS (ze rfl)), ?_⟩
 obtain rfl := Option.some.inj H
 exact ⟨rfl, S⟩
theorem term_deep_gst {rec_term_deep : PTerm → Int → Option Int} (hrec_term_deep : ∀ {A : Nat → Prop} {N : Oth} {w : World} {a0 : PTerm} {s_0 : SlV} {a1 : Int} (S : St A N w w [] [xb s_0 a0.sub]) {r : Int} (H : rec_term_deep a0 a1 = some r), Calls PP kg #[.agg (Term.C (⟨a0.kind, a0.name, a0.other, a0.form, s_0⟩ : Term)).toArray, .int .i64 a1] w fun e w' => ∃ v, e = .returned v ∧ (v = .int .i64 r ∧ St A N w w' [] [])) {A : Nat → Prop} {N : Oth} {w : World} {a0 : PTerm} {s_0 : SlV} {a1 : Int} (S : St A N w w [] [xb s_0 a0.sub]) {k : Nat} {r : Int} (H : term_deep.g rec_term_deep k a0 a1 = some r) :
  Calls PP kg #[.agg (Term.C (⟨a0.kind, a0.name, a0.other, a0.form, s_0⟩ : Term)).toArray, .int .i64 a1] w fun e w' => ∃ v, e = .returned v ∧ (v = .int .i64 r ∧ St A N w w' [] []) := by
 unfold term_deep.g at H
 refine zw (n := 35) fn_term_deep rfl rfl (by simp) (zb (za ?_))
 refine zJ rfl (by decide) fun b2 w1 hw1 => ?_
 replace S := S.new hw1
 refine wd (zf rfl) (zd (zb (zb (za (wd (zh rfl) (wd (zao rfl rfl) (zd ?_)))))))
 refine zC rfl (fun hc3 => ?_) (fun hc3 => ?_)
 ·replace H := if_t hc3 H
  refine zb (za (wd (zh rfl) (wd (zf rfl) (zd (zn ?_)))))
  refine ⟨_, (zS (ze rfl)), ?_⟩
  replace S := S.arr [] []
  obtain rfl := Option.some.inj H
  exact ⟨rfl, S⟩
 replace H := if_f hc3 H
 refine zt (zb (za (wd (zf rfl) (zd (zb (zb (za (wd (zf rfl) (zd ?_)))))))))
 obtain ⟨o4, e4, Ho4⟩ := zp H
 clear H
 refine yT [5, 6, 10, 11, 12, 13, 14, 15, 16, 17, 18, 19, 20, 21, 22, 23, 24, 25, 26, 27, 28, 29, 30, 31, 32] (fun fr W => ∃ s4 : Int × Int, o4 = .inl s4 ∧ fr 5 = .int .i64 s4.1 ∧ fr 6 = .int .i64 s4.2 ∧ St A N w W [oB b2 xP (Term.C (⟨a0.kind, a0.name, a0.other, a0.form, s_0⟩ : Term))] [xb s_0 a0.sub]) ?_ ?_
 ·refine zF ?_
  refine yp (α := Nat × (Int × Int)) [5, 6, 10, 11, 12, 13, 14, 15, 16, 17, 18, 19, 20, 21, 22, 23, 24, 25, 26, 27, 28, 29, 30, 31, 32] (fun x fr W => iter (fun s => term_deep.b0 a0 a1 rec_term_deep s.1 s.2) x.1 x.2 = some o4 ∧ fr 5 = .int .i64 (x.2.1) ∧ fr 6 = .int .i64 (x.2.2) ∧ St A N w W [oB b2 xP (Term.C (⟨a0.kind, a0.name, a0.other, a0.form, s_0⟩ : Term))] [xb s_0 a0.sub]) (fun x => x.1) (k, (0, 0)) ⟨(by dsimp only; exact e4), rfl, rfl, S⟩ ?_
  rintro ⟨m4, ⟨x4_0, x4_1⟩⟩ g4 u4 ⟨e4, q4_5, q4_6, S⟩
  try dsimp only at e4
  try dsimp only at S
  try dsimp only at q4_5
  try dsimp only at q4_6
  obtain ⟨m4, rfl⟩ : ∃ m, m4 = m + 1 := ⟨m4 - 1, by cases m4 with | zero => cases e4 | succ m => rfl⟩
  obtain ⟨q4, H, e4⟩ := iter_s e4
  unfold term_deep.b0 at H
  try dsimp only at H
  refine zb (zb (za (wd (zh q4_6) (wd (zi ud rfl (o' := 4) rfl) (wd (zm vi rfl ((S.blk 0).cell (Term.get_sub _))) (wd (does_lenF xL rfl (S.onZ 0)) (wd (xm rfl rfl) ?_)))))))
  refine wd (zB rfl) ?_
  refine wg (fun hg => zh q4_5) ?_
  refine wg (fun hg => zh rfl) ?_
  refine wg (fun hg => zbg (zq hg) rfl) ?_
  refine wg (fun hg => xm (zq hg) (zq hg)) (wd (xe rfl (fun hp => (zq (xF hp)))) (zd ?_))
  refine zC rfl (fun hc5 => ?_) (fun hc5 => ?_)
  rotate_left
  ·replace H := if_f hc5 H
   refine yf ?_
   obtain rfl := Option.some.inj H
   exact ⟨rfl, ((((((((((((Dif.self _ _ _).upd rfl _).upd rfl _).upd rfl _).upd rfl _).upd rfl _).upd rfl _).upd rfl _).upd rfl _).upd rfl _).upd rfl _).upd rfl _), (x4_0, x4_1), e4, q4_5, q4_6, S⟩
  replace H := if_t hc5 H
  refine zt (zb ?_)
  refine zF (za (wd (zh q4_5) (wd (zi ud rfl (o' := 4) rfl) (wd (zm vi rfl ((S.blk 0).cell (Term.get_sub _))) (wd (zh q4_6) ?_)))))
  obtain ⟨hi6, H⟩ := xK H
  refine wd (does_indexF xL rfl rfl (S.onZ 0) (xv hi6).1 (xv hi6).2) ?_
  obtain ⟨s7, hc8, S⟩ := S.viewTerm 0 (xv hi6)
  replace S := S
  refine wd (zj xn rfl hc8 (Term.len _)) (wd (zh rfl) (wd (zbg rfl rfl) ?_))
  obtain ⟨r9, er9, H⟩ := zp H
  obtain ⟨B11, MB11, SB11, back⟩ := S.calln 0 ((.z 0 rfl .nil))
  refine zu (zo ca_term_deep) (by decide) (hrec_term_deep (a0 := (at_ PTerm.z a0.sub x4_1)) SB11 er9) ?_
  rintro _ w10 ⟨rfl, S2⟩
  replace S := back _ _ _ _ S2 rfl
  clear back S2 SB11
  refine wd (does_max rfl rfl) (wd (zf rfl) (zd (za (wd (zh q4_6) (wd (does_add rfl rfl) ?_)))))
  refine wd (zf rfl) (zd ?_)
  replace S := S.arr [0] [1]
  obtain rfl := Option.some.inj H
  exact ⟨rfl, ((((((((((((((((((((((((((Dif.self _ _ _).upd rfl _).upd rfl _).upd rfl _).upd rfl _).upd rfl _).upd rfl _).upd rfl _).upd rfl _).upd rfl _).upd rfl _).upd rfl _).upd rfl _).upd rfl _).upd rfl _).upd rfl _).upd rfl _).upd rfl _).upd rfl _).upd rfl _).upd rfl _).upd rfl _).upd rfl _).upd rfl _).upd rfl _).upd rfl _), (m4, ((if x4_0 < r9 then r9 else x4_0), IntKind.i64.wrap (x4_1 + 1))), ⟨e4, rfl, rfl, S⟩, by dsimp only; omega⟩
 rintro g12 u13 ⟨s4, rfl, p4_5, p4_6, S⟩
 have H := Ho4
 dsimp only [aft] at H
 refine zb (za (wd (zh p4_5) (wd (does_add rfl rfl) (wd (zf rfl) (zd (zn ?_))))))
 refine ⟨_, (zS (ze rfl)), ?_⟩
 replace S := S.arr [] []
 obtain rfl := Option.some.inj H
 exact ⟨rfl, S⟩
theorem term_deep_st {A : Nat → Prop} {N : Oth} {w : World} {a0 : PTerm} {s_0 : SlV} {a1 : Int} (S : St A N w w [] [xb s_0 a0.sub]) {k : Nat} {r : Int} (H : term_deep.f k a0 a1 = some r) :
  Calls PP kg #[.agg (Term.C (⟨a0.kind, a0.name, a0.other, a0.form, s_0⟩ : Term)).toArray, .int .i64 a1] w fun e w' => ∃ v, e = .returned v ∧ (v = .int .i64 r ∧ St A N w w' [] []) := by
 have main : ∀ (k : Nat) {A : Nat → Prop} {N : Oth} {w : World} {a0 : PTerm} {s_0 : SlV} {a1 : Int} (S : St A N w w [] [xb s_0 a0.sub]) {r : Int} (H : term_deep.f k a0 a1 = some r), Calls PP kg #[.agg (Term.C (⟨a0.kind, a0.name, a0.other, a0.form, s_0⟩ : Term)).toArray, .int .i64 a1] w fun e w' => ∃ v, e = .returned v ∧ (v = .int .i64 r ∧ St A N w w' [] []) := by
  intro k
  induction k with
  | zero => intro A N w a0 s_0 a1 S r H; cases H
  | succ k ih => intro A N w a0 s_0 a1 S r H; exact term_deep_gst ih S H
 exact main k S H
theorem term_Deep_st {A : Nat → Prop} {N : Oth} {w : World} {a0 : PTerm} {s_0 : SlV} (S : St A N w w [] [xb s_0 a0.sub]) {k : Nat} {r : Int} (H : term_Deep.f k a0 = some r) :
  Calls PP F_term_Deep #[.agg (Term.C (⟨a0.kind, a0.name, a0.other, a0.form, s_0⟩ : Term)).toArray] w fun e w' => ∃ v, e = .returned v ∧ (v = .int .i64 r ∧ St A N w w' [] []) := by
 unfold term_Deep.f at H
 refine zw (n := 5) fn_term_Deep rfl rfl (by simp) (zb (za ?_))
 refine zJ rfl (by decide) fun b2 w1 hw1 => ?_
 replace S := S.new hw1
 refine wd (zf rfl) (zd (zb (za (wd (zj xn rfl ((S.blk 0).all _ (Term.len _)) (Term.len _)) ?_))))
 obtain ⟨r3, er3, H⟩ := zp H
 obtain ⟨B5, MB5, SB5, back⟩ := S.calln 0 ((.z 0 rfl .nil))
 refine zu (zo ca_term_deep) (by decide) (term_deep_st (a0 := a0) SB5 er3) ?_
 rintro _ w4 ⟨rfl, S2⟩
 replace S := back _ _ _ _ S2 rfl
 clear back S2 SB5
 refine wd (zf rfl) (zd (zn ?_))
 refine ⟨_, (zS (ze rfl)), ?_⟩
 replace S := S.arr [] []
 obtain rfl := Option.some.inj H
 exact ⟨rfl, S⟩
end Go.Proofs.YtjebgcoknpcadaaGreatDoor
end
section
namespace Go.Proofs.YtjebgcoknpcadaaGreatDoor
open Gw Go.RowKit
set_option maxHeartbeats 4000000
set_option maxRecDepth 20000
theorem term_right_1_gst {rec_term_right : PTerm → Option Bool} (hrec_term_right : ∀ {A : Nat → Prop} {N : Oth} {w : World} {a0 : PTerm} {s_0 : SlV} (S : St A N w w [] [xb s_0 a0.sub]) {r : Bool} (H : rec_term_right a0 = some r), Calls PP vL #[.agg (Term.C (⟨a0.kind, a0.name, a0.other, a0.form, s_0⟩ : Term)).toArray] w fun e w' => ∃ v, e = .returned v ∧ (v = .bool r ∧ St A N w w' [] [])) {A : Nat → Prop} {N : Oth} {w : World} {a0 : PTerm} {s_0 : SlV} (S : St A N w w [] [xb s_0 a0.sub]) {r : Bool} (H : term_right_1.g rec_term_right a0 = some r) :
  Calls PP jP #[.agg (Term.C (⟨a0.kind, a0.name, a0.other, a0.form, s_0⟩ : Term)).toArray] w fun e w' => ∃ v, e = .returned v ∧ (v = .bool r ∧ St A N w w' [] []) := by
 unfold term_right_1.g at H
 refine zw (n := 6) fn_term_right_1 rfl rfl (by simp) (zb (za ?_))
 refine zJ rfl (by decide) fun b2 w1 hw1 => ?_
 replace S := S.new hw1
 refine wd (zl rfl) (zd (zb (za (wd (zj xn rfl ((S.blk 0).all _ (Term.len _)) (Term.len _)) ?_))))
 obtain ⟨r3, er3, H⟩ := zp H
 obtain ⟨B5, MB5, SB5, back⟩ := S.calln 0 ((.z 0 rfl .nil))
 refine zu (zo ca_term_right) (by decide) (hrec_term_right (a0 := a0) SB5 er3) ?_
 rintro _ w4 ⟨rfl, S2⟩
 replace S := back _ _ _ _ S2 rfl
 clear back S2 SB5
 refine wd (xk rfl) (wd (zl rfl) (zd (zn ?_)))
 refine ⟨_, (zS (ze rfl)), ?_⟩
 replace S := S.arr [] []
 obtain rfl := Option.some.inj H
 exact ⟨rfl, S⟩
theorem vf {rec_term_right : PTerm → Option Bool} (hrec_term_right : ∀ {A : Nat → Prop} {N : Oth} {w : World} {a0 : PTerm} {s_0 : SlV} (S : St A N w w [] [xb s_0 a0.sub]) {r : Bool} (H : rec_term_right a0 = some r), Calls PP vL #[.agg (Term.C (⟨a0.kind, a0.name, a0.other, a0.form, s_0⟩ : Term)).toArray] w fun e w' => ∃ v, e = .returned v ∧ (v = .bool r ∧ St A N w w' [] [])) {A : Nat → Prop} {N : Oth} {w : World} {a0 : List PTerm} {s_0 : SlV} (S : St A N w w [] [xb s_0 a0]) {r : Int} (H : slices_IndexFunc_api_Term_api_Term__term_right_1.g rec_term_right a0 = some r) :
  Calls PP y9 #[s_0.v, .func (.func jP) #[] #[]] w fun e w' => ∃ v, e = .returned v ∧ (v = .int .i64 r ∧ St A N w w' [] []) := by
 unfold slices_IndexFunc_api_Term_api_Term__term_right_1.g at H
 refine zw (n := 19) uP rfl rfl (by simp) (zb (za (wd (zf rfl) (zd (zb (zb (za (wd (zR rfl) ?_))))))))
 refine wd (does_lenF xL rfl (S.onZ 0)) (wd (zh rfl) (zd ?_))
 obtain ⟨o1, e1, Ho1⟩ := zp H
 clear H
 refine yT [4, 5, 8, 9, 10, 11, 12, 13, 14, 15, 16, 17, 18] (fun fr W => ∃ s1 : Unit, o1 = .inl s1 ∧ St A N w W [] [xb s_0 a0]) ?_ ?_
 ·refine zF ?_
  refine yp (α := Nat × Int × Unit) [4, 5, 8, 9, 10, 11, 12, 13, 14, 15, 16, 17, 18] (fun x fr W => (x.1 : Int) = (a0.length : Int) - x.2.1 ∧ 0 ≤ x.2.1 ∧ forN (fun i s => slices_IndexFunc_api_Term_api_Term__term_right_1.b0 rec_term_right a0 i) x.1 x.2.1 x.2.2 = some o1 ∧ fr 8 = .int .i64 x.2.1 ∧ St A N w W [] [xb s_0 a0]) (fun x => x.1) (((a0.length : Int) - 0).toNat, 0, ()) ⟨(by dsimp only; have hle := Int.natCast_nonneg (a0.length); omega), (Int.le_refl _), (by dsimp only; exact e1), rfl, S⟩ ?_
  rintro ⟨m1, i1, _⟩ g1 u1 ⟨hm1, hl1, e1, q1_i, S⟩
  try dsimp only at hm1
  try dsimp only at hl1
  try dsimp only at e1
  try dsimp only at S
  try dsimp only at q1_i
  refine zb (za (wd (xm q1_i rfl) (zd (zb ?_))))
  refine zC rfl (fun hc2 => ?_) (fun hc2 => ?_)
  rotate_left
  ·refine yf ?_
   have hge : (a0.length : Int) ≤ i1 := Int.not_lt.1 (of_decide_eq_false hc2)
   obtain rfl : m1 = 0 := by omega
   replace e1 := zaG e1
   exact ⟨rfl, ((Dif.self _ _ _).upd rfl _), (), e1, S⟩
  refine zt ?_
  have hlt1 : i1 < (a0.length : Int) := of_decide_eq_true hc2
  obtain ⟨m1, rfl⟩ : ∃ m, m1 = m + 1 := ⟨m1 - 1, by omega⟩
  obtain ⟨q1, H, e1⟩ := zay e1
  unfold slices_IndexFunc_api_Term_api_Term__term_right_1.b0 at H
  try dsimp only at H
  have hb1 := (S.lenFZ 0)
  refine zb ?_
  refine zF (zb (za (wd (zh q1_i) (wd (zf rfl) (zd (zb (za ?_)))))))
  refine wd (yY rfl) (wd (zR rfl) (wd (zh rfl) (wd (does_indexF xL rfl rfl (S.onZ 0) (And.intro (show 0 ≤ i1 by omega) (show i1 < (a0.length : Int) from hlt1)).1 (And.intro (show 0 ≤ i1 by omega) (show i1 < (a0.length : Int) from hlt1)).2) ?_)))
  obtain ⟨s4, hc5, S⟩ := S.viewTerm 0 (And.intro (show 0 ≤ i1 by omega) (show i1 < (a0.length : Int) from hlt1))
  replace S := S
  refine wd (zj xn rfl hc5 (Term.len _)) ?_
  obtain ⟨r6, er6, H⟩ := zp H
  obtain ⟨B8, MB8, SB8, back⟩ := S.calln 0 ((.z 0 rfl .nil))
  refine zu (ye ca_term_right_1 rfl) (by decide) (term_right_1_gst hrec_term_right (a0 := (at_ PTerm.z a0 i1)) SB8 er6) ?_
  rintro _ w7 ⟨rfl, S2⟩
  replace S := back _ _ _ _ S2 rfl
  clear back S2 SB8
  refine zd ?_
  refine zC rfl (fun hc9 => ?_) (fun hc9 => ?_)
  ·replace H := if_t hc9 H
   refine zb (za (wd (zh rfl) (wd (zf rfl) (zd (zn ?_)))))
   refine ⟨_, (zS (ze rfl)), ?_⟩
   replace S := S.arr [] []
   obtain rfl := Option.some.inj H
   obtain rfl := e1
   obtain rfl := uV Ho1
   exact ⟨rfl, S⟩
  replace H := if_f hc9 H
  refine zt (za (wd (xg q1_i rfl (c := i1 + 1) rfl (by omega) (by omega)) (wd (zh rfl) (zd ?_))))
  replace S := S.arr [] [1]
  obtain rfl := Option.some.inj H
  exact ⟨rfl, ((((((((((((Dif.self _ _ _).upd rfl _).upd rfl _).upd rfl _).upd rfl _).upd rfl _).upd rfl _).upd rfl _).upd rfl _).upd rfl _).upd rfl _).upd rfl _), (m1, i1 + 1, ()), ⟨(by dsimp only; omega), (by dsimp only; omega), e1, rfl, S⟩, by dsimp only; omega⟩
 rintro g10 u11 ⟨s1, rfl, S⟩
 have H := Ho1
 dsimp only [aft] at H
 refine zb (za (wd (zf rfl) (zd (zn ?_))))
 refine ⟨_, (zS (ze rfl)), ?_⟩
 replace S := S.arr [] []
 obtain rfl := Option.some.inj H
 exact ⟨rfl, S⟩
theorem y6 {rec_term_right : PTerm → Option Bool} (hrec_term_right : ∀ {A : Nat → Prop} {N : Oth} {w : World} {a0 : PTerm} {s_0 : SlV} (S : St A N w w [] [xb s_0 a0.sub]) {r : Bool} (H : rec_term_right a0 = some r), Calls PP vL #[.agg (Term.C (⟨a0.kind, a0.name, a0.other, a0.form, s_0⟩ : Term)).toArray] w fun e w' => ∃ v, e = .returned v ∧ (v = .bool r ∧ St A N w w' [] [])) {A : Nat → Prop} {N : Oth} {w : World} {a0 : List PTerm} {s_0 : SlV} (S : St A N w w [] [xb s_0 a0]) {r : Bool} (H : slices_ContainsFunc_api_Term_api_Term__term_right_1.g rec_term_right a0 = some r) :
  Calls PP y0 #[s_0.v, .func (.func jP) #[] #[]] w fun e w' => ∃ v, e = .returned v ∧ (v = .bool r ∧ St A N w w' [] []) := by
 unfold slices_ContainsFunc_api_Term_api_Term__term_right_1.g at H
 refine zw (n := 9) uy rfl rfl (by simp) (zb (za (wd (zl rfl) (zd (zb (za (wd (zR rfl) ?_)))))))
 refine wd (yY rfl) ?_
 obtain ⟨r1, er1, H⟩ := zp H
 obtain ⟨B3, MB3, SB3, back⟩ := S.calln 0 ((.z 0 rfl .nil))
 refine zu (zo uT) (by decide) (vf hrec_term_right SB3 er1) ?_
 rintro _ w2 ⟨rfl, S2⟩
 replace S := back _ _ _ _ S2 rfl
 clear back S2 SB3
 refine wd (vz rfl rfl) (wd (zl rfl) (zd (zn ?_)))
 refine ⟨_, (zS (ze rfl)), ?_⟩
 replace S := S.arr [] []
 obtain rfl := Option.some.inj H
 exact ⟨rfl, S⟩
theorem term_right_gst {rec_term_right : PTerm → Option Bool} (hrec_term_right : ∀ {A : Nat → Prop} {N : Oth} {w : World} {a0 : PTerm} {s_0 : SlV} (S : St A N w w [] [xb s_0 a0.sub]) {r : Bool} (H : rec_term_right a0 = some r), Calls PP vL #[.agg (Term.C (⟨a0.kind, a0.name, a0.other, a0.form, s_0⟩ : Term)).toArray] w fun e w' => ∃ v, e = .returned v ∧ (v = .bool r ∧ St A N w w' [] [])) {A : Nat → Prop} {N : Oth} {w : World} {a0 : PTerm} {s_0 : SlV} (S : St A N w w [] [xb s_0 a0.sub]) {r : Bool} (H : term_right.g rec_term_right a0 = some r) :
  Calls PP vL #[.agg (Term.C (⟨a0.kind, a0.name, a0.other, a0.form, s_0⟩ : Term)).toArray] w fun e w' => ∃ v, e = .returned v ∧ (v = .bool r ∧ St A N w w' [] []) := by
 unfold term_right.g at H
 refine zw (n := 60) fn_term_right rfl rfl (by simp) (zb (za ?_))
 refine zJ rfl (by decide) fun b2 w1 hw1 => ?_
 replace S := S.new hw1
 refine wd (zl rfl) (zd (zb (za (wd (zi jC rfl (o' := 0) rfl) (wd (zm uq rfl ((S.blk 0).cell (Term.get_kind _))) ?_)))))
 obtain ⟨r3, er3, H⟩ := zp H
 obtain ⟨B5, MB5, SB5, back⟩ := S.calln 0 ((.nil))
 refine zu (zo ca_term_shape) (by decide) (term_shape_st SB5 er3) ?_
 rintro _ w4 ⟨rfl, S2⟩
 replace S := back _ _ _ _ S2 rfl
 clear back S2 SB5
 refine wd (zK rfl) (wd (zk rfl rfl) (wd (zk rfl rfl) (wd (zk rfl rfl) (wd (zk rfl rfl) (wd (zf rfl) ?_)))))
 refine wd (zl rfl) (wd (zl rfl) (wd (zl rfl) (zd (zb (zb (za (wd (zB rfl) ?_)))))))
 refine wd (xk rfl) (wd (zB rfl) ?_)
 refine wg (fun hg => zi ud rfl (o' := 4) rfl) ?_
 refine wg (fun hg => zm vi (zq hg) ((S.blk 0).cell (Term.get_sub _))) ?_
 refine wg (fun hg => does_lenF xL (zq hg) (S.onZ 0)) ?_
 refine wg (fun hg => zh rfl) ?_
 refine wg (fun hg => xc (zq hg) (zq hg)) (wd (xU rfl (fun hp => (zq (xF hp)))) (wd (zB rfl) ?_))
 refine wg (fun hg => zi uk rfl (o' := 1) rfl) ?_
 refine wg (fun hg => zm xY (zq hg) ((S.blk 0).cell (Term.get_name _))) ?_
 refine wg (fun hg => zB rfl) ?_
 obtain ⟨r6, er6, H⟩ := zp H
 refine yI (j := 9) (pol := false) rfl rfl rfl (by decide) (fun hg => zM ca_term_named (zO (zq hg) (zO (zq hg) rfl))) (by decide) (fun hg => (have ⟨M, SS⟩ := S.lend ((.nil)); quiet (term_named_st SS (if_t (by simpa using hg) er6)) (fun v w' h => ⟨h.1, _, _, h.2⟩))) fun w7 hw7 => ?_
 replace S := S.ext hw7
 refine wg (fun hg => xk (zq hg)) (wd (xU rfl (fun hp => (zq (xF hp)))) (wd (zB rfl) ?_))
 refine wg (fun hg => zi zaH rfl (o' := 2) rfl) ?_
 refine wg (fun hg => zm xY (zq hg) ((S.blk 0).cell (Term.get_other _))) ?_
 refine wg (fun hg => zB rfl) ?_
 obtain ⟨r8, er8, H⟩ := zp H
 refine yI (j := 16) (pol := false) rfl rfl rfl (by decide) (fun hg => zM ca_term_named (zO (zq hg) (zO (zq hg) rfl))) (by decide) (fun hg => (have ⟨M, SS⟩ := S.lend ((.nil)); quiet (term_named_st SS (if_t (by simpa using hg) er8)) (fun v w' h => ⟨h.1, _, _, h.2⟩))) fun w9 hw9 => ?_
 replace S := S.ext hw9
 refine wg (fun hg => xk (zq hg)) (wd (xU rfl (fun hp => (zq (xF hp)))) (zd ?_))
 refine zC rfl (fun hc10 => ?_) (fun hc10 => ?_)
 ·replace H := if_t hc10 H
  refine zb (za (wd (zl rfl) (zd (zn ?_))))
  refine ⟨_, (zS (ze rfl)), ?_⟩
  replace S := S.arr [] []
  obtain rfl := Option.some.inj H
  exact ⟨rfl, S⟩
 replace H := if_f hc10 H
 refine zt (zb (zb (za (wd (zi jC rfl (o' := 0) rfl) (wd (zm uq rfl ((S.blk 0).cell (Term.get_kind _))) (wd (xc rfl rfl) (wd (zB rfl) ?_)))))))
 refine wg (fun hg => zi uQ rfl (o' := 3) rfl) ?_
 refine wg (fun hg => zm zQ (zq hg) ((S.blk 0).cell (Term.get_form _))) ?_
 refine wg (fun hg => xc (zq hg) rfl) (wd (xe rfl (fun hp => (zq (xF hp)))) (wd (zB rfl) ?_))
 refine wg (fun hg => zi uQ rfl (o' := 3) rfl) ?_
 refine wg (fun hg => zm zQ (zq hg) ((S.blk 0).cell (Term.get_form _))) ?_
 refine wg (fun hg => xm (zq hg) rfl) (wd (xU rfl (fun hp => (zq (xF hp)))) (wd (zB rfl) ?_))
 refine wg (fun hg => zi uQ rfl (o' := 3) rfl) ?_
 refine wg (fun hg => zm zQ (zq hg) ((S.blk 0).cell (Term.get_form _))) ?_
 refine wg (fun hg => vz (zq hg) rfl) (wd (xU rfl (fun hp => (zq (xF hp)))) (zd ?_))
 refine zC rfl (fun hc11 => ?_) (fun hc11 => ?_)
 ·replace H := if_t hc11 H
  refine zb (za (wd (zl rfl) (zd (zn ?_))))
  refine ⟨_, (zS (ze rfl)), ?_⟩
  replace S := S.arr [] []
  obtain rfl := Option.some.inj H
  exact ⟨rfl, S⟩
 replace H := if_f hc11 H
 refine zt (zb (za (wd (zi ud rfl (o' := 4) rfl) (wd (zm vi rfl ((S.blk 0).cell (Term.get_sub _))) ?_))))
 obtain ⟨r12, er12, H⟩ := zp H
 obtain ⟨B14, MB14, SB14, back⟩ := S.calln 0 ((.z 0 rfl .nil))
 refine zu (zo uv) (by decide) (y6 hrec_term_right SB14 er12) ?_
 rintro _ w13 ⟨rfl, S2⟩
 replace S := back _ _ _ _ S2 rfl
 clear back S2 SB14
 refine wd (xk rfl) (wd (zl rfl) (zd (zn ?_)))
 refine ⟨_, (zS (ze rfl)), ?_⟩
 replace S := S.arr [] []
 obtain rfl := Option.some.inj H
 exact ⟨rfl, S⟩
theorem term_right_st {A : Nat → Prop} {N : Oth} {w : World} {a0 : PTerm} {s_0 : SlV} (S : St A N w w [] [xb s_0 a0.sub]) {k : Nat} {r : Bool} (H : term_right.f k a0 = some r) :
  Calls PP vL #[.agg (Term.C (⟨a0.kind, a0.name, a0.other, a0.form, s_0⟩ : Term)).toArray] w fun e w' => ∃ v, e = .returned v ∧ (v = .bool r ∧ St A N w w' [] []) := by
 have main : ∀ (k : Nat) {A : Nat → Prop} {N : Oth} {w : World} {a0 : PTerm} {s_0 : SlV} (S : St A N w w [] [xb s_0 a0.sub]) {r : Bool} (H : term_right.f k a0 = some r), Calls PP vL #[.agg (Term.C (⟨a0.kind, a0.name, a0.other, a0.form, s_0⟩ : Term)).toArray] w fun e w' => ∃ v, e = .returned v ∧ (v = .bool r ∧ St A N w w' [] []) := by
  intro k
  induction k with
  | zero => intro A N w a0 s_0 S r H; cases H
  | succ k ih => intro A N w a0 s_0 S r H; exact term_right_gst ih S H
 exact main k S H
theorem term_Check_st {A : Nat → Prop} {N : Oth} {w : World} {a0 : PTerm} {s_0 : SlV} (S : St A N w w [] [xb s_0 a0.sub]) {k : Nat} {r : Int} (H : term_Check.f k a0 = some r) :
  Calls PP F_term_Check #[.agg (Term.C (⟨a0.kind, a0.name, a0.other, a0.form, s_0⟩ : Term)).toArray] w fun e w' => ∃ v, e = .returned v ∧ (v = .int .i64 r ∧ St A N w w' [] []) := by
 unfold term_Check.f at H
 refine zw (n := 16) fn_term_Check rfl rfl (by simp) (zb (za ?_))
 refine zJ rfl (by decide) fun b2 w1 hw1 => ?_
 replace S := S.new hw1
 refine wd (zf rfl) (zd (zb ?_))
 refine zF (zb (za (wd (zj xn rfl ((S.blk 0).all _ (Term.len _)) (Term.len _)) ?_)))
 obtain ⟨r3, er3, H⟩ := zp H
 obtain ⟨B5, MB5, SB5, back⟩ := S.calln 0 ((.z 0 rfl .nil))
 refine zu (zo ca_term_Size) (by decide) (term_Size_st (a0 := a0) SB5 er3) ?_
 rintro _ w4 ⟨rfl, S2⟩
 replace S := back _ _ _ _ S2 rfl
 clear back S2 SB5
 refine wd (does_gt rfl rfl) (wd (zB rfl) ?_)
 refine wg (fun hg => zj xn rfl ((S.blk 0).all _ (Term.len _)) (Term.len _)) ?_
 obtain ⟨r6, er6, H⟩ := zp H
 refine yI (j := 3) (pol := false) rfl rfl rfl (by decide) (fun hg => zM ca_term_Deep (zO (zq hg) rfl)) (by decide) (fun hg => (have ⟨M, SS⟩ := S.lend ((.z 0 rfl .nil)); quiet (term_Deep_st (a0 := a0) SS (if_t (by simpa using hg) er6)) (fun v w' h => ⟨h.1, _, _, h.2⟩))) fun w7 hw7 => ?_
 replace S := S.ext hw7
 refine wg (fun hg => does_gt (zq hg) rfl) (wd (xU rfl (fun hp => (zq (xF hp)))) (wd (zl rfl) (zd ?_)))
 refine zC rfl (fun hc8 => ?_) (fun hc8 => ?_)
 ·replace H := if_t hc8 H
  refine zb (za (wd (zf rfl) (zd (zn ?_))))
  refine ⟨_, (zS (ze rfl)), ?_⟩
  replace S := S.arr [] []
  obtain rfl := Option.some.inj H
  exact ⟨rfl, S⟩
 replace H := if_f hc8 H
 refine zb (za (wd (zj xn rfl ((S.blk 0).all _ (Term.len _)) (Term.len _)) ?_))
 obtain ⟨r9, er9, H⟩ := zp H
 obtain ⟨B11, MB11, SB11, back⟩ := S.calln 0 ((.z 0 rfl .nil))
 refine zu (zo ca_term_right) (by decide) (term_right_st (a0 := a0) SB11 er9) ?_
 rintro _ w10 ⟨rfl, S2⟩
 replace S := back _ _ _ _ S2 rfl
 clear back S2 SB11
 refine wd (xk rfl) (wd (zl rfl) (zd ?_))
 refine zC rfl (fun hc12 => ?_) (fun hc12 => ?_)
 ·replace H := if_t hc12 H
  refine zb (za (wd (zf rfl) (zd (zn ?_))))
  refine ⟨_, (zS (ze rfl)), ?_⟩
  replace S := S.arr [] []
  obtain rfl := Option.some.inj H
  exact ⟨rfl, S⟩
 replace H := if_f hc12 H
 refine zt (zb (za (wd (zf rfl) (zd (zn ?_)))))
 refine ⟨_, (zS (ze rfl)), ?_⟩
 replace S := S.arr [] []
 obtain rfl := Option.some.inj H
 exact ⟨rfl, S⟩
end Go.Proofs.YtjebgcoknpcadaaGreatDoor
end
section
namespace Go.Proofs.YtjebgcoknpcadaaGreatDoor
open Gw Go.RowKit
set_option maxHeartbeats 4000000
set_option maxRecDepth 20000
theorem types_at_st {A : Nat → Prop} {N : Oth} {w : World} {a0 : Int} {a1 : Option (Int × List Int)} {v_1 : Value} (S : St A N w w [oE v_1 a1] [oEt]) {r : (Option (Int × List Int))} (H : types_at.f a0 a1 = some r) :
  Calls PP F_types_at #[.int .i64 a0, v_1] w fun e w' => ∃ v, e = .returned v ∧ (∃ vo0 : Value, v = vo0 ∧ St A N w w' [oE vo0 r] []) := by
 unfold types_at.f at H
 refine zw (n := 20) fn_types_at rfl rfl (by simp) ?_
 rcases a1 with _ | ⟨c0, up0⟩
 ·obtain rfl := S.seeE 0
  replace S := S
  refine zb (za (wd (zA rfl) (zd (zb (za ?_)))))
  refine zP ug (by decide) fun b2 w1 hw1 => ?_
  replace S := S.new hw1
  refine zd (zb (zb (za (wd (zW rfl) (wd (does_mkIface (by kernel_rfl) rfl) ?_)))))
  refine zu (zM kC (zO rfl (zO rfl rfl))) (by decide) (errors_As_no _ _) ?_
  rintro _ w3 ⟨rfl, hx⟩
  replace S := S.ext hx
  clear hx
  refine zd ?_
  refine uH rfl (zt (zb (za (wd (zW rfl) (wd (zA rfl) (zd (zn ?_)))))))
  refine ⟨_, (zS (ze rfl)), ?_⟩
  replace S := S.arr [1] []
  obtain rfl := Option.some.inj H
  exact ⟨.nilIface, rfl, S⟩
 ·obtain ⟨b0, s0, rfl, S⟩ := S.openE 0
  replace S := S
  refine zb (za (wd (zA rfl) (zd (zb (za ?_)))))
  refine zP ug (by decide) fun b6 w5 hw5 => ?_
  replace S := S.new hw5
  refine zd (zb (zb (za (wd (zW rfl) (wd (does_mkIface (by kernel_rfl) rfl) ?_)))))
  refine zu (zM kC (zO rfl (zO rfl rfl))) (by decide) (errors_As_yes _ (S.et 0) (S.blk 0)) ?_
  rintro _ w7 ⟨rfl, hc, hb⟩
  replace S := S.store 0 hb hc
  clear hc hb
  refine zd ?_
  refine vI rfl ?_
  obtain ⟨ha9, H⟩ := xK H
  have ha9 := of_decide_eq_true ha9
  have hSO := S.sl 2
  have hSlt := hSO.lt
  have SH : ∀ v, Chg s0.fp w7 v → St A (N.or s0.fp) w v [oB b6 T_P_types_refusal [.pointer (some ⟨b0, 0, none⟩)], oB b0 kM (Refusal.C (⟨c0, s0⟩ : Refusal))] [oEt] := fun v hc => S.away 2 (hc := hc)
  refine wc_draw 8 ⟨fun L v => Chg s0.fp w7 v ∧ (L 7 = false → Ext w7 v), fun L a b => Chg s0.fp a b ∧ (L 7 = true → Ext a b), fun i v u => match i with
   | 0 => v = Value.pointer (some ⟨b0, 0, none⟩)
   | 1 => v = Value.pointer (some ⟨b0, 0, none⟩)
   | 2 => v = Value.pointer (some ⟨b0, 0, none⟩)
   | 3 => v = Value.pointer (some ⟨b0, 1, none⟩)
   | 4 => v = s0.v
   | 5 => v = Value.int .i64 a0
   | 6 => ∃ b sl, v = SlV.v sl ∧ sl = ⟨some ⟨b, 0, none⟩, 1, 1⟩ ∧ Blk u b zX (IC a0) ∧ ¬ s0.fp b
   | 7 => ∃ s', v = SlV.v s' ∧ Own u 0 zX 1 s' ((up0 ++ [a0]).map IC) ∧ ∀ i, s'.fp i → s0.fp i ∨ w7.heap.size ≤ i
   | _ => True⟩ hmix (by kernel_rfl) ?_ ⟨(Ext.drawn _).mono (fun _ _ x => x.elim), fun _ => Ext.drawn _⟩ ⟨?_, ?_, ?_, ?_, ?_, ?_, ?_, ?_, trivial⟩ ?_
  ·intro L i v a b hLi hle hv
   match i, hLi, hv with
   | 0, _, hv => exact hv
   | 1, _, hv => exact hv
   | 2, _, hv => exact hv
   | 3, _, hv => exact hv
   | 4, _, hv => exact hv
   | 5, _, hv => exact hv
   | 6, _, ⟨b, sl, e1, e2, hb, hn⟩ => exact ⟨b, sl, e1, e2, hb.chg hle.1 hn, hn⟩
   | 7, hLi, ⟨s', e1, ho, hg⟩ => exact ⟨s', e1, ho.ext (hle.2 hLi), hg⟩
   | _ + 8, _, _ => exact trivial
  ·rintro L g v hL hT 
   refine wd (zm vw rfl (((SH v hT.1).blk 0).cell rfl)) (zd (ob ⟨hT.1, fun h => hT.2 h⟩ ⟨Chg.refl _ _, fun _ => Ext.refl _⟩ rfl))
  ·rintro L g v hL hT 
   refine wd (zm vw rfl (((SH v hT.1).blk 0).cell rfl)) (zd (ob ⟨hT.1, fun h => hT.2 h⟩ ⟨Chg.refl _ _, fun _ => Ext.refl _⟩ rfl))
  ·rintro L g v hL hT hv1
   refine wd (zH hv1) (zd (ob ⟨hT.1, fun h => hT.2 h⟩ ⟨Chg.refl _ _, fun _ => Ext.refl _⟩ rfl))
  ·rintro L g v hL hT hv2
   refine wd (zi jz hv2 (o' := 1) rfl) (zd (ob ⟨hT.1, fun h => hT.2 h⟩ ⟨Chg.refl _ _, fun _ => Ext.refl _⟩ rfl))
  ·rintro L g v hL hT hv3
   refine wd (zm va hv3 (((SH v hT.1).blk 1).cell (Refusal.get_up_ _))) (zd (ob ⟨hT.1, fun h => hT.2 h⟩ ⟨Chg.refl _ _, fun _ => Ext.refl _⟩ rfl))
  ·rintro L g v hL hT 
   refine wd (zh rfl) (zd (ob ⟨hT.1, fun h => hT.2 h⟩ ⟨Chg.refl _ _, fun _ => Ext.refl _⟩ rfl))
  ·rintro L g v hL hT hv5
   refine wl_lit1 zY yh.zero hv5 rfl rfl (by decide) (by decide) fun b v' sl hn hq => zd (ob ⟨hT.1.thenExt hn.ext, fun h => (hT.2 h).trans hn.ext⟩ ⟨hn.ext.mono (fun _ _ x => x.elim), fun _ => hn.ext⟩ ⟨b, sl, rfl, hq, hn.blk, fun e => by have := hSlt _ e; have := hn.at_; have := hT.1.size; omega⟩)
  ·rintro L g v hL hT hv4 ⟨b, sl, hv6, hq, hb, hnb⟩
   refine wl_push (C := IC) zY yh hv4 hv6 (hSO.ext (hT.2 hL)) hb hq rfl (fun v hv => by rw [List.mem_singleton.1 hv]; rfl) ha9 (by omega) (by decide) fun s' v' ho hc hg => zd (ob ⟨hT.1.trans hc, fun h => (by cases h)⟩ ⟨hc, fun h => (by rw [hL] at h; cases h)⟩ ⟨s', rfl, ho, fun i e => (hg i e).imp id (fun h => Nat.le_trans hT.1.size h)⟩)
  rintro L g w10 hLm hT hv12_0 hv12_1 hv12_2 hv12_3 hv12_4 hv12_5 ⟨b, sl, hv12_6, hq, hb, hnb⟩ ⟨s11, hv12_7, O, gO⟩
  replace S := S.push 2 O (by rw [List.length_append, List.length_singleton]; omega) hT.1 gO
  clear O gO SH hSO hSlt
  refine wd (zH hv12_0) (wd (zi jz rfl (o' := 1) rfl) ?_)
  refine xi va rfl hv12_7 (S.blk 2) (by rw [Refusal.len]; decide) (SlV.one _ _ rfl) (Refusal.set_up_ _ _) fun w13 B hw13 zw13 => ?_
  replace S := S.store 2 B hw13
  clear B
  refine zd (zb (za (wd (zW rfl) (wd (zA rfl) (zd (zn ?_))))))
  replace S := ((S.front 1).front 1).mkE
  refine ⟨_, (zS (ze rfl)), ?_⟩
  replace S := S.arr [0] []
  obtain rfl := Option.some.inj H
  exact ⟨(.iface xO (.pointer (some ⟨b0, 0, none⟩))), rfl, S⟩
theorem types_code_st {A : Nat → Prop} {N : Oth} {w : World} {a0 : Option (Int × List Int)} {v_0 : Value} (S : St A N w w [oE v_0 a0] [oEt]) {r : List Int × Int} (H : types_code.f a0 = some r) :
  Calls PP F_types_code #[v_0] w fun e w' => ∃ v, e = .returned v ∧ (∃ so0 : SlV, v = .tuple #[so0.v, .int .i64 r.2] ∧ St A N w w' [oS zX 1 IC so0 r.1] []) := by
 unfold types_code.f at H
 refine zw (n := 22) fn_types_code rfl rfl (by simp) ?_
 rcases a0 with _ | ⟨c0, up0⟩
 ·obtain rfl := S.seeE 0
  replace S := S
  refine zb (za (wd (z0) (wd (zf rfl) (zd (zb (za ?_))))))
  refine zP ug (by decide) fun b2 w1 hw1 => ?_
  replace S := S.new hw1
  refine zd (zb (zb (za (wd (zW rfl) (wd (does_mkIface (by kernel_rfl) rfl) ?_)))))
  refine zu (zM kC (zO rfl (zO rfl rfl))) (by decide) (errors_As_no _ _) ?_
  rintro _ w3 ⟨rfl, hx⟩
  replace S := S.ext hx
  clear hx
  refine wd (xk rfl) (zd ?_)
  refine vI rfl (zb (za (wd (z0) (wd (zf rfl) (zd (zn ?_))))))
  replace S := S.nil zX 1 IC
  refine ⟨_, (zU (ze rfl) (ze rfl)), ?_⟩
  replace S := S.arr [0] []
  obtain rfl := Option.some.inj H
  exact ⟨SlV.nil, rfl, S⟩
 ·obtain ⟨b0, s0, rfl, S⟩ := S.openE 0
  replace S := S
  refine zb (za (wd (z0) (wd (zf rfl) (zd (zb (za ?_))))))
  refine zP ug (by decide) fun b6 w5 hw5 => ?_
  replace S := S.new hw5
  refine zd (zb (zb (za (wd (zW rfl) (wd (does_mkIface (by kernel_rfl) rfl) ?_)))))
  refine zu (zM kC (zO rfl (zO rfl rfl))) (by decide) (errors_As_yes _ (S.et 0) (S.blk 0)) ?_
  rintro _ w7 ⟨rfl, hc, hb⟩
  replace S := S.store 0 hb hc
  clear hc hb
  refine wd (xk rfl) (zd ?_)
  refine uH rfl (zt (zb (za (wd (zm vw rfl ((S.blk 0).cell rfl)) (wd (zH rfl) (wd (zi jz rfl (o' := 1) rfl) ?_))))))
  refine wd (zm va rfl ((S.blk 1).cell (Refusal.get_up_ _))) ?_
  obtain ⟨r9, er9, H⟩ := zp H
  replace S := S.front 2
  obtain ⟨B11, MB11, SB11, back⟩ := S.calln 1 ((.nil))
  refine zu (zo zam) (by decide) (zan SB11 er9) ?_
  rintro _ w10 ⟨rfl, S2⟩
  replace S := back _ _ _ _ S2 rfl
  clear back S2 SB11
  refine zd (zb ?_)
  refine yn 9 (Ext w10) hmix (by kernel_rfl) (by kernel_rfl) (Ext.drawn _) (zy (fun v K => zm vw rfl (((S.ext K).blk 1).cell rfl)) (zy (fun v K => zH rfl) (zy (fun v K => zi jz rfl (o' := 1) rfl) (zy (fun v K => zm va rfl (((S.ext K).blk 2).cell (Refusal.get_up_ _))) (zy (fun v K => zm vw rfl (((S.ext K).blk 1).cell rfl)) ?_)))))
  refine zy (fun v K => zH rfl) (zy (fun v K => zi fl_Refusal_code rfl (o' := 0) rfl) (zy (fun v K => zm xy rfl (((S.ext K).blk 2).cell (Refusal.get_code _))) (zy (fun v K => xa rfl) ?_)))
  refine vt fun w12 K => ?_
  replace S := S.ext K
  clear K
  refine wd (zf rfl) (zd (zn ?_))
  refine ⟨_, (zU (ze rfl) (ze rfl)), ?_⟩
  replace S := S.arr [0] []
  obtain rfl := Option.some.inj H
  exact ⟨s0, rfl, S⟩
end Go.Proofs.YtjebgcoknpcadaaGreatDoor
end
section
namespace Go.Proofs.YtjebgcoknpcadaaGreatDoor
open Gw Go.RowKit
set_option maxHeartbeats 4000000
set_option maxRecDepth 20000
theorem vB {A : Nat → Prop} {N : Oth} {w : World} {a0 : PChecker} {a_0 : Option Addr} {a1 : Int} {a2 : Int} (S : St A N w w [] [oT a_0 a0.t]) {r : Nd × (Option (Int × List Int))} (H : types_checker_node.f a0 a1 a2 = some r) :
  Calls PP ki #[.agg (Checker.C (⟨a_0⟩ : Checker)).toArray, .int .i64 a1, .int .i64 a2] w fun e w' => ∃ v, e = .returned v ∧ (∃ vo0 : Value, v = .tuple #[.agg (Nd.C r.1).toArray, vo0] ∧ St A N w w' [oE vo0 r.2] []) := by
 unfold types_checker_node.f at H
 refine zw (n := 26) fn_types_checker_node rfl rfl (by simp) (zb (za ?_))
 refine zJ rfl (by decide) fun b2 w1 hw1 => ?_
 replace S := S.new hw1
 refine zP uW (by decide) fun b4 w3 hw3 => ?_
 replace S := S.new hw3
 refine wd (zA rfl) (zd (zb (za (wd (zi fl_Checker_t rfl (o' := 0) rfl) (wd (zm zL rfl ((S.blk 1).cell (Checker.get_t _))) (wd (zh rfl) ?_))))))
 obtain ⟨r5, er5, H⟩ := zp H
 obtain ⟨B7, MB7, SB7, back⟩ := S.calln 0 ((.z 0 rfl .nil))
 refine zu (zo vy) (by decide) (vC SB7 er5) ?_
 rintro _ w6 ⟨rfl, S2⟩
 replace S := back _ _ _ _ S2 rfl
 clear back S2 SB7
 refine wd (zK rfl) (wd (zk rfl rfl) (wd (zk rfl rfl) ?_))
 refine zP uW (by decide) fun b9 w8 hw8 => ?_
 replace S := S.new hw8
 refine zx ya rfl rfl (S.blk 0) (Nd.len _) (by rw [Nd.len]; decide) (Nd.one _) (zG (Nd.len _)) fun w10 B hw10 zw10 => ?_
 replace S := S.store 0 B hw10
 clear B
 refine wd (zl rfl) (zd (zb (zb (za (wd (zi fl_Nd_kind rfl (o' := 0) rfl) (wd (zm y4 rfl ((S.blk 0).cell (Nd.get_kind _))) (wd (zh rfl) ?_)))))))
 refine wd (xc rfl rfl) (zd ?_)
 refine zC rfl (fun hc11 => ?_) (fun hc11 => ?_)
 ·replace H := if_t hc11 H
  refine zb (za (wd (zj ya rfl ((S.blk 0).all _ (Nd.len _)) (Nd.len _)) (wd (Does.to (v' := .agg (Refusal.C (⟨130, SlV.nil⟩ : Refusal)).toArray) (xh (vs := [(0, .int .i64 130)]) jS (x6 rfl rfl) (Bld.one rfl rfl (by rw [Refusal.len]; decide) (Refusal.set_code _ _) Bld.nil)) rfl) ?_)))
  refine zJ rfl (by decide) fun b13 w12 hw12 => ?_
  replace S := S.new hw12
  refine wd (does_makeInterface rfl) ?_
  replace S := ((S.nil zX 1 IC).front 1).mkE
  refine zx ya rfl rfl (S.blk 2) (Nd.len _) (by rw [Nd.len]; decide) (Nd.one _) (zG (Nd.len _)) fun w14 B hw14 zw14 => ?_
  replace S := S.store 2 B hw14
  clear B
  refine wd (zA rfl) (zd (zn ?_))
  refine ⟨_, (zU (zV ya rfl ((S.blk 0).all _ (Nd.len _)) (Nd.len _)) (ze rfl)), ?_⟩
  replace S := S.arr [1] []
  obtain rfl := Option.some.inj H
  exact ⟨(.iface xO (.pointer (some ⟨b13, 0, none⟩))), rfl, S⟩
 replace H := if_f hc11 H
 refine zt (zb (za (wd (zj ya rfl ((S.blk 0).all _ (Nd.len _)) (Nd.len _)) ?_)))
 refine zx ya rfl rfl (S.blk 1) (Nd.len _) (by rw [Nd.len]; decide) (Nd.one _) (zG (Nd.len _)) fun w15 B hw15 zw15 => ?_
 replace S := S.store 1 B hw15
 clear B
 refine wd (zA rfl) (zd (zn ?_))
 replace S := S.nilE
 refine ⟨_, (zU (zV ya rfl ((S.blk 1).all _ (Nd.len _)) (Nd.len _)) (ze rfl)), ?_⟩
 replace S := S.arr [0] []
 obtain rfl := Option.some.inj H
 exact ⟨.nilIface, rfl, S⟩
theorem yt {rec_types_checker_told : PChecker → PTerm → (List (ByteArray × Int)) → Option (Int × (Option (Int × List Int)))} (hrec_types_checker_told : ∀ {A : Nat → Prop} {N : Oth} {w : World} {a0 : PChecker} {a_0 : Option Addr} {a1 : PTerm} {s_1 : SlV} {a2 : List (ByteArray × Int)} {a_2 : Option Addr} (S : St A N w w [] [oT a_0 a0.t, xb s_1 a1.sub, xR a_2 a2, oEt]) {r : Int × (Option (Int × List Int))} (H : rec_types_checker_told a0 a1 a2 = some r), Calls PP xV #[.agg (Checker.C (⟨a_0⟩ : Checker)).toArray, .agg (Term.C (⟨a1.kind, a1.name, a1.other, a1.form, s_1⟩ : Term)).toArray, .pointer a_2] w fun e w' => ∃ v, e = .returned v ∧ (∃ vo0 : Value, v = .tuple #[.int .i64 r.1, vo0] ∧ St A N w w' [oE vo0 r.2] [])) {A : Nat → Prop} {N : Oth} {w : World} {a0 : PChecker} {a_0 : Option Addr} {a1 : PTerm} {s_1 : SlV} {a2 : Int} {a3 : List (ByteArray × Int)} {a_3 : Option Addr} (S : St A N w w [] [oT a_0 a0.t, xb s_1 a1.sub, xR a_3 a3, oEt]) {r : Int × (Option (Int × List Int))} (H : types_checker_part.g rec_types_checker_told a0 a1 a2 a3 = some r) :
  Calls PP j7 #[.agg (Checker.C (⟨a_0⟩ : Checker)).toArray, .agg (Term.C (⟨a1.kind, a1.name, a1.other, a1.form, s_1⟩ : Term)).toArray, .int .i64 a2, .pointer a_3] w fun e w' => ∃ v, e = .returned v ∧ (∃ vo0 : Value, v = .tuple #[.int .i64 r.1, vo0] ∧ St A N w w' [oE vo0 r.2] []) := by
 unfold types_checker_part.g at H
 refine zw (n := 27) fn_types_checker_part rfl rfl (by simp) (zb (za ?_))
 refine zJ rfl (by decide) fun b2 w1 hw1 => ?_
 replace S := S.new hw1
 refine zJ rfl (by decide) fun b4 w3 hw3 => ?_
 replace S := S.new hw3
 refine wd (zf rfl) (wd (zA rfl) (zd (zb ?_)))
 refine wc_ws hmix fun w10 K => ?_
 replace S := S.ext K
 clear K
 obtain ⟨hi11, H⟩ := xK H
 obtain ⟨s12, hc13, S⟩ := S.viewTerm 1 (xv hi11)
 replace S := S.zs [1, 2, 3, 4, 0]
 refine vW 0 7 [] (by kernel_rfl) (by decide) (by kernel_rfl)
  (V := fun i v u => match i with
  | _ => True) ?_ ?_
 ·intro i v u u' hi hx hv
  match i, hv with
  | _, _ => exact trivial
 refine zz (fun v K => zj xp rfl (((S.ext K).blk 1).all _ (Checker.len _)) (Checker.len _)) rfl (zz (fun v K => zi ud rfl (o' := 4) rfl) rfl (zz (fun v K => zm vi rfl (((S.ext K).blk 0).cell (Term.get_sub _))) rfl (zz (fun v K => zh rfl) rfl (zz (fun v K => does_indexF xL rfl rfl ((S.ext K).onZ 1) (xv hi11).1 (xv hi11).2) rfl (zz (fun v K => zj xn rfl (hc13.chg K (fun x => x)) (Term.len _)) rfl ?_)))))
 refine zz (fun v K => zr rfl) rfl ?_
 refine yQ fun g w14 K hV => ?_
 replace S := S.ext K
 clear K hV
 refine kk 7 9 (by kernel_rfl) (by decide) ?_
 obtain ⟨r16, er16, H⟩ := zp H
 obtain ⟨B18, MB18, SB18, back⟩ := S.calln 0 ((.z 0 rfl (.z 4 rfl (.z 2 rfl (.z 3 rfl .nil)))))
 refine zu (zo uz) (by decide) (hrec_types_checker_told (a0 := a0) (a1 := (at_ PTerm.z a1.sub a2)) SB18 er16) ?_
 rintro _ w17 ⟨v19, rfl, S2⟩
 replace S := back _ _ _ _ S2 rfl
 clear back S2 SB18
 refine wd (zK rfl) (zd ⟨rfl, ?_⟩)
 refine vW 9 12 [] (by kernel_rfl) (by decide) (by kernel_rfl)
  (V := fun i v u => match i with
  | _ => True) ?_ ?_
 ·intro i v u u' hi hx hv
  match i, hv with
  | _, _ => exact trivial
 refine zz (fun v K => zk rfl rfl) rfl (zz (fun v K => zk rfl rfl) rfl (zz (fun v K => zf rfl) rfl ?_))
 refine yQ fun g w20 K hV => ?_
 replace S := S.ext K
 clear K hV
 refine zap 12 (by kernel_rfl) (by decide) (wd (zA rfl) (zd (zb (za (wd (zh rfl) (wd (zh rfl) ?_))))))
 refine wd (zW rfl) ?_
 obtain ⟨r22, er22, H⟩ := zp H
 obtain ⟨B24, MB24, SB24, back⟩ := S.calln 1 ((.z 3 rfl .nil))
 refine zu (zo ca_types_at) (by decide) (types_at_st (a1 := r16.2) SB24 er22) ?_
 rintro v25 w23 ⟨_, rfl, S2⟩
 replace S := back _ _ _ _ S2 rfl
 clear back S2 SB24
 refine wd (zf rfl) (wd (zA rfl) (zd (zn ?_)))
 refine ⟨_, (zU (ze rfl) (ze rfl)), ?_⟩
 replace S := S.arr [0] []
 obtain rfl := Option.some.inj H
 exact ⟨v25, rfl, S⟩
theorem xr {rec_types_checker_checked : PChecker → PTerm → (List (ByteArray × Int)) → Int → Option (Option (Int × List Int))} (hrec_types_checker_checked : ∀ {A : Nat → Prop} {N : Oth} {w : World} {a0 : PChecker} {a_0 : Option Addr} {a1 : PTerm} {s_1 : SlV} {a2 : List (ByteArray × Int)} {a_2 : Option Addr} {a3 : Int} (S : St A N w w [] [oT a_0 a0.t, xb s_1 a1.sub, xR a_2 a2, oEt]) {r : (Option (Int × List Int))} (H : rec_types_checker_checked a0 a1 a2 a3 = some r), Calls PP xS #[.agg (Checker.C (⟨a_0⟩ : Checker)).toArray, .agg (Term.C (⟨a1.kind, a1.name, a1.other, a1.form, s_1⟩ : Term)).toArray, .pointer a_2, .int .i64 a3] w fun e w' => ∃ v, e = .returned v ∧ (∃ vo0 : Value, v = vo0 ∧ St A N w w' [oE vo0 r] [])) {A : Nat → Prop} {N : Oth} {w : World} {a0 : PChecker} {a_0 : Option Addr} {a1 : PTerm} {s_1 : SlV} {a2 : Int} {a3 : List (ByteArray × Int)} {a_3 : Option Addr} {a4 : Int} (S : St A N w w [] [oT a_0 a0.t, xb s_1 a1.sub, xR a_3 a3, oEt]) {r : (Option (Int × List Int))} (H : types_checker_check.g rec_types_checker_checked a0 a1 a2 a3 a4 = some r) :
  Calls PP jR #[.agg (Checker.C (⟨a_0⟩ : Checker)).toArray, .agg (Term.C (⟨a1.kind, a1.name, a1.other, a1.form, s_1⟩ : Term)).toArray, .int .i64 a2, .pointer a_3, .int .i64 a4] w fun e w' => ∃ v, e = .returned v ∧ (∃ vo0 : Value, v = vo0 ∧ St A N w w' [oE vo0 r] []) := by
 unfold types_checker_check.g at H
 refine zw (n := 22) fn_types_checker_check rfl rfl (by simp) (zb (za ?_))
 refine zJ rfl (by decide) fun b2 w1 hw1 => ?_
 replace S := S.new hw1
 refine zJ rfl (by decide) fun b4 w3 hw3 => ?_
 replace S := S.new hw3
 refine wd (zA rfl) (zd (zb ?_))
 obtain ⟨hi5, H⟩ := xK H
 obtain ⟨s6, hc7, S⟩ := S.viewTerm 1 (xv hi5)
 replace S := S.zs [1, 2, 3, 4, 0]
 obtain ⟨r8, er8, H⟩ := zp H
 refine jk 10 [9]
  (fun i v u => match i with
  | 9 => ∃ v9 : Value, v = v9 ∧ ∃ F, (oE v9 r8).holds u F ∧ ∀ i, F i → w3.heap.size ≤ i
  | _ => True) hmix (by kernel_rfl) (by kernel_rfl) ?_ ?_
 ·intro i v u u' hi hx hv
  match i, hv with
  | 9, ⟨b, e1, F, hb, hl⟩ => exact ⟨b, e1, F, OA.loc _ hb hx (fun _ _ x => x), hl⟩
  | 0, _ => exact trivial
  | 1, _ => exact trivial
  | 2, _ => exact trivial
  | 3, _ => exact trivial
  | 4, _ => exact trivial
  | 5, _ => exact trivial
  | 6, _ => exact trivial
  | 7, _ => exact trivial
  | 8, _ => exact trivial
  | _ + 10, _ => exact trivial
 refine zz (fun v K => zh rfl) rfl (zz (fun v K => zj xp rfl (((S.ext K).blk 1).all _ (Checker.len _)) (Checker.len _)) rfl (zz (fun v K => zi ud rfl (o' := 4) rfl) rfl (zz (fun v K => zm vi rfl (((S.ext K).blk 0).cell (Term.get_sub _))) rfl (zz (fun v K => zh rfl) rfl (zz (fun v K => does_indexF xL rfl rfl ((S.ext K).onZ 1) (xv hi5).1 (xv hi5).2) rfl ?_)))))
 refine zz (fun v K => zj xn rfl (hc7.chg K (fun x => x)) (Term.len _)) rfl (zz (fun v K => zr rfl) rfl (zz (fun v K => zh rfl) rfl ?_))
 refine yH (fun g v K G => (have ⟨M, SS⟩ := (S.ext K).lend ((.z 0 rfl (.z 4 rfl (.z 2 rfl (.z 3 rfl .nil))))); ⟨_, _, zM jf (zO rfl (zO rfl (zO rfl (zO rfl rfl)))), newc (hrec_types_checker_checked (a0 := a0) (a1 := (at_ PTerm.z a1.sub a2)) SS er8) fun _ _ ⟨v9, hv, h⟩ => ⟨h.frame, v9, hv, h.newP.elim fun F hF => ⟨F, hF.1, fun i hi => by have := hF.2 i hi; have := K.size; omega⟩⟩⟩)) rfl ?_
 refine yQ fun g w10 K hV => ?_
 obtain ⟨v9, hv119, F9, hb9, hf9⟩ := hV 9 rfl (by decide)
 replace S := S.add (b := oE v9 r8) K hb9 hf9
 clear K hV
 obtain ⟨r12, er12, H⟩ := zp H
 obtain ⟨B14, MB14, SB14, back⟩ := S.calln 1 ((.z 3 rfl .nil))
 refine zu (zM ca_types_at (zO rfl (zO hv119 rfl))) (by decide) (types_at_st (a1 := r8) SB14 er12) ?_
 rintro v15 w13 ⟨_, rfl, S2⟩
 replace S := back _ _ _ _ S2 rfl
 clear back S2 SB14
 refine wd (zA rfl) (zd (zn ?_))
 refine ⟨_, (zS (ze rfl)), ?_⟩
 replace S := S.arr [0] []
 obtain rfl := Option.some.inj H
 exact ⟨v15, rfl, S⟩
theorem yq {rec_types_checker_told : PChecker → PTerm → (List (ByteArray × Int)) → Option (Int × (Option (Int × List Int)))} (hrec_types_checker_told : ∀ {A : Nat → Prop} {N : Oth} {w : World} {a0 : PChecker} {a_0 : Option Addr} {a1 : PTerm} {s_1 : SlV} {a2 : List (ByteArray × Int)} {a_2 : Option Addr} (S : St A N w w [] [oT a_0 a0.t, xb s_1 a1.sub, xR a_2 a2, oEt]) {r : Int × (Option (Int × List Int))} (H : rec_types_checker_told a0 a1 a2 = some r), Calls PP xV #[.agg (Checker.C (⟨a_0⟩ : Checker)).toArray, .agg (Term.C (⟨a1.kind, a1.name, a1.other, a1.form, s_1⟩ : Term)).toArray, .pointer a_2] w fun e w' => ∃ v, e = .returned v ∧ (∃ vo0 : Value, v = .tuple #[.int .i64 r.1, vo0] ∧ St A N w w' [oE vo0 r.2] [])) {A : Nat → Prop} {N : Oth} {w : World} {a0 : PChecker} {a_0 : Option Addr} {a1 : PTerm} {s_1 : SlV} {a2 : List (ByteArray × Int)} {a_2 : Option Addr} {a3 : Int} (S : St A N w w [] [oT a_0 a0.t, xb s_1 a1.sub, xR a_2 a2, oEt]) {r : Nd × (Option (Int × List Int))} (H : types_checker_head.g rec_types_checker_told a0 a1 a2 a3 = some r) :
  Calls PP ko #[.agg (Checker.C (⟨a_0⟩ : Checker)).toArray, .agg (Term.C (⟨a1.kind, a1.name, a1.other, a1.form, s_1⟩ : Term)).toArray, .pointer a_2, .int .i64 a3] w fun e w' => ∃ v, e = .returned v ∧ (∃ vo0 : Value, v = .tuple #[.agg (Nd.C r.1).toArray, vo0] ∧ St A N w w' [oE vo0 r.2] []) := by
 unfold types_checker_head.g at H
 refine zw (n := 29) fn_types_checker_head rfl rfl (by simp) (zb (za ?_))
 refine zJ rfl (by decide) fun b2 w1 hw1 => ?_
 replace S := S.new hw1
 refine zJ rfl (by decide) fun b4 w3 hw3 => ?_
 replace S := S.new hw3
 refine zP uW (by decide) fun b6 w5 hw5 => ?_
 replace S := S.new hw5
 refine wd (zA rfl) (zd (zb (za (wd (zj xp rfl ((S.blk 2).all _ (Checker.len _)) (Checker.len _)) (wd (zj xn rfl ((S.blk 1).all _ (Term.len _)) (Term.len _)) (wd (zr rfl) ?_))))))
 obtain ⟨r7, er7, H⟩ := zp H
 obtain ⟨B9, MB9, SB9, back⟩ := S.calln 0 ((.z 0 rfl (.z 1 rfl (.z 2 rfl (.z 3 rfl .nil)))))
 refine zu (zo yz) (by decide) (yt hrec_types_checker_told (a0 := a0) (a1 := a1) SB9 er7) ?_
 rintro _ w8 ⟨v10, rfl, S2⟩
 replace S := back _ _ _ _ S2 rfl
 clear back S2 SB9
 refine wd (zK rfl) (wd (zk rfl rfl) (wd (zk rfl rfl) (wd (zf rfl) (wd (zA rfl) (zd (zb (zb (za ?_))))))))
 refine wd (zW rfl) (wd (does_neE vO rfl rfl (S.onO 0)) (zd ?_))
 refine zC rfl (fun hc11 => ?_) (fun hc11 => ?_)
 ·replace H := if_t hc11 H
  refine zb (za (wd (xB bu_Nd Bld.nil) (wd (zW rfl) ?_)))
  refine zx ya rfl rfl (S.blk 1) (Nd.len _) (by rw [Nd.len]; decide) (Nd.one _) (zG (Nd.len _)) fun w12 B hw12 zw12 => ?_
  replace S := S.store 1 B hw12
  clear B
  refine wd (zA rfl) (zd (zn ?_))
  refine ⟨_, (zU (zV ya rfl ((S.blk 0).all _ (Nd.len _)) (Nd.len _)) (ze rfl)), ?_⟩
  replace S := S.arr [1] []
  obtain rfl := Option.some.inj H
  exact ⟨v10, rfl, S⟩
 replace H := if_f hc11 H
 refine zt (zb (za (wd (zj xp rfl ((S.blk 3).all _ (Checker.len _)) (Checker.len _)) (wd (zh rfl) (wd (zh rfl) ?_)))))
 obtain ⟨r13, er13, H⟩ := zp H
 obtain ⟨B15, MB15, SB15, back⟩ := S.calln 0 ((.z 0 rfl .nil))
 refine zu (zo vA) (by decide) (vB (a0 := a0) SB15 er13) ?_
 rintro _ w14 ⟨v16, rfl, S2⟩
 replace S := back _ _ _ _ S2 rfl
 clear back S2 SB15
 refine wd (zk rfl rfl) (wd (zk rfl rfl) ?_)
 refine zx ya rfl rfl (S.blk 2) (Nd.len _) (by rw [Nd.len]; decide) (Nd.one _) (zG (Nd.len _)) fun w17 B hw17 zw17 => ?_
 replace S := S.store 2 B hw17
 clear B
 refine wd (zA rfl) (zd (zn ?_))
 refine ⟨_, (zU (zV ya rfl ((S.blk 0).all _ (Nd.len _)) (Nd.len _)) (ze rfl)), ?_⟩
 replace S := S.arr [1] []
 obtain rfl := Option.some.inj H
 exact ⟨v16, rfl, S⟩
theorem types_checker_told_gst {rec_types_checker_told : PChecker → PTerm → (List (ByteArray × Int)) → Option (Int × (Option (Int × List Int)))} (hrec_types_checker_told : ∀ {A : Nat → Prop} {N : Oth} {w : World} {a0 : PChecker} {a_0 : Option Addr} {a1 : PTerm} {s_1 : SlV} {a2 : List (ByteArray × Int)} {a_2 : Option Addr} (S : St A N w w [] [oT a_0 a0.t, xb s_1 a1.sub, xR a_2 a2, oEt]) {r : Int × (Option (Int × List Int))} (H : rec_types_checker_told a0 a1 a2 = some r), Calls PP xV #[.agg (Checker.C (⟨a_0⟩ : Checker)).toArray, .agg (Term.C (⟨a1.kind, a1.name, a1.other, a1.form, s_1⟩ : Term)).toArray, .pointer a_2] w fun e w' => ∃ v, e = .returned v ∧ (∃ vo0 : Value, v = .tuple #[.int .i64 r.1, vo0] ∧ St A N w w' [oE vo0 r.2] [])) {rec_types_checker_checked : PChecker → PTerm → (List (ByteArray × Int)) → Int → Option (Option (Int × List Int))} (hrec_types_checker_checked : ∀ {A : Nat → Prop} {N : Oth} {w : World} {a0 : PChecker} {a_0 : Option Addr} {a1 : PTerm} {s_1 : SlV} {a2 : List (ByteArray × Int)} {a_2 : Option Addr} {a3 : Int} (S : St A N w w [] [oT a_0 a0.t, xb s_1 a1.sub, xR a_2 a2, oEt]) {r : (Option (Int × List Int))} (H : rec_types_checker_checked a0 a1 a2 a3 = some r), Calls PP xS #[.agg (Checker.C (⟨a_0⟩ : Checker)).toArray, .agg (Term.C (⟨a1.kind, a1.name, a1.other, a1.form, s_1⟩ : Term)).toArray, .pointer a_2, .int .i64 a3] w fun e w' => ∃ v, e = .returned v ∧ (∃ vo0 : Value, v = vo0 ∧ St A N w w' [oE vo0 r] [])) {A : Nat → Prop} {N : Oth} {w : World} {a0 : PChecker} {a_0 : Option Addr} {a1 : PTerm} {s_1 : SlV} {a2 : List (ByteArray × Int)} {a_2 : Option Addr} (S : St A N w w [] [oT a_0 a0.t, xb s_1 a1.sub, xR a_2 a2, oEt]) {r : Int × (Option (Int × List Int))} (H : types_checker_told.g rec_types_checker_told rec_types_checker_checked a0 a1 a2 = some r) :
  Calls PP xV #[.agg (Checker.C (⟨a_0⟩ : Checker)).toArray, .agg (Term.C (⟨a1.kind, a1.name, a1.other, a1.form, s_1⟩ : Term)).toArray, .pointer a_2] w fun e w' => ∃ v, e = .returned v ∧ (∃ vo0 : Value, v = .tuple #[.int .i64 r.1, vo0] ∧ St A N w w' [oE vo0 r.2] []) := by
 unfold types_checker_told.g at H
 refine zw (n := 175) fn_types_checker_told rfl rfl (by simp) (zb (za ?_))
 refine zJ rfl (by decide) fun b2 w1 hw1 => ?_
 replace S := S.new hw1
 refine zJ rfl (by decide) fun b4 w3 hw3 => ?_
 replace S := S.new hw3
 refine wd (zf rfl) (wd (zA rfl) (zd (zb (zb (za (wd (zi jC rfl (o' := 0) rfl) (wd (zm uq rfl ((S.blk 0).cell (Term.get_kind _))) (zd ?_))))))))
 refine zF (zb (za (wd (zN rfl rfl) (wd (zl rfl) (zd ?_)))))
 refine zC rfl (fun hc5 => ?_) (fun hc5 => ?_)
 ·replace H := if_t hc5 H
  refine zb (za (wd (zr rfl) (wd (zi uk rfl (o' := 1) rfl) (wd (zm xY rfl ((S.blk 0).cell (Term.get_name _))) ?_))))
  obtain ⟨r6, er6, H⟩ := zp H
  obtain ⟨B8, MB8, SB8, back⟩ := S.calln 0 ((.z 2 rfl .nil))
  refine zu (zo ca_types_scope_find) (by decide) (types_scope_find_st SB8 er6) ?_
  rintro _ w7 ⟨v9, rfl, S2⟩
  replace S := back _ _ _ _ S2 rfl
  clear back S2 SB8
  refine wd (zk rfl rfl) (wd (zk rfl rfl) (wd (zf rfl) (wd (zA rfl) (zd (zn ?_)))))
  refine ⟨_, (zU (ze rfl) (ze rfl)), ?_⟩
  replace S := S.arr [0] []
  obtain rfl := Option.some.inj H
  exact ⟨v9, rfl, S⟩
 replace H := if_f hc5 H
 refine zb (za (wd (zN rfl rfl) (wd (zl rfl) (zd ?_))))
 refine zC rfl (fun hc10 => ?_) (fun hc10 => ?_)
 ·replace H := if_t hc10 H
  refine zb (za (wd (zj xp rfl ((S.blk 1).all _ (Checker.len _)) (Checker.len _)) (wd (zj xn rfl ((S.blk 0).all _ (Term.len _)) (Term.len _)) (wd (zr rfl) ?_))))
  obtain ⟨r11, er11, H⟩ := zp H
  obtain ⟨B13, MB13, SB13, back⟩ := S.calln 0 ((.z 0 rfl (.z 1 rfl (.z 2 rfl (.z 3 rfl .nil)))))
  refine zu (zo yy) (by decide) (yq hrec_types_checker_told (a0 := a0) (a1 := a1) SB13 er11) ?_
  rintro _ w12 ⟨v14, rfl, S2⟩
  replace S := back _ _ _ _ S2 rfl
  clear back S2 SB13
  refine wd (zK rfl) (wd (zk rfl rfl) (wd (zk rfl rfl) ?_))
  refine zP uW (by decide) fun b16 w15 hw15 => ?_
  replace S := S.new hw15
  refine zx ya rfl rfl (S.blk 0) (Nd.len _) (by rw [Nd.len]; decide) (Nd.one _) (zG (Nd.len _)) fun w17 B hw17 zw17 => ?_
  replace S := S.store 0 B hw17
  clear B
  refine wd (zA rfl) (zd (zb (zb (za (wd (zW rfl) (wd (does_neE vO rfl rfl (S.onO 1)) (zd ?_)))))))
  refine zC rfl (fun hc18 => ?_) (fun hc18 => ?_)
  ·replace H := if_t hc18 H
   refine zb (za (wd (zW rfl) (wd (zf rfl) (wd (zA rfl) (zd (zn ?_))))))
   refine ⟨_, (zU (ze rfl) (ze rfl)), ?_⟩
   replace S := S.arr [1] []
   obtain rfl := Option.some.inj H
   exact ⟨v14, rfl, S⟩
  replace H := if_f hc18 H
  refine zt (zb ?_)
  obtain ⟨r19, er19, H⟩ := zp H
  refine jk 8 [7]
   (fun i v u => match i with
   | 7 => ∃ v20 : Value, v = v20 ∧ ∃ F, (oE v20 r19).holds u F ∧ ∀ i, F i → w17.heap.size ≤ i
   | _ => True) hmix (by kernel_rfl) (by kernel_rfl) ?_ ?_
  ·intro i v u u' hi hx hv
   match i, hv with
   | 7, ⟨b, e1, F, hb, hl⟩ => exact ⟨b, e1, F, OA.loc _ hb hx (fun _ _ x => x), hl⟩
   | 0, _ => exact trivial
   | 1, _ => exact trivial
   | 2, _ => exact trivial
   | 3, _ => exact trivial
   | 4, _ => exact trivial
   | 5, _ => exact trivial
   | 6, _ => exact trivial
   | _ + 8, _ => exact trivial
  refine zz (fun v K => zi yk rfl (o' := 3) rfl) rfl (zz (fun v K => zm zQ rfl (((S.ext K).blk 0).cell (Nd.get_r _))) rfl (zz (fun v K => zj xp rfl (((S.ext K).blk 3).all _ (Checker.len _)) (Checker.len _)) rfl (zz (fun v K => zj xn rfl (((S.ext K).blk 2).all _ (Term.len _)) (Term.len _)) rfl (zz (fun v K => zr rfl) rfl (zz (fun v K => zi yB rfl (o' := 2) rfl) rfl ?_)))))
  refine zz (fun v K => zm zQ rfl (((S.ext K).blk 0).cell (Nd.get_l _))) rfl ?_
  refine yH (fun g v K G => (have ⟨M, SS⟩ := (S.ext K).lend ((.z 0 rfl (.z 1 rfl (.z 2 rfl (.z 3 rfl .nil))))); ⟨_, _, zM xw (zO rfl (zO rfl (zO rfl (zO rfl (zO rfl rfl))))), newc (xr hrec_types_checker_checked (a0 := a0) (a1 := a1) SS er19) fun _ _ ⟨v20, hv, h⟩ => ⟨h.frame, v20, hv, h.newP.elim fun F hF => ⟨F, hF.1, fun i hi => by have := hF.2 i hi; have := K.size; omega⟩⟩⟩)) rfl ?_
  refine yQ fun g w21 K hV => ?_
  obtain ⟨v20, hv227, F7, hb7, hf7⟩ := hV 7 rfl (by decide)
  replace S := S.add (b := oE v20 r19) K hb7 hf7
  clear K hV
  refine wd (zf rfl) (wd (zA hv227) (zd (zn ?_)))
  refine ⟨_, (zU (ze rfl) (ze rfl)), ?_⟩
  replace S := S.arr [0] []
  obtain rfl := Option.some.inj H
  exact ⟨v20, rfl, S⟩
 replace H := if_f hc10 H
 refine zb (za (wd (zN rfl rfl) (wd (zl rfl) (zd ?_))))
 refine zC rfl (fun hc23 => ?_) (fun hc23 => ?_)
 ·replace H := if_t hc23 H
  refine zb (za (wd (zj xp rfl ((S.blk 1).all _ (Checker.len _)) (Checker.len _)) (wd (zj xn rfl ((S.blk 0).all _ (Term.len _)) (Term.len _)) (wd (zr rfl) ?_))))
  obtain ⟨r24, er24, H⟩ := zp H
  obtain ⟨B26, MB26, SB26, back⟩ := S.calln 0 ((.z 0 rfl (.z 1 rfl (.z 2 rfl (.z 3 rfl .nil)))))
  refine zu (zo yy) (by decide) (yq hrec_types_checker_told (a0 := a0) (a1 := a1) SB26 er24) ?_
  rintro _ w25 ⟨v27, rfl, S2⟩
  replace S := back _ _ _ _ S2 rfl
  clear back S2 SB26
  refine wd (zK rfl) (wd (zk rfl rfl) (wd (zk rfl rfl) ?_))
  refine zP uW (by decide) fun b29 w28 hw28 => ?_
  replace S := S.new hw28
  refine zx ya rfl rfl (S.blk 0) (Nd.len _) (by rw [Nd.len]; decide) (Nd.one _) (zG (Nd.len _)) fun w30 B hw30 zw30 => ?_
  replace S := S.store 0 B hw30
  clear B
  refine wd (zA rfl) (zd (zb (za (wd (zi yB rfl (o' := 2) rfl) (wd (zm zQ rfl ((S.blk 0).cell (Nd.get_l _))) (wd (zW rfl) ?_))))))
  refine wd (zf rfl) (wd (zA rfl) (zd (zn ?_)))
  refine ⟨_, (zU (ze rfl) (ze rfl)), ?_⟩
  replace S := S.arr [1] []
  obtain rfl := Option.some.inj H
  exact ⟨v27, rfl, S⟩
 replace H := if_f hc23 H
 refine zb (za (wd (zN rfl rfl) (wd (zl rfl) (zd ?_))))
 refine zC rfl (fun hc31 => ?_) (fun hc31 => ?_)
 ·replace H := if_t hc31 H
  refine zb (za (wd (zj xp rfl ((S.blk 1).all _ (Checker.len _)) (Checker.len _)) (wd (zj xn rfl ((S.blk 0).all _ (Term.len _)) (Term.len _)) (wd (zr rfl) ?_))))
  obtain ⟨r32, er32, H⟩ := zp H
  obtain ⟨B34, MB34, SB34, back⟩ := S.calln 0 ((.z 0 rfl (.z 1 rfl (.z 2 rfl (.z 3 rfl .nil)))))
  refine zu (zo yy) (by decide) (yq hrec_types_checker_told (a0 := a0) (a1 := a1) SB34 er32) ?_
  rintro _ w33 ⟨v35, rfl, S2⟩
  replace S := back _ _ _ _ S2 rfl
  clear back S2 SB34
  refine wd (zK rfl) (wd (zk rfl rfl) (wd (zk rfl rfl) ?_))
  refine zP uW (by decide) fun b37 w36 hw36 => ?_
  replace S := S.new hw36
  refine zx ya rfl rfl (S.blk 0) (Nd.len _) (by rw [Nd.len]; decide) (Nd.one _) (zG (Nd.len _)) fun w38 B hw38 zw38 => ?_
  replace S := S.store 0 B hw38
  clear B
  refine wd (zA rfl) (zd (zb (za (wd (zi yk rfl (o' := 3) rfl) (wd (zm zQ rfl ((S.blk 0).cell (Nd.get_r _))) (wd (zW rfl) ?_))))))
  refine wd (zf rfl) (wd (zA rfl) (zd (zn ?_)))
  refine ⟨_, (zU (ze rfl) (ze rfl)), ?_⟩
  replace S := S.arr [1] []
  obtain rfl := Option.some.inj H
  exact ⟨v35, rfl, S⟩
 replace H := if_f hc31 H
 refine zb (za (wd (zN rfl rfl) (wd (zl rfl) (zd ?_))))
 refine zC rfl (fun hc39 => ?_) (fun hc39 => ?_)
 ·replace H := if_t hc39 H
  refine zb (zb (za (wd (zi fl_Checker_t rfl (o' := 0) rfl) (wd (zm zL rfl ((S.blk 1).cell (Checker.get_t _))) (wd (zi uQ rfl (o' := 3) rfl) (wd (zm zQ rfl ((S.blk 0).cell (Term.get_form _))) ?_))))))
  obtain ⟨r40, er40, H⟩ := zp H
  obtain ⟨B42, MB42, SB42, back⟩ := S.calln 0 ((.z 0 rfl .nil))
  refine zu (zo vy) (by decide) (vC SB42 er40) ?_
  rintro _ w41 ⟨rfl, S2⟩
  replace S := back _ _ _ _ S2 rfl
  clear back S2 SB42
  refine wd (zK rfl) (wd (zk rfl rfl) (wd (zk rfl rfl) ?_))
  refine zP uW (by decide) fun b44 w43 hw43 => ?_
  replace S := S.new hw43
  refine zx ya rfl rfl (S.blk 0) (Nd.len _) (by rw [Nd.len]; decide) (Nd.one _) (zG (Nd.len _)) fun w45 B hw45 zw45 => ?_
  replace S := S.store 0 B hw45
  clear B
  refine wd (zl rfl) (zd (zb (za (wd (zB rfl) (wd (xk rfl) (zd ?_))))))
  refine zC rfl (fun hc46 => ?_) (fun hc46 => ?_)
  ·replace H := if_t hc46 H
   refine zb (za (wd (Does.to (v' := .agg (Refusal.C (⟨31, SlV.nil⟩ : Refusal)).toArray) (xh (vs := [(0, .int .i64 31)]) jS (x6 rfl rfl) (Bld.one rfl rfl (by rw [Refusal.len]; decide) (Refusal.set_code _ _) Bld.nil)) rfl) ?_))
   refine zJ rfl (by decide) fun b48 w47 hw47 => ?_
   replace S := S.new hw47
   refine wd (does_makeInterface rfl) ?_
   replace S := ((S.nil zX 1 IC).front 1).mkE
   refine wd (zf rfl) (wd (zA rfl) (zd (zn ?_)))
   refine ⟨_, (zU (ze rfl) (ze rfl)), ?_⟩
   replace S := S.arr [0] []
   obtain rfl := Option.some.inj H
   exact ⟨(.iface xO (.pointer (some ⟨b48, 0, none⟩))), rfl, S⟩
  replace H := if_f hc46 H
  refine zt (zb ?_)
  obtain ⟨r49, er49, H⟩ := zp H
  refine jk 8 [7]
   (fun i v u => match i with
   | 7 => ∃ v50 : Value, v = v50 ∧ ∃ F, (oE v50 r49).holds u F ∧ ∀ i, F i → w45.heap.size ≤ i
   | _ => True) hmix (by kernel_rfl) (by kernel_rfl) ?_ ?_
  ·intro i v u u' hi hx hv
   match i, hv with
   | 7, ⟨b, e1, F, hb, hl⟩ => exact ⟨b, e1, F, OA.loc _ hb hx (fun _ _ x => x), hl⟩
   | 0, _ => exact trivial
   | 1, _ => exact trivial
   | 2, _ => exact trivial
   | 3, _ => exact trivial
   | 4, _ => exact trivial
   | 5, _ => exact trivial
   | 6, _ => exact trivial
   | _ + 8, _ => exact trivial
  refine zz (fun v K => zi uQ rfl (o' := 3) rfl) rfl (zz (fun v K => zm zQ rfl (((S.ext K).blk 1).cell (Term.get_form _))) rfl (zz (fun v K => zj xp rfl (((S.ext K).blk 2).all _ (Checker.len _)) (Checker.len _)) rfl (zz (fun v K => zj xn rfl (((S.ext K).blk 1).all _ (Term.len _)) (Term.len _)) rfl (zz (fun v K => zr rfl) rfl (zz (fun v K => zi uQ rfl (o' := 3) rfl) rfl ?_)))))
  refine zz (fun v K => zm zQ rfl (((S.ext K).blk 1).cell (Term.get_form _))) rfl ?_
  refine yH (fun g v K G => (have ⟨M, SS⟩ := (S.ext K).lend ((.z 0 rfl (.z 1 rfl (.z 2 rfl (.z 3 rfl .nil))))); ⟨_, _, zM xw (zO rfl (zO rfl (zO rfl (zO rfl (zO rfl rfl))))), newc (xr hrec_types_checker_checked (a0 := a0) (a1 := a1) SS er49) fun _ _ ⟨v50, hv, h⟩ => ⟨h.frame, v50, hv, h.newP.elim fun F hF => ⟨F, hF.1, fun i hi => by have := hF.2 i hi; have := K.size; omega⟩⟩⟩)) rfl ?_
  refine yQ fun g w51 K hV => ?_
  obtain ⟨v50, hv527, F7, hb7, hf7⟩ := hV 7 rfl (by decide)
  replace S := S.add (b := oE v50 r49) K hb7 hf7
  clear K hV
  refine wd (zf rfl) (wd (zA hv527) (zd (zn ?_)))
  refine ⟨_, (zU (ze rfl) (ze rfl)), ?_⟩
  replace S := S.arr [0] []
  obtain rfl := Option.some.inj H
  exact ⟨v50, rfl, S⟩
 replace H := if_f hc39 H
 refine zb (za (wd (zN rfl rfl) (wd (zl rfl) (zd ?_))))
 refine zC rfl (fun hc53 => ?_) (fun hc53 => ?_)
 ·replace H := if_t hc53 H
  refine zb (za (wd (zj xp rfl ((S.blk 1).all _ (Checker.len _)) (Checker.len _)) (wd (zj xn rfl ((S.blk 0).all _ (Term.len _)) (Term.len _)) (wd (zr rfl) ?_))))
  obtain ⟨r54, er54, H⟩ := zp H
  obtain ⟨B56, MB56, SB56, back⟩ := S.calln 0 ((.z 0 rfl (.z 1 rfl (.z 2 rfl (.z 3 rfl .nil)))))
  refine zu (zo yz) (by decide) (yt hrec_types_checker_told (a0 := a0) (a1 := a1) SB56 er54) ?_
  rintro _ w55 ⟨v57, rfl, S2⟩
  replace S := back _ _ _ _ S2 rfl
  clear back S2 SB56
  refine wd (zK rfl) (wd (zk rfl rfl) (wd (zk rfl rfl) (wd (zf rfl) (wd (zA rfl) (zd (zb (zb (za ?_))))))))
  refine wd (zW rfl) (wd (does_neE vO rfl rfl (S.onO 0)) (zd ?_))
  refine zC rfl (fun hc58 => ?_) (fun hc58 => ?_)
  ·replace H := if_t hc58 H
   refine zb (za (wd (zW rfl) (wd (zf rfl) (wd (zA rfl) (zd (zn ?_))))))
   refine ⟨_, (zU (ze rfl) (ze rfl)), ?_⟩
   replace S := S.arr [0] []
   obtain rfl := Option.some.inj H
   exact ⟨v57, rfl, S⟩
  replace H := if_f hc58 H
  refine zt (zb ?_)
  refine wc_ws hmix fun w62 K => ?_
  replace S := S.ext K
  clear K
  refine vW 0 7 [6] (by kernel_rfl) (by decide) (by kernel_rfl)
   (V := fun i v u => match i with
   | 6 => ∃ b : Nat, v = Value.pointer (some ⟨b, 0, none⟩) ∧ Blk u b uh (Scope.C ⟨a1.name, r54.1, a_2⟩) ∧ w62.heap.size ≤ b
   | _ => True) ?_ ?_
  ·intro i v u u' hi hx hv
   match i, hv with
   | 6, ⟨b, e1, hb, hl⟩ => exact ⟨b, e1, hb.ext hx, hl⟩
   | 0, _ => exact trivial
   | 1, _ => exact trivial
   | 2, _ => exact trivial
   | 3, _ => exact trivial
   | 4, _ => exact trivial
   | 5, _ => exact trivial
   | _ + 7, _ => exact trivial
  refine zz (fun v K => zj xp rfl (((S.ext K).blk 2).all _ (Checker.len _)) (Checker.len _)) rfl (zz (fun v K => zj xn rfl (((S.ext K).blk 1).all _ (Term.len _)) (Term.len _)) rfl (zz (fun v K => zr rfl) rfl (zz (fun v K => zi uk rfl (o' := 1) rfl) rfl (zz (fun v K => zm xY rfl (((S.ext K).blk 1).cell (Term.get_name _))) rfl (zz (fun v K => zh rfl) rfl ?_)))))
  refine yH (fun g v K G => ⟨_, _, zM yc (zO rfl (zO rfl (zO rfl rfl))), newc (yd _ _ _ _) fun _ _ ⟨b, hv, hx, hb, hl⟩ => ⟨hx, b, hv, hb, by have := K.size; omega⟩⟩) rfl ?_
  refine yQ fun g w64 K hV => ?_
  obtain ⟨b63, hv656, hb6, hf6⟩ := hV 6 rfl (by decide)
  replace S := (S.newAt K hb6 hf6).pushScope 0 2
  clear K hV
  refine kk 7 8 (by kernel_rfl) (by decide) ?_
  obtain ⟨r66, er66, H⟩ := zp H
  obtain ⟨B68, MB68, SB68, back⟩ := S.calln 0 ((.z 1 rfl (.z 2 rfl (.z 0 rfl (.z 4 rfl .nil)))))
  refine zu (zM yz (zO rfl (zO rfl (zO rfl (zO hv656 rfl))))) (by decide) (yt hrec_types_checker_told (a0 := a0) (a1 := a1) SB68 er66) ?_
  rintro _ w67 ⟨v69, rfl, S2⟩
  replace S := back _ _ _ _ S2 rfl
  clear back S2 SB68
  refine zd ⟨rfl, ?_⟩
  refine vW 8 10 [] (by kernel_rfl) (by decide) (by kernel_rfl)
   (V := fun i v u => match i with
   | _ => True) ?_ ?_
  ·intro i v u u' hi hx hv
   match i, hv with
   | _, _ => exact trivial
  refine zz (fun v K => zk rfl rfl) rfl (zz (fun v K => zk rfl rfl) rfl ?_)
  refine yQ fun g w70 K hV => ?_
  replace S := S.ext K
  clear K hV
  refine zap 10 (by kernel_rfl) (by decide) (wd (zf rfl) (wd (zA rfl) (zd (zn ?_))))
  refine ⟨_, (zU (ze rfl) (ze rfl)), ?_⟩
  replace S := S.arr [0] []
  obtain rfl := Option.some.inj H
  exact ⟨v69, rfl, S⟩
 replace H := if_f hc53 H
 refine zb (za (wd (zN rfl rfl) (wd (zl rfl) (zd ?_))))
 refine zC rfl (fun hc72 => ?_) (fun hc72 => ?_)
 ·replace H := if_t hc72 H
  refine zb (za (wd (zj xp rfl ((S.blk 1).all _ (Checker.len _)) (Checker.len _)) (wd (zj xn rfl ((S.blk 0).all _ (Term.len _)) (Term.len _)) (wd (zr rfl) ?_))))
  obtain ⟨r73, er73, H⟩ := zp H
  obtain ⟨B75, MB75, SB75, back⟩ := S.calln 0 ((.z 0 rfl (.z 1 rfl (.z 2 rfl (.z 3 rfl .nil)))))
  refine zu (zo yy) (by decide) (yq hrec_types_checker_told (a0 := a0) (a1 := a1) SB75 er73) ?_
  rintro _ w74 ⟨v76, rfl, S2⟩
  replace S := back _ _ _ _ S2 rfl
  clear back S2 SB75
  refine wd (zK rfl) (wd (zk rfl rfl) (wd (zk rfl rfl) ?_))
  refine zP uW (by decide) fun b78 w77 hw77 => ?_
  replace S := S.new hw77
  refine zx ya rfl rfl (S.blk 0) (Nd.len _) (by rw [Nd.len]; decide) (Nd.one _) (zG (Nd.len _)) fun w79 B hw79 zw79 => ?_
  replace S := S.store 0 B hw79
  clear B
  refine wd (zA rfl) (zd (zb (zb (za (wd (zW rfl) (wd (does_neE vO rfl rfl (S.onO 1)) (zd ?_)))))))
  refine zC rfl (fun hc80 => ?_) (fun hc80 => ?_)
  ·replace H := if_t hc80 H
   refine zb (za (wd (zW rfl) (wd (zf rfl) (wd (zA rfl) (zd (zn ?_))))))
   refine ⟨_, (zU (ze rfl) (ze rfl)), ?_⟩
   replace S := S.arr [1] []
   obtain rfl := Option.some.inj H
   exact ⟨v76, rfl, S⟩
  replace H := if_f hc80 H
  refine zt (zb ?_)
  refine wc_ws hmix fun w84 K => ?_
  replace S := S.ext K
  clear K
  refine vW 0 8 [7] (by kernel_rfl) (by decide) (by kernel_rfl)
   (V := fun i v u => match i with
   | 7 => ∃ b : Nat, v = Value.pointer (some ⟨b, 0, none⟩) ∧ Blk u b uh (Scope.C ⟨a1.name, r73.1.l, a_2⟩) ∧ w84.heap.size ≤ b
   | _ => True) ?_ ?_
  ·intro i v u u' hi hx hv
   match i, hv with
   | 7, ⟨b, e1, hb, hl⟩ => exact ⟨b, e1, hb.ext hx, hl⟩
   | 0, _ => exact trivial
   | 1, _ => exact trivial
   | 2, _ => exact trivial
   | 3, _ => exact trivial
   | 4, _ => exact trivial
   | 5, _ => exact trivial
   | 6, _ => exact trivial
   | _ + 8, _ => exact trivial
  refine zz (fun v K => zj xp rfl (((S.ext K).blk 3).all _ (Checker.len _)) (Checker.len _)) rfl (zz (fun v K => zj xn rfl (((S.ext K).blk 2).all _ (Term.len _)) (Term.len _)) rfl (zz (fun v K => zr rfl) rfl (zz (fun v K => zi uk rfl (o' := 1) rfl) rfl (zz (fun v K => zm xY rfl (((S.ext K).blk 2).cell (Term.get_name _))) rfl (zz (fun v K => zi yB rfl (o' := 2) rfl) rfl ?_)))))
  refine zz (fun v K => zm zQ rfl (((S.ext K).blk 0).cell (Nd.get_l _))) rfl ?_
  refine yH (fun g v K G => ⟨_, _, zM yc (zO rfl (zO rfl (zO rfl rfl))), newc (yd _ _ _ _) fun _ _ ⟨b, hv, hx, hb, hl⟩ => ⟨hx, b, hv, hb, by have := K.size; omega⟩⟩) rfl ?_
  refine yQ fun g w86 K hV => ?_
  obtain ⟨b85, hv877, hb7, hf7⟩ := hV 7 rfl (by decide)
  replace S := (S.newAt K hb7 hf7).pushScope 0 2
  clear K hV
  refine kk 8 10 (by kernel_rfl) (by decide) ?_
  obtain ⟨r88, er88, H⟩ := zp H
  obtain ⟨B90, MB90, SB90, back⟩ := S.calln 0 ((.z 1 rfl (.z 2 rfl (.z 0 rfl (.z 4 rfl .nil)))))
  refine zu (zM yz (zO rfl (zO rfl (zO rfl (zO hv877 rfl))))) (by decide) (yt hrec_types_checker_told (a0 := a0) (a1 := a1) SB90 er88) ?_
  rintro _ w89 ⟨v91, rfl, S2⟩
  replace S := back _ _ _ _ S2 rfl
  clear back S2 SB90
  refine wd (zK rfl) (zd ⟨rfl, ?_⟩)
  refine vW 10 13 [] (by kernel_rfl) (by decide) (by kernel_rfl)
   (V := fun i v u => match i with
   | _ => True) ?_ ?_
  ·intro i v u u' hi hx hv
   match i, hv with
   | _, _ => exact trivial
  refine zz (fun v K => zk rfl rfl) rfl (zz (fun v K => zk rfl rfl) rfl (zz (fun v K => zf rfl) rfl ?_))
  refine yQ fun g w92 K hV => ?_
  replace S := S.ext K
  clear K hV
  refine zap 13 (by kernel_rfl) (by decide) (wd (zA rfl) (zd (zb (zb (za (wd (zW rfl) (wd (does_neE vO rfl rfl (S.onO 0)) (zd ?_))))))))
  refine zC rfl (fun hc94 => ?_) (fun hc94 => ?_)
  ·replace H := if_t hc94 H
   refine zb (za (wd (zW rfl) (wd (zf rfl) (wd (zA rfl) (zd (zn ?_))))))
   refine ⟨_, (zU (ze rfl) (ze rfl)), ?_⟩
   replace S := S.arr [0] []
   obtain rfl := Option.some.inj H
   exact ⟨v91, rfl, S⟩
  replace H := if_f hc94 H
  refine zt (zb ?_)
  refine wc_ws hmix fun w98 K => ?_
  replace S := S.ext K
  clear K
  refine vW 0 8 [7] (by kernel_rfl) (by decide) (by kernel_rfl)
   (V := fun i v u => match i with
   | 7 => ∃ b : Nat, v = Value.pointer (some ⟨b, 0, none⟩) ∧ Blk u b uh (Scope.C ⟨a1.other, r73.1.r, a_2⟩) ∧ w98.heap.size ≤ b
   | _ => True) ?_ ?_
  ·intro i v u u' hi hx hv
   match i, hv with
   | 7, ⟨b, e1, hb, hl⟩ => exact ⟨b, e1, hb.ext hx, hl⟩
   | 0, _ => exact trivial
   | 1, _ => exact trivial
   | 2, _ => exact trivial
   | 3, _ => exact trivial
   | 4, _ => exact trivial
   | 5, _ => exact trivial
   | 6, _ => exact trivial
   | _ + 8, _ => exact trivial
  refine zz (fun v K => zj xp rfl (((S.ext K).blk 4).all _ (Checker.len _)) (Checker.len _)) rfl (zz (fun v K => zj xn rfl (((S.ext K).blk 3).all _ (Term.len _)) (Term.len _)) rfl (zz (fun v K => zr rfl) rfl (zz (fun v K => zi zaH rfl (o' := 2) rfl) rfl (zz (fun v K => zm xY rfl (((S.ext K).blk 3).cell (Term.get_other _))) rfl (zz (fun v K => zi yk rfl (o' := 3) rfl) rfl ?_)))))
  refine zz (fun v K => zm zQ rfl (((S.ext K).blk 1).cell (Nd.get_r _))) rfl ?_
  refine yH (fun g v K G => ⟨_, _, zM yc (zO rfl (zO rfl (zO rfl rfl))), newc (yd _ _ _ _) fun _ _ ⟨b, hv, hx, hb, hl⟩ => ⟨hx, b, hv, hb, by have := K.size; omega⟩⟩) rfl ?_
  refine yQ fun g w100 K hV => ?_
  obtain ⟨b99, hv1017, hb7, hf7⟩ := hV 7 rfl (by decide)
  replace S := (S.newAt K hb7 hf7).pushScope 0 3
  clear K hV
  refine kk 8 10 (by kernel_rfl) (by decide) ?_
  obtain ⟨r102, er102, H⟩ := zp H
  obtain ⟨B104, MB104, SB104, back⟩ := S.calln 0 ((.z 2 rfl (.z 3 rfl (.z 0 rfl (.z 5 rfl .nil)))))
  refine zu (zM yz (zO rfl (zO rfl (zO rfl (zO hv1017 rfl))))) (by decide) (yt hrec_types_checker_told (a0 := a0) (a1 := a1) SB104 er102) ?_
  rintro _ w103 ⟨v105, rfl, S2⟩
  replace S := back _ _ _ _ S2 rfl
  clear back S2 SB104
  refine wd (zK rfl) (zd ⟨rfl, ?_⟩)
  refine vW 10 13 [] (by kernel_rfl) (by decide) (by kernel_rfl)
   (V := fun i v u => match i with
   | _ => True) ?_ ?_
  ·intro i v u u' hi hx hv
   match i, hv with
   | _, _ => exact trivial
  refine zz (fun v K => zk rfl rfl) rfl (zz (fun v K => zk rfl rfl) rfl (zz (fun v K => zf rfl) rfl ?_))
  refine yQ fun g w106 K hV => ?_
  replace S := S.ext K
  clear K hV
  refine zap 13 (by kernel_rfl) (by decide) (wd (zA rfl) (zd (zb (zb (za (wd (zW rfl) (wd (does_eqE vO rfl rfl (S.onO 0)) ?_)))))))
  refine wd (zB rfl) ?_
  refine wg (fun hg => zh rfl) ?_
  refine wg (fun hg => zh rfl) ?_
  refine wg (fun hg => xc (zq hg) (zq hg)) (wd (xe rfl (fun hp => (zq (xF hp)))) (zd ?_))
  refine zC rfl (fun hc108 => ?_) (fun hc108 => ?_)
  ·replace H := if_t hc108 H
   refine za (wd (Does.to (v' := .agg (Refusal.C (⟨130, SlV.nil⟩ : Refusal)).toArray) (xh (vs := [(0, .int .i64 130)]) jS (x6 rfl rfl) (Bld.one rfl rfl (by rw [Refusal.len]; decide) (Refusal.set_code _ _) Bld.nil)) rfl) ?_)
   refine zJ rfl (by decide) fun b110 w109 hw109 => ?_
   replace S := S.new hw109
   refine wd (does_makeInterface rfl) ?_
   replace S := ((S.nil zX 1 IC).front 1).mkE
   refine wd (zA rfl) (zd (zb (za (wd (zh rfl) (wd (zW rfl) (wd (zf rfl) ?_))))))
   refine wd (zA rfl) (zd (zn ?_))
   refine ⟨_, (zU (ze rfl) (ze rfl)), ?_⟩
   replace S := S.arr [0] []
   obtain rfl := Option.some.inj H
   exact ⟨(.iface xO (.pointer (some ⟨b110, 0, none⟩))), rfl, S⟩
  ·replace H := if_f hc108 H
   refine zt (zb (za (wd (zh rfl) (wd (zW rfl) (wd (zf rfl) (wd (zA rfl) (zd (zn ?_))))))))
   refine ⟨_, (zU (ze rfl) (ze rfl)), ?_⟩
   replace S := S.arr [0] []
   obtain rfl := Option.some.inj H
   exact ⟨v105, rfl, S⟩
 replace H := if_f hc72 H
 refine zt (zb (za (wd (Does.to (v' := .agg (Refusal.C (⟨132, SlV.nil⟩ : Refusal)).toArray) (xh (vs := [(0, .int .i64 132)]) jS (x6 rfl rfl) (Bld.one rfl rfl (by rw [Refusal.len]; decide) (Refusal.set_code _ _) Bld.nil)) rfl) ?_)))
 refine zJ rfl (by decide) fun b112 w111 hw111 => ?_
 replace S := S.new hw111
 refine wd (does_makeInterface rfl) ?_
 replace S := ((S.nil zX 1 IC).front 1).mkE
 refine wd (zf rfl) (wd (zA rfl) (zd (zn ?_)))
 refine ⟨_, (zU (ze rfl) (ze rfl)), ?_⟩
 replace S := S.arr [0] []
 obtain rfl := Option.some.inj H
 exact ⟨(.iface xO (.pointer (some ⟨b112, 0, none⟩))), rfl, S⟩
theorem zak {rec_types_checker_told : PChecker → PTerm → (List (ByteArray × Int)) → Option (Int × (Option (Int × List Int)))} (hrec_types_checker_told : ∀ {A : Nat → Prop} {N : Oth} {w : World} {a0 : PChecker} {a_0 : Option Addr} {a1 : PTerm} {s_1 : SlV} {a2 : List (ByteArray × Int)} {a_2 : Option Addr} (S : St A N w w [] [oT a_0 a0.t, xb s_1 a1.sub, xR a_2 a2, oEt]) {r : Int × (Option (Int × List Int))} (H : rec_types_checker_told a0 a1 a2 = some r), Calls PP xV #[.agg (Checker.C (⟨a_0⟩ : Checker)).toArray, .agg (Term.C (⟨a1.kind, a1.name, a1.other, a1.form, s_1⟩ : Term)).toArray, .pointer a_2] w fun e w' => ∃ v, e = .returned v ∧ (∃ vo0 : Value, v = .tuple #[.int .i64 r.1, vo0] ∧ St A N w w' [oE vo0 r.2] [])) {rec_types_checker_checked : PChecker → PTerm → (List (ByteArray × Int)) → Int → Option (Option (Int × List Int))} (hrec_types_checker_checked : ∀ {A : Nat → Prop} {N : Oth} {w : World} {a0 : PChecker} {a_0 : Option Addr} {a1 : PTerm} {s_1 : SlV} {a2 : List (ByteArray × Int)} {a_2 : Option Addr} {a3 : Int} (S : St A N w w [] [oT a_0 a0.t, xb s_1 a1.sub, xR a_2 a2, oEt]) {r : (Option (Int × List Int))} (H : rec_types_checker_checked a0 a1 a2 a3 = some r), Calls PP xS #[.agg (Checker.C (⟨a_0⟩ : Checker)).toArray, .agg (Term.C (⟨a1.kind, a1.name, a1.other, a1.form, s_1⟩ : Term)).toArray, .pointer a_2, .int .i64 a3] w fun e w' => ∃ v, e = .returned v ∧ (∃ vo0 : Value, v = vo0 ∧ St A N w w' [oE vo0 r] [])) {A : Nat → Prop} {N : Oth} {w : World} {a0 : PChecker} {a_0 : Option Addr} {a1 : PTerm} {s_1 : SlV} {a2 : List (ByteArray × Int)} {a_2 : Option Addr} {a3 : Int} (S : St A N w w [] [oT a_0 a0.t, xb s_1 a1.sub, xR a_2 a2, oEt]) {r : (Option (Int × List Int))} (H : types_checker_checked.g rec_types_checker_told rec_types_checker_checked a0 a1 a2 a3 = some r) :
  Calls PP xS #[.agg (Checker.C (⟨a_0⟩ : Checker)).toArray, .agg (Term.C (⟨a1.kind, a1.name, a1.other, a1.form, s_1⟩ : Term)).toArray, .pointer a_2, .int .i64 a3] w fun e w' => ∃ v, e = .returned v ∧ (∃ vo0 : Value, v = vo0 ∧ St A N w w' [oE vo0 r] []) := by
 unfold types_checker_checked.g at H
 refine zw (n := 186) zax rfl rfl (by simp) (zb (za ?_))
 refine zJ rfl (by decide) fun b2 w1 hw1 => ?_
 replace S := S.new hw1
 refine zJ rfl (by decide) fun b4 w3 hw3 => ?_
 replace S := S.new hw3
 refine wd (zA rfl) (zd (zb (zb (za (wd (zi jC rfl (o' := 0) rfl) (wd (zm uq rfl ((S.blk 0).cell (Term.get_kind _))) (zd ?_)))))))
 refine zF (zb (za (wd (zN rfl rfl) (wd (zl rfl) (zd ?_)))))
 refine zC rfl (fun hc5 => ?_) (fun hc5 => ?_)
 ·replace H := if_t hc5 H
  refine zb (za (wd (zj xp rfl ((S.blk 1).all _ (Checker.len _)) (Checker.len _)) (wd (zh rfl) ?_)))
  obtain ⟨r6, er6, H⟩ := zp H
  obtain ⟨B8, MB8, SB8, back⟩ := S.calln 0 ((.z 0 rfl .nil))
  refine zu (zo vA) (by decide) (vB (a0 := a0) SB8 er6) ?_
  rintro _ w7 ⟨v9, rfl, S2⟩
  replace S := back _ _ _ _ S2 rfl
  clear back S2 SB8
  refine wd (zK rfl) (wd (zk rfl rfl) (wd (zk rfl rfl) ?_))
  refine zP uW (by decide) fun b11 w10 hw10 => ?_
  replace S := S.new hw10
  refine zx ya rfl rfl (S.blk 0) (Nd.len _) (by rw [Nd.len]; decide) (Nd.one _) (zG (Nd.len _)) fun w12 B hw12 zw12 => ?_
  replace S := S.store 0 B hw12
  clear B
  refine wd (zA rfl) (zd (zb (zb (za (wd (zW rfl) (wd (does_neE vO rfl rfl (S.onO 1)) (zd ?_)))))))
  refine zC rfl (fun hc13 => ?_) (fun hc13 => ?_)
  ·replace H := if_t hc13 H
   refine zb (za (wd (zW rfl) (wd (zA rfl) (zd (zn ?_)))))
   refine ⟨_, (zS (ze rfl)), ?_⟩
   replace S := S.arr [1] []
   obtain rfl := Option.some.inj H
   exact ⟨v9, rfl, S⟩
  replace H := if_f hc13 H
  refine zt (zb ?_)
  refine jk 10 [7]
   (fun i v u => match i with
   | 7 => ∃ b : Nat, v = Value.pointer (some ⟨b, 0, none⟩) ∧ Blk u b uh (Scope.C ⟨a1.name, r6.1.l, a_2⟩) ∧ w12.heap.size ≤ b
   | _ => True) hmix (by kernel_rfl) (by kernel_rfl) ?_ ?_
  ·intro i v u u' hi hx hv
   match i, hv with
   | 7, ⟨b, e1, hb, hl⟩ => exact ⟨b, e1, hb.ext hx, hl⟩
   | 0, _ => exact trivial
   | 1, _ => exact trivial
   | 2, _ => exact trivial
   | 3, _ => exact trivial
   | 4, _ => exact trivial
   | 5, _ => exact trivial
   | 6, _ => exact trivial
   | _ + 8, _ => exact trivial
  refine zz (fun v K => zj xp rfl (((S.ext K).blk 3).all _ (Checker.len _)) (Checker.len _)) rfl (zz (fun v K => zj xn rfl (((S.ext K).blk 2).all _ (Term.len _)) (Term.len _)) rfl (zz (fun v K => zr rfl) rfl (zz (fun v K => zi uk rfl (o' := 1) rfl) rfl (zz (fun v K => zm xY rfl (((S.ext K).blk 2).cell (Term.get_name _))) rfl (zz (fun v K => zi yB rfl (o' := 2) rfl) rfl ?_)))))
  refine zz (fun v K => zm zQ rfl (((S.ext K).blk 0).cell (Nd.get_l _))) rfl ?_
  refine yH (fun g v K G => ⟨_, _, zM yc (zO rfl (zO rfl (zO rfl rfl))), newc (yd _ _ _ _) fun _ _ ⟨b, hv, hx, hb, hl⟩ => ⟨hx, b, hv, hb, by have := K.size; omega⟩⟩) rfl (zz (fun v K => zi yk rfl (o' := 3) rfl) rfl (zz (fun v K => zm zQ rfl (((S.ext K).blk 0).cell (Nd.get_r _))) rfl ?_))
  refine yQ fun g w15 K hV => ?_
  obtain ⟨b14, hv167, hb7, hf7⟩ := hV 7 rfl (by decide)
  replace S := (S.newAt K hb7 hf7).pushScope 0 2
  clear K hV
  obtain ⟨r17, er17, H⟩ := zp H
  obtain ⟨B19, MB19, SB19, back⟩ := S.calln 0 ((.z 1 rfl (.z 2 rfl (.z 0 rfl (.z 4 rfl .nil)))))
  refine zu (zM xw (zO rfl (zO rfl (zO rfl (zO hv167 (zO rfl rfl)))))) (by decide) (xr hrec_types_checker_checked (a0 := a0) (a1 := a1) SB19 er17) ?_
  rintro v20 w18 ⟨_, rfl, S2⟩
  replace S := back _ _ _ _ S2 rfl
  clear back S2 SB19
  refine wd (zA rfl) (zd (zn ?_))
  refine ⟨_, (zS (ze rfl)), ?_⟩
  replace S := S.arr [0] []
  obtain rfl := Option.some.inj H
  exact ⟨v20, rfl, S⟩
 replace H := if_f hc5 H
 refine zb (za (wd (zN rfl rfl) (wd (zl rfl) (zd ?_))))
 refine zC rfl (fun hc21 => ?_) (fun hc21 => ?_)
 ·replace H := if_t hc21 H
  refine zb (za (wd (zj xp rfl ((S.blk 1).all _ (Checker.len _)) (Checker.len _)) (wd (zh rfl) ?_)))
  obtain ⟨r22, er22, H⟩ := zp H
  obtain ⟨B24, MB24, SB24, back⟩ := S.calln 0 ((.z 0 rfl .nil))
  refine zu (zo vA) (by decide) (vB (a0 := a0) SB24 er22) ?_
  rintro _ w23 ⟨v25, rfl, S2⟩
  replace S := back _ _ _ _ S2 rfl
  clear back S2 SB24
  refine wd (zK rfl) (wd (zk rfl rfl) (wd (zk rfl rfl) ?_))
  refine zP uW (by decide) fun b27 w26 hw26 => ?_
  replace S := S.new hw26
  refine zx ya rfl rfl (S.blk 0) (Nd.len _) (by rw [Nd.len]; decide) (Nd.one _) (zG (Nd.len _)) fun w28 B hw28 zw28 => ?_
  replace S := S.store 0 B hw28
  clear B
  refine wd (zA rfl) (zd (zb (zb (za (wd (zW rfl) (wd (does_neE vO rfl rfl (S.onO 1)) (zd ?_)))))))
  refine zC rfl (fun hc29 => ?_) (fun hc29 => ?_)
  ·replace H := if_t hc29 H
   refine zb (za (wd (zW rfl) (wd (zA rfl) (zd (zn ?_)))))
   refine ⟨_, (zS (ze rfl)), ?_⟩
   replace S := S.arr [1] []
   obtain rfl := Option.some.inj H
   exact ⟨v25, rfl, S⟩
  replace H := if_f hc29 H
  refine zt (zb (zb (za (wd (zj xp rfl ((S.blk 3).all _ (Checker.len _)) (Checker.len _)) (wd (zj xn rfl ((S.blk 2).all _ (Term.len _)) (Term.len _)) (wd (zr rfl) (wd (zi yB rfl (o' := 2) rfl) ?_)))))))
  refine wd (zm zQ rfl ((S.blk 0).cell (Nd.get_l _))) ?_
  obtain ⟨r30, er30, H⟩ := zp H
  obtain ⟨B32, MB32, SB32, back⟩ := S.calln 0 ((.z 0 rfl (.z 1 rfl (.z 2 rfl (.z 3 rfl .nil)))))
  refine zu (zo xw) (by decide) (xr hrec_types_checker_checked (a0 := a0) (a1 := a1) SB32 er30) ?_
  rintro v33 w31 ⟨_, rfl, S2⟩
  replace S := back _ _ _ _ S2 rfl
  clear back S2 SB32
  refine wd (zA rfl) (zd (zb (za (wd (zW rfl) (wd (does_neE vO rfl rfl (S.onO 0)) (zd ?_))))))
  refine zC rfl (fun hc34 => ?_) (fun hc34 => ?_)
  ·replace H := if_t hc34 H
   refine zb (za (wd (zW rfl) (wd (zA rfl) (zd (zn ?_)))))
   refine ⟨_, (zS (ze rfl)), ?_⟩
   replace S := S.arr [0] []
   obtain rfl := Option.some.inj H
   exact ⟨v33, rfl, S⟩
  replace H := if_f hc34 H
  refine zt (zb (za (wd (zj xp rfl ((S.blk 4).all _ (Checker.len _)) (Checker.len _)) (wd (zj xn rfl ((S.blk 3).all _ (Term.len _)) (Term.len _)) (wd (zr rfl) (wd (zi yk rfl (o' := 3) rfl) ?_))))))
  refine wd (zm zQ rfl ((S.blk 1).cell (Nd.get_r _))) ?_
  obtain ⟨r35, er35, H⟩ := zp H
  obtain ⟨B37, MB37, SB37, back⟩ := S.calln 0 ((.z 0 rfl (.z 1 rfl (.z 2 rfl (.z 3 rfl .nil)))))
  refine zu (zo xw) (by decide) (xr hrec_types_checker_checked (a0 := a0) (a1 := a1) SB37 er35) ?_
  rintro v38 w36 ⟨_, rfl, S2⟩
  replace S := back _ _ _ _ S2 rfl
  clear back S2 SB37
  refine wd (zA rfl) (zd (zn ?_))
  refine ⟨_, (zS (ze rfl)), ?_⟩
  replace S := S.arr [0] []
  obtain rfl := Option.some.inj H
  exact ⟨v38, rfl, S⟩
 replace H := if_f hc21 H
 refine zb (zb (za (wd (zN rfl rfl) (wd (zl rfl) (zd ?_)))))
 obtain ⟨o39, e39, Ho39⟩ := zp H
 replace H := e39; clear e39
 refine yT [75, 77] (fun fr W => fr 75 = .bool o39 ∧ St A N w W [oB b4 xP (Term.C (⟨a1.kind, a1.name, a1.other, a1.form, s_1⟩ : Term)), oB b2 T_Checker (Checker.C (⟨a_0⟩ : Checker))] [oT a_0 a0.t, xb s_1 a1.sub, xR a_2 a2, oEt]) ?_ ?_
 ·refine zC rfl (fun hc40 => ?_) (fun hc40 => ?_)
  ·replace H := if_t hc40 H
   refine zt ?_
   obtain rfl := Option.some.inj H
   exact ⟨rfl, (Dif.refl _ _), rfl, S⟩
  ·replace H := if_f hc40 H
   refine za (wd (zN rfl rfl) (wd (zl rfl) (zd ?_)))
   obtain rfl := Option.some.inj H
   exact ⟨rfl, (((Dif.refl _ _).upd rfl _).upd rfl _), rfl, S⟩
 rintro g41 u42 ⟨p39_75, S⟩
 have H := Ho39
 refine zC p39_75 (fun hc43 => ?_) (fun hc43 => ?_)
 ·replace H := if_t hc43 H
  refine zb (za (wd (zj xp rfl ((S.blk 1).all _ (Checker.len _)) (Checker.len _)) (wd (zh rfl) ?_)))
  obtain ⟨r44, er44, H⟩ := zp H
  obtain ⟨B46, MB46, SB46, back⟩ := S.calln 0 ((.z 0 rfl .nil))
  refine zu (zo vA) (by decide) (vB (a0 := a0) SB46 er44) ?_
  rintro _ w45 ⟨v47, rfl, S2⟩
  replace S := back _ _ _ _ S2 rfl
  clear back S2 SB46
  refine wd (zK rfl) (wd (zk rfl rfl) (wd (zk rfl rfl) ?_))
  refine zP uW (by decide) fun b49 w48 hw48 => ?_
  replace S := S.new hw48
  refine zx ya rfl rfl (S.blk 0) (Nd.len _) (by rw [Nd.len]; decide) (Nd.one _) (zG (Nd.len _)) fun w50 B hw50 zw50 => ?_
  replace S := S.store 0 B hw50
  clear B
  refine wd (zA rfl) (zd (zb (zb (za (wd (zW rfl) (wd (does_neE vO rfl rfl (S.onO 1)) (zd ?_)))))))
  refine zC rfl (fun hc51 => ?_) (fun hc51 => ?_)
  ·replace H := if_t hc51 H
   refine zb (za (wd (zW rfl) (wd (zA rfl) (zd (zn ?_)))))
   refine ⟨_, (zS (ze rfl)), ?_⟩
   replace S := S.arr [1] []
   obtain rfl := Option.some.inj H
   exact ⟨v47, rfl, S⟩
  replace H := if_f hc51 H
  refine zt (zb (zb (za (wd (zi jC rfl (o' := 0) rfl) (wd (zm uq rfl ((S.blk 2).cell (Term.get_kind _))) (wd (zN rfl rfl) (zd ?_)))))))
  refine zC rfl (fun hc52 => ?_) (fun hc52 => ?_)
  ·replace H := if_t hc52 H
   refine zb (za (wd (zj xp rfl ((S.blk 3).all _ (Checker.len _)) (Checker.len _)) (wd (zj xn rfl ((S.blk 2).all _ (Term.len _)) (Term.len _)) (wd (zr rfl) (wd (zi yB rfl (o' := 2) rfl) (wd (zm zQ rfl ((S.blk 0).cell (Nd.get_l _))) ?_))))))
   obtain ⟨r53, er53, H⟩ := zp H
   obtain ⟨B55, MB55, SB55, back⟩ := S.calln 0 ((.z 0 rfl (.z 1 rfl (.z 2 rfl (.z 3 rfl .nil)))))
   refine zu (zo xw) (by decide) (xr hrec_types_checker_checked (a0 := a0) (a1 := a1) SB55 er53) ?_
   rintro v56 w54 ⟨_, rfl, S2⟩
   replace S := back _ _ _ _ S2 rfl
   clear back S2 SB55
   refine wd (zA rfl) (zd (zn ?_))
   refine ⟨_, (zS (ze rfl)), ?_⟩
   replace S := S.arr [0] []
   obtain rfl := Option.some.inj H
   exact ⟨v56, rfl, S⟩
  replace H := if_f hc52 H
  refine zt (zb (za (wd (zj xp rfl ((S.blk 3).all _ (Checker.len _)) (Checker.len _)) (wd (zj xn rfl ((S.blk 2).all _ (Term.len _)) (Term.len _)) (wd (zr rfl) (wd (zi yk rfl (o' := 3) rfl) ?_))))))
  refine wd (zm zQ rfl ((S.blk 0).cell (Nd.get_r _))) ?_
  obtain ⟨r57, er57, H⟩ := zp H
  obtain ⟨B59, MB59, SB59, back⟩ := S.calln 0 ((.z 0 rfl (.z 1 rfl (.z 2 rfl (.z 3 rfl .nil)))))
  refine zu (zo xw) (by decide) (xr hrec_types_checker_checked (a0 := a0) (a1 := a1) SB59 er57) ?_
  rintro v60 w58 ⟨_, rfl, S2⟩
  replace S := back _ _ _ _ S2 rfl
  clear back S2 SB59
  refine wd (zA rfl) (zd (zn ?_))
  refine ⟨_, (zS (ze rfl)), ?_⟩
  replace S := S.arr [0] []
  obtain rfl := Option.some.inj H
  exact ⟨v60, rfl, S⟩
 replace H := if_f hc43 H
 refine zb (za (wd (zN rfl rfl) (wd (zl rfl) (zd ?_))))
 refine zC rfl (fun hc61 => ?_) (fun hc61 => ?_)
 ·replace H := if_t hc61 H
  refine zb (za (wd (zj xp rfl ((S.blk 1).all _ (Checker.len _)) (Checker.len _)) (wd (zj xn rfl ((S.blk 0).all _ (Term.len _)) (Term.len _)) (wd (zr rfl) ?_))))
  obtain ⟨r62, er62, H⟩ := zp H
  obtain ⟨B64, MB64, SB64, back⟩ := S.calln 0 ((.z 0 rfl (.z 1 rfl (.z 2 rfl (.z 3 rfl .nil)))))
  refine zu (zo yy) (by decide) (yq hrec_types_checker_told (a0 := a0) (a1 := a1) SB64 er62) ?_
  rintro _ w63 ⟨v65, rfl, S2⟩
  replace S := back _ _ _ _ S2 rfl
  clear back S2 SB64
  refine wd (zK rfl) (wd (zk rfl rfl) (wd (zk rfl rfl) ?_))
  refine zP uW (by decide) fun b67 w66 hw66 => ?_
  replace S := S.new hw66
  refine zx ya rfl rfl (S.blk 0) (Nd.len _) (by rw [Nd.len]; decide) (Nd.one _) (zG (Nd.len _)) fun w68 B hw68 zw68 => ?_
  replace S := S.store 0 B hw68
  clear B
  refine wd (zA rfl) (zd (zb (zb (za (wd (zW rfl) (wd (does_neE vO rfl rfl (S.onO 1)) (zd ?_)))))))
  refine zC rfl (fun hc69 => ?_) (fun hc69 => ?_)
  ·replace H := if_t hc69 H
   refine zb (za (wd (zW rfl) (wd (zA rfl) (zd (zn ?_)))))
   refine ⟨_, (zS (ze rfl)), ?_⟩
   replace S := S.arr [1] []
   obtain rfl := Option.some.inj H
   exact ⟨v65, rfl, S⟩
  replace H := if_f hc69 H
  refine zt (zb (zb ?_))
  refine jk 9 [7]
   (fun i v u => match i with
   | 7 => ∃ b : Nat, v = Value.pointer (some ⟨b, 0, none⟩) ∧ Blk u b uh (Scope.C ⟨a1.name, r62.1.l, a_2⟩) ∧ w68.heap.size ≤ b
   | _ => True) hmix (by kernel_rfl) (by kernel_rfl) ?_ ?_
  ·intro i v u u' hi hx hv
   match i, hv with
   | 7, ⟨b, e1, hb, hl⟩ => exact ⟨b, e1, hb.ext hx, hl⟩
   | 0, _ => exact trivial
   | 1, _ => exact trivial
   | 2, _ => exact trivial
   | 3, _ => exact trivial
   | 4, _ => exact trivial
   | 5, _ => exact trivial
   | 6, _ => exact trivial
   | _ + 8, _ => exact trivial
  refine zz (fun v K => zj xp rfl (((S.ext K).blk 3).all _ (Checker.len _)) (Checker.len _)) rfl (zz (fun v K => zj xn rfl (((S.ext K).blk 2).all _ (Term.len _)) (Term.len _)) rfl (zz (fun v K => zr rfl) rfl (zz (fun v K => zi uk rfl (o' := 1) rfl) rfl (zz (fun v K => zm xY rfl (((S.ext K).blk 2).cell (Term.get_name _))) rfl (zz (fun v K => zi yB rfl (o' := 2) rfl) rfl ?_)))))
  refine zz (fun v K => zm zQ rfl (((S.ext K).blk 0).cell (Nd.get_l _))) rfl ?_
  refine yH (fun g v K G => ⟨_, _, zM yc (zO rfl (zO rfl (zO rfl rfl))), newc (yd _ _ _ _) fun _ _ ⟨b, hv, hx, hb, hl⟩ => ⟨hx, b, hv, hb, by have := K.size; omega⟩⟩) rfl (zz (fun v K => zh rfl) rfl ?_)
  refine yQ fun g w71 K hV => ?_
  obtain ⟨b70, hv727, hb7, hf7⟩ := hV 7 rfl (by decide)
  replace S := (S.newAt K hb7 hf7).pushScope 0 2
  clear K hV
  obtain ⟨r73, er73, H⟩ := zp H
  obtain ⟨B75, MB75, SB75, back⟩ := S.calln 0 ((.z 1 rfl (.z 2 rfl (.z 0 rfl (.z 4 rfl .nil)))))
  refine zu (zM xw (zO rfl (zO rfl (zO rfl (zO hv727 (zO rfl rfl)))))) (by decide) (xr hrec_types_checker_checked (a0 := a0) (a1 := a1) SB75 er73) ?_
  rintro v76 w74 ⟨_, rfl, S2⟩
  replace S := back _ _ _ _ S2 rfl
  clear back S2 SB75
  refine wd (zA rfl) (zd (zb (za (wd (zW rfl) (wd (does_neE vO rfl rfl (S.onO 0)) (zd ?_))))))
  refine zC rfl (fun hc77 => ?_) (fun hc77 => ?_)
  ·replace H := if_t hc77 H
   refine zb (za (wd (zW rfl) (wd (zA rfl) (zd (zn ?_)))))
   refine ⟨_, (zS (ze rfl)), ?_⟩
   replace S := S.arr [0] []
   obtain rfl := Option.some.inj H
   exact ⟨v76, rfl, S⟩
  replace H := if_f hc77 H
  refine zt (zb ?_)
  refine jk 9 [7]
   (fun i v u => match i with
   | 7 => ∃ b : Nat, v = Value.pointer (some ⟨b, 0, none⟩) ∧ Blk u b uh (Scope.C ⟨a1.other, r62.1.r, a_2⟩) ∧ w74.heap.size ≤ b
   | _ => True) hmix (by kernel_rfl) (by kernel_rfl) ?_ ?_
  ·intro i v u u' hi hx hv
   match i, hv with
   | 7, ⟨b, e1, hb, hl⟩ => exact ⟨b, e1, hb.ext hx, hl⟩
   | 0, _ => exact trivial
   | 1, _ => exact trivial
   | 2, _ => exact trivial
   | 3, _ => exact trivial
   | 4, _ => exact trivial
   | 5, _ => exact trivial
   | 6, _ => exact trivial
   | _ + 8, _ => exact trivial
  refine zz (fun v K => zj xp rfl (((S.ext K).blk 4).all _ (Checker.len _)) (Checker.len _)) rfl (zz (fun v K => zj xn rfl (((S.ext K).blk 3).all _ (Term.len _)) (Term.len _)) rfl (zz (fun v K => zr rfl) rfl (zz (fun v K => zi zaH rfl (o' := 2) rfl) rfl (zz (fun v K => zm xY rfl (((S.ext K).blk 3).cell (Term.get_other _))) rfl (zz (fun v K => zi yk rfl (o' := 3) rfl) rfl ?_)))))
  refine zz (fun v K => zm zQ rfl (((S.ext K).blk 1).cell (Nd.get_r _))) rfl ?_
  refine yH (fun g v K G => ⟨_, _, zM yc (zO rfl (zO rfl (zO rfl rfl))), newc (yd _ _ _ _) fun _ _ ⟨b, hv, hx, hb, hl⟩ => ⟨hx, b, hv, hb, by have := K.size; omega⟩⟩) rfl (zz (fun v K => zh rfl) rfl ?_)
  refine yQ fun g w79 K hV => ?_
  obtain ⟨b78, hv807, hb7, hf7⟩ := hV 7 rfl (by decide)
  replace S := (S.newAt K hb7 hf7).pushScope 0 3
  clear K hV
  obtain ⟨r81, er81, H⟩ := zp H
  obtain ⟨B83, MB83, SB83, back⟩ := S.calln 0 ((.z 2 rfl (.z 3 rfl (.z 0 rfl (.z 5 rfl .nil)))))
  refine zu (zM xw (zO rfl (zO rfl (zO rfl (zO hv807 (zO rfl rfl)))))) (by decide) (xr hrec_types_checker_checked (a0 := a0) (a1 := a1) SB83 er81) ?_
  rintro v84 w82 ⟨_, rfl, S2⟩
  replace S := back _ _ _ _ S2 rfl
  clear back S2 SB83
  refine wd (zA rfl) (zd (zn ?_))
  refine ⟨_, (zS (ze rfl)), ?_⟩
  replace S := S.arr [0] []
  obtain rfl := Option.some.inj H
  exact ⟨v84, rfl, S⟩
 replace H := if_f hc61 H
 refine zb (za (wd (zN rfl rfl) (wd (zl rfl) (zd ?_))))
 refine zC rfl (fun hc85 => ?_) (fun hc85 => ?_)
 ·replace H := if_t hc85 H
  refine zb (za (wd (zj xp rfl ((S.blk 1).all _ (Checker.len _)) (Checker.len _)) (wd (zj xn rfl ((S.blk 0).all _ (Term.len _)) (Term.len _)) (wd (zr rfl) ?_))))
  obtain ⟨r86, er86, H⟩ := zp H
  obtain ⟨B88, MB88, SB88, back⟩ := S.calln 0 ((.z 0 rfl (.z 1 rfl (.z 2 rfl (.z 3 rfl .nil)))))
  refine zu (zo yy) (by decide) (yq hrec_types_checker_told (a0 := a0) (a1 := a1) SB88 er86) ?_
  rintro _ w87 ⟨v89, rfl, S2⟩
  replace S := back _ _ _ _ S2 rfl
  clear back S2 SB88
  refine wd (zK rfl) (wd (zk rfl rfl) (wd (zk rfl rfl) ?_))
  refine zP uW (by decide) fun b91 w90 hw90 => ?_
  replace S := S.new hw90
  refine zx ya rfl rfl (S.blk 0) (Nd.len _) (by rw [Nd.len]; decide) (Nd.one _) (zG (Nd.len _)) fun w92 B hw92 zw92 => ?_
  replace S := S.store 0 B hw92
  clear B
  refine wd (zA rfl) (zd (zb (za (wd (zW rfl) (wd (zA rfl) (zd (zn ?_)))))))
  refine ⟨_, (zS (ze rfl)), ?_⟩
  replace S := S.arr [1] []
  obtain rfl := Option.some.inj H
  exact ⟨v89, rfl, S⟩
 replace H := if_f hc85 H
 refine zb (za (wd (zN rfl rfl) (wd (zl rfl) (zd ?_))))
 refine zC rfl (fun hc93 => ?_) (fun hc93 => ?_)
 ·replace H := if_t hc93 H
  refine zb (za (wd (zj xp rfl ((S.blk 1).all _ (Checker.len _)) (Checker.len _)) (wd (zj xn rfl ((S.blk 0).all _ (Term.len _)) (Term.len _)) (wd (zr rfl) ?_))))
  obtain ⟨r94, er94, H⟩ := zp H
  obtain ⟨B96, MB96, SB96, back⟩ := S.calln 0 ((.z 0 rfl (.z 1 rfl (.z 2 rfl (.z 3 rfl .nil)))))
  refine zu (zo yz) (by decide) (yt hrec_types_checker_told (a0 := a0) (a1 := a1) SB96 er94) ?_
  rintro _ w95 ⟨v97, rfl, S2⟩
  replace S := back _ _ _ _ S2 rfl
  clear back S2 SB96
  refine wd (zK rfl) (wd (zk rfl rfl) (wd (zk rfl rfl) (wd (zf rfl) (wd (zA rfl) (zd (zb (zb (za ?_))))))))
  refine wd (zW rfl) (wd (does_neE vO rfl rfl (S.onO 0)) (zd ?_))
  refine zC rfl (fun hc98 => ?_) (fun hc98 => ?_)
  ·replace H := if_t hc98 H
   refine zb (za (wd (zW rfl) (wd (zA rfl) (zd (zn ?_)))))
   refine ⟨_, (zS (ze rfl)), ?_⟩
   replace S := S.arr [0] []
   obtain rfl := Option.some.inj H
   exact ⟨v97, rfl, S⟩
  replace H := if_f hc98 H
  refine zt (zb ?_)
  refine jk 8 [6]
   (fun i v u => match i with
   | 6 => ∃ b : Nat, v = Value.pointer (some ⟨b, 0, none⟩) ∧ Blk u b uh (Scope.C ⟨a1.name, r94.1, a_2⟩) ∧ w95.heap.size ≤ b
   | _ => True) hmix (by kernel_rfl) (by kernel_rfl) ?_ ?_
  ·intro i v u u' hi hx hv
   match i, hv with
   | 6, ⟨b, e1, hb, hl⟩ => exact ⟨b, e1, hb.ext hx, hl⟩
   | 0, _ => exact trivial
   | 1, _ => exact trivial
   | 2, _ => exact trivial
   | 3, _ => exact trivial
   | 4, _ => exact trivial
   | 5, _ => exact trivial
   | _ + 7, _ => exact trivial
  refine zz (fun v K => zj xp rfl (((S.ext K).blk 2).all _ (Checker.len _)) (Checker.len _)) rfl (zz (fun v K => zj xn rfl (((S.ext K).blk 1).all _ (Term.len _)) (Term.len _)) rfl (zz (fun v K => zr rfl) rfl (zz (fun v K => zi uk rfl (o' := 1) rfl) rfl (zz (fun v K => zm xY rfl (((S.ext K).blk 1).cell (Term.get_name _))) rfl (zz (fun v K => zh rfl) rfl ?_)))))
  refine yH (fun g v K G => ⟨_, _, zM yc (zO rfl (zO rfl (zO rfl rfl))), newc (yd _ _ _ _) fun _ _ ⟨b, hv, hx, hb, hl⟩ => ⟨hx, b, hv, hb, by have := K.size; omega⟩⟩) rfl (zz (fun v K => zh rfl) rfl ?_)
  refine yQ fun g w100 K hV => ?_
  obtain ⟨b99, hv1016, hb6, hf6⟩ := hV 6 rfl (by decide)
  replace S := (S.newAt K hb6 hf6).pushScope 0 2
  clear K hV
  obtain ⟨r102, er102, H⟩ := zp H
  obtain ⟨B104, MB104, SB104, back⟩ := S.calln 0 ((.z 1 rfl (.z 2 rfl (.z 0 rfl (.z 4 rfl .nil)))))
  refine zu (zM xw (zO rfl (zO rfl (zO rfl (zO hv1016 (zO rfl rfl)))))) (by decide) (xr hrec_types_checker_checked (a0 := a0) (a1 := a1) SB104 er102) ?_
  rintro v105 w103 ⟨_, rfl, S2⟩
  replace S := back _ _ _ _ S2 rfl
  clear back S2 SB104
  refine wd (zA rfl) (zd (zn ?_))
  refine ⟨_, (zS (ze rfl)), ?_⟩
  replace S := S.arr [0] []
  obtain rfl := Option.some.inj H
  exact ⟨v105, rfl, S⟩
 replace H := if_f hc93 H
 refine zt (zb (za (wd (zj xp rfl ((S.blk 1).all _ (Checker.len _)) (Checker.len _)) (wd (zj xn rfl ((S.blk 0).all _ (Term.len _)) (Term.len _)) (wd (zr rfl) ?_)))))
 obtain ⟨r106, er106, H⟩ := zp H
 obtain ⟨B108, MB108, SB108, back⟩ := S.calln 0 ((.z 0 rfl (.z 1 rfl (.z 2 rfl (.z 3 rfl .nil)))))
 refine zu (zo uz) (by decide) (hrec_types_checker_told (a0 := a0) (a1 := a1) SB108 er106) ?_
 rintro _ w107 ⟨v109, rfl, S2⟩
 replace S := back _ _ _ _ S2 rfl
 clear back S2 SB108
 refine wd (zK rfl) (wd (zk rfl rfl) (wd (zk rfl rfl) (wd (zf rfl) (wd (zA rfl) (zd (zb (zb (za ?_))))))))
 refine wd (zW rfl) (wd (does_eqE vO rfl rfl (S.onO 0)) (wd (zB rfl) ?_))
 refine wg (fun hg => zh rfl) ?_
 refine wg (fun hg => zh rfl) ?_
 refine wg (fun hg => xc (zq hg) (zq hg)) (wd (xe rfl (fun hp => (zq (xF hp)))) (zd ?_))
 refine zC rfl (fun hc110 => ?_) (fun hc110 => ?_)
 ·replace H := if_t hc110 H
  refine za (wd (Does.to (v' := .agg (Refusal.C (⟨130, SlV.nil⟩ : Refusal)).toArray) (xh (vs := [(0, .int .i64 130)]) jS (x6 rfl rfl) (Bld.one rfl rfl (by rw [Refusal.len]; decide) (Refusal.set_code _ _) Bld.nil)) rfl) ?_)
  refine zJ rfl (by decide) fun b112 w111 hw111 => ?_
  replace S := S.new hw111
  refine wd (does_makeInterface rfl) ?_
  replace S := ((S.nil zX 1 IC).front 1).mkE
  refine wd (zA rfl) (zd (zb (za (wd (zW rfl) (wd (zA rfl) (zd (zn ?_)))))))
  refine ⟨_, (zS (ze rfl)), ?_⟩
  replace S := S.arr [0] []
  obtain rfl := Option.some.inj H
  exact ⟨(.iface xO (.pointer (some ⟨b112, 0, none⟩))), rfl, S⟩
 ·replace H := if_f hc110 H
  refine zt (zb (za (wd (zW rfl) (wd (zA rfl) (zd (zn ?_))))))
  refine ⟨_, (zS (ze rfl)), ?_⟩
  replace S := S.arr [0] []
  obtain rfl := Option.some.inj H
  exact ⟨v109, rfl, S⟩
theorem types_tc_both : ∀ (k : Nat), (∀ {A : Nat → Prop} {N : Oth} {w : World} {a0 : PChecker} {a_0 : Option Addr} {a1 : PTerm} {s_1 : SlV} {a2 : List (ByteArray × Int)} {a_2 : Option Addr} (S : St A N w w [] [oT a_0 a0.t, xb s_1 a1.sub, xR a_2 a2, oEt]) {r : Int × (Option (Int × List Int))} (H : types_checker_told.f k a0 a1 a2 = some r), Calls PP xV #[.agg (Checker.C (⟨a_0⟩ : Checker)).toArray, .agg (Term.C (⟨a1.kind, a1.name, a1.other, a1.form, s_1⟩ : Term)).toArray, .pointer a_2] w fun e w' => ∃ v, e = .returned v ∧ (∃ vo0 : Value, v = .tuple #[.int .i64 r.1, vo0] ∧ St A N w w' [oE vo0 r.2] [])) ∧ (∀ {A : Nat → Prop} {N : Oth} {w : World} {a0 : PChecker} {a_0 : Option Addr} {a1 : PTerm} {s_1 : SlV} {a2 : List (ByteArray × Int)} {a_2 : Option Addr} {a3 : Int} (S : St A N w w [] [oT a_0 a0.t, xb s_1 a1.sub, xR a_2 a2, oEt]) {r : (Option (Int × List Int))} (H : types_checker_checked.f k a0 a1 a2 a3 = some r), Calls PP xS #[.agg (Checker.C (⟨a_0⟩ : Checker)).toArray, .agg (Term.C (⟨a1.kind, a1.name, a1.other, a1.form, s_1⟩ : Term)).toArray, .pointer a_2, .int .i64 a3] w fun e w' => ∃ v, e = .returned v ∧ (∃ vo0 : Value, v = vo0 ∧ St A N w w' [oE vo0 r] [])) := by
 intro k
 induction k with
 | zero =>
  refine ⟨?_, ?_⟩
  ·intro A N w a0 a_0 a1 s_1 a2 a_2 S r H; cases H
  ·intro A N w a0 a_0 a1 s_1 a2 a_2 a3 S r H; cases H
 | succ k ih =>
  refine ⟨?_, ?_⟩
  ·intro A N w a0 a_0 a1 s_1 a2 a_2 S r H; exact types_checker_told_gst ih.1 ih.2 S H
  ·intro A N w a0 a_0 a1 s_1 a2 a_2 a3 S r H; exact zak ih.1 ih.2 S H
theorem types_checker_told_st {A : Nat → Prop} {N : Oth} {w : World} {a0 : PChecker} {a_0 : Option Addr} {a1 : PTerm} {s_1 : SlV} {a2 : List (ByteArray × Int)} {a_2 : Option Addr} (S : St A N w w [] [oT a_0 a0.t, xb s_1 a1.sub, xR a_2 a2, oEt]) {k : Nat} {r : Int × (Option (Int × List Int))} (H : types_checker_told.f k a0 a1 a2 = some r) :
  Calls PP xV #[.agg (Checker.C (⟨a_0⟩ : Checker)).toArray, .agg (Term.C (⟨a1.kind, a1.name, a1.other, a1.form, s_1⟩ : Term)).toArray, .pointer a_2] w fun e w' => ∃ v, e = .returned v ∧ (∃ vo0 : Value, v = .tuple #[.int .i64 r.1, vo0] ∧ St A N w w' [oE vo0 r.2] []) := by exact (types_tc_both k).1 S H
theorem zaI {A : Nat → Prop} {N : Oth} {w : World} {a0 : PChecker} {a_0 : Option Addr} {a1 : PTerm} {s_1 : SlV} {a2 : List (ByteArray × Int)} {a_2 : Option Addr} {a3 : Int} (S : St A N w w [] [oT a_0 a0.t, xb s_1 a1.sub, xR a_2 a2, oEt]) {k : Nat} {r : (Option (Int × List Int))} (H : types_checker_checked.f k a0 a1 a2 a3 = some r) :
  Calls PP xS #[.agg (Checker.C (⟨a_0⟩ : Checker)).toArray, .agg (Term.C (⟨a1.kind, a1.name, a1.other, a1.form, s_1⟩ : Term)).toArray, .pointer a_2, .int .i64 a3] w fun e w' => ∃ v, e = .returned v ∧ (∃ vo0 : Value, v = vo0 ∧ St A N w w' [oE vo0 r] []) := by exact (types_tc_both k).2 S H
theorem types_ahead_st {A : Nat → Prop} {N : Oth} {w : World} {a0 : Tb} {a_0 : Option Addr} {a1 : List Hyp} {s_1 : SlV} {a2 : PTerm} {s_2 : SlV} {a3 : List Int} {s_3 : SlV} (S : St A N w w [oS zX 1 IC s_3 a3] [oT a_0 a0, fS 2 Hyp.C s_1 a1, xb s_2 a2.sub]) {k : Nat} {r : (List (ByteArray × Int)) × Int} (H : types_ahead.f k a0 a1 a2 a3 = some r) :
  Calls PP F_types_ahead #[.pointer a_0, s_1.v, .agg (Term.C (⟨a2.kind, a2.name, a2.other, a2.form, s_2⟩ : Term)).toArray, s_3.v] w fun e w' => ∃ v, e = .returned v ∧ (∃ ao0 : Option Addr, v = .tuple #[.pointer ao0, .int .i64 r.2] ∧ St A N w w' [] [xR ao0 r.1]) := by
 unfold types_ahead.f at H
 refine zw (n := 63) fn_types_ahead rfl rfl (by simp) (zb (za ?_))
 refine zJ rfl (by decide) fun b2 w1 hw1 => ?_
 replace S := S.new hw1
 refine wd (xj rfl) ?_
 replace S := S.nil_fScopeZ
 refine wd (zf rfl) (zd (zb (zb (za (wd (zr rfl) ?_)))))
 obtain ⟨r3, er3, H⟩ := zp H
 obtain ⟨B5, MB5, SB5, back⟩ := S.calln 0 ((.z 1 rfl .nil))
 refine zu (zo uM) (by decide) (vP SB5 rfl er3) ?_
 rintro _ w4 ⟨rfl, S2⟩
 replace S := back _ _ _ _ S2 rfl
 clear back S2 SB5
 refine wd (zK rfl) (wd (zk rfl rfl) (wd (zk rfl rfl) (wd (zf rfl) (wd (zf rfl) (zd (zb (za ?_)))))))
 refine wd (zh rfl) (wd (zN rfl rfl) (zd ?_))
 refine zC rfl (fun hc6 => ?_) (fun hc6 => ?_)
 ·replace H := if_t hc6 H
  refine zb (za (wd (zh rfl) (wd (xj rfl) ?_)))
  replace S := S.nil_fScopeZ
  refine wd (zf rfl) (zd (zn ?_))
  refine ⟨_, (zU (ze rfl) (ze rfl)), ?_⟩
  replace S := S.arr [] [0]
  obtain rfl := Option.some.inj H
  exact ⟨none, rfl, S⟩
 replace H := if_f hc6 H
 refine zt (zb (za (wd (xj rfl) ?_)))
 replace S := S.nil_fScopeZ
 refine zd (zb (zb (za (wd (zR rfl) (wd (xG ui rfl (S.rd 3)) (wd (zh rfl) (zd ?_)))))))
 obtain ⟨o7, e7, Ho7⟩ := zp H
 clear H
 refine yT [3, 12, 14, 29, 30, 31, 32, 33, 34, 35, 36, 37, 38, 39, 40, 41, 42, 43, 44] (fun fr W => ∃ s8 : SlV, ∃ a9 : Option Addr, fr 3 = s8.v ∧ fr 12 = .pointer a9 ∧ St A N w W [oB b2 xP (Term.C (⟨a2.kind, a2.name, a2.other, a2.form, s_2⟩ : Term)), oS zX 1 IC s8 o7.1] [xR a9 o7.2, xR none ([] : List (ByteArray × Int)), oT a_0 a0, fS 2 Hyp.C s_1 a1, xb s_2 a2.sub]) ?_ ?_
 ·refine zF ?_
  refine yp (α := Nat × Int × (List Int × (List (ByteArray × Int)))) [3, 12, 14, 29, 30, 31, 32, 33, 34, 35, 36, 37, 38, 39, 40, 41, 42, 43, 44] (fun x fr W => (x.1 : Int) = (a1.length : Int) - x.2.1 ∧ 0 ≤ x.2.1 ∧ forS (fun i s => types_ahead.b0 a1 i s.1 s.2) x.1 x.2.1 x.2.2 = some o7 ∧ ∃ s10 : SlV, ∃ a11 : Option Addr, fr 29 = .int .i64 x.2.1 ∧ fr 3 = s10.v ∧ fr 12 = .pointer a11 ∧ St A N w W [oB b2 xP (Term.C (⟨a2.kind, a2.name, a2.other, a2.form, s_2⟩ : Term)), oS zX 1 IC s10 (x.2.2.1)] [xR a11 (x.2.2.2), xR none ([] : List (ByteArray × Int)), oT a_0 a0, fS 2 Hyp.C s_1 a1, xb s_2 a2.sub]) (fun x => x.1) (((a1.length : Int) - 0).toNat, 0, (a3, ([] : List (ByteArray × Int)))) ⟨(by dsimp only; have hle := Int.natCast_nonneg (a1.length); omega), (Int.le_refl _), (by dsimp only; exact e7), s_3, none, rfl, rfl, rfl, S⟩ ?_
  rintro ⟨m7, i7, ⟨x7_0, x7_1⟩⟩ g7 u7 ⟨hm7, hl7, e7, s12, a13, q7_i, q7_3, q7_12, S⟩
  try dsimp only at hm7
  try dsimp only at hl7
  try dsimp only at e7
  try dsimp only at S
  try dsimp only at q7_i
  try dsimp only at q7_3
  try dsimp only at q7_12
  refine zb (za (wd (xm q7_i rfl) (zd (zb ?_))))
  refine zC rfl (fun hc14 => ?_) (fun hc14 => ?_)
  rotate_left
  ·refine yf ?_
   have hge : (a1.length : Int) ≤ i7 := Int.not_lt.1 (of_decide_eq_false hc14)
   obtain rfl : m7 = 0 := by omega
   replace e7 := forS_0 e7
   obtain rfl := e7
   exact ⟨rfl, ((Dif.self _ _ _).upd rfl _), s12, a13, q7_3, q7_12, S⟩
  refine zt ?_
  have hlt7 : i7 < (a1.length : Int) := of_decide_eq_true hc14
  obtain ⟨m7, rfl⟩ : ∃ m, m7 = m + 1 := ⟨m7 - 1, by omega⟩
  obtain ⟨q7, H, e7⟩ := forS_s e7
  unfold types_ahead.b0 at H
  try dsimp only at H
  have hb7 := (S.len 3)
  refine zb ?_
  refine zF (zb (za (wd (zZ ui rfl q7_i (S.rd 3) (And.intro (show 0 ≤ i7 by omega) (show i7 < (a1.length : Int) from hlt7)).1 (And.intro (show 0 ≤ i7 by omega) (show i7 < (a1.length : Int) from hlt7)).2) (wd (zj ag_Hyp rfl ((S.rd 3).at (yg Hyp.z (And.intro (show 0 ≤ i7 by omega) (show i7 < (a1.length : Int) from hlt7)))) (Hyp.len _)) ?_))))
  refine zP ze_Hyp (by decide) fun b17 w16 hw16 => ?_
  replace S := S.new hw16
  refine zx ag_Hyp rfl rfl (S.blk 0) (Hyp.len _) (by rw [Hyp.len]; decide) (Hyp.one _) (zG (Hyp.len _)) fun w18 B hw18 zw18 => ?_
  replace S := S.store 0 B hw18
  clear B
  refine zd (zb (za (wd (zR q7_3) (wd (zi fl_Hyp_form rfl (o' := 1) rfl) (wd (zm zQ rfl ((S.blk 0).cell (Hyp.get_form _))) ?_)))))
  refine xx (C := IC) (l := [(at_ Hyp.z a1 i7).form]) (vs := [.int .i64 ((at_ Hyp.z a1 i7).form)]) zY yh.zero rfl rfl (fun _ _ => rfl) (by decide) rfl (by decide) fun b20 w19 s21 hBw19 hw19 => ?_
  replace S := S.lit hBw19 hw19 (by simp)
  obtain ⟨ha24, H⟩ := xK H
  have ha24 := of_decide_eq_true ha24
  refine yK (C := IC) zY yh rfl rfl (S.sl 3) (S.rdO 0) (by simp) (fun a _ v hv => by rw [List.mem_singleton.1 hv]; rfl) ha24 (by omega) (by decide) fun s23 w22 O hw22 gw22 => ?_
  replace S := S.push 3 O (by first | (simp; done) | (simp; omega)) hw22 gw22
  clear O
  refine wd (xa rfl) (zd (za (wd (zr q7_12) (wd (zi fl_Hyp_name rfl (o' := 0) rfl) (wd (zm xY rfl ((S.blk 2).cell (Hyp.get_name _))) ?_)))))
  refine wd (zi fl_Hyp_form rfl (o' := 1) rfl) (wd (zm zQ rfl ((S.blk 2).cell (Hyp.get_form _))) ?_)
  obtain ⟨r25, er25, H⟩ := zp H
  obtain ⟨B27, MB27, SB27, back⟩ := S.sub [0] [] [oS zX 1 IC s23 (x7_0 ++ [(at_ Hyp.z a1 i7).form]), oS zX 1 IC s21 ([(at_ Hyp.z a1 i7).form]), oB b17 T_Hyp (Hyp.C (at_ Hyp.z a1 i7)), oB b2 xP (Term.C (⟨a2.kind, a2.name, a2.other, a2.form, s_2⟩ : Term))]
  refine zu (zo yc) (by decide) (types_scope_with_st SB27 er25) ?_
  rintro _ w26 ⟨a28, rfl, S2⟩
  replace S := back _ _ _ _ _ S2 rfl rfl
  clear back S2 SB27
  refine wd (xj rfl) (zd (za (wd (xg q7_i rfl (c := i7 + 1) rfl (by omega) (by omega)) (wd (zh rfl) (zd ?_)))))
  replace S := S.arr [3, 0] [0, 2, 3, 4, 5]
  obtain rfl := Option.some.inj H
  exact ⟨rfl, ((((((((((((((((((((Dif.self _ _ _).upd rfl _).upd rfl _).upd rfl _).upd rfl _).upd rfl _).upd rfl _).upd rfl _).upd rfl _).upd rfl _).upd rfl _).upd rfl _).upd rfl _).upd rfl _).upd rfl _).upd rfl _).upd rfl _).upd rfl _).upd rfl _).upd rfl _), (m7, i7 + 1, (x7_0 ++ [(at_ Hyp.z a1 i7).form], r25)), ⟨(by dsimp only; omega), (by dsimp only; omega), e7, s23, a28, rfl, rfl, rfl, S⟩, by dsimp only; omega⟩
 rintro g29 u30 ⟨s8, a9, p7_3, p7_12, S⟩
 have H := Ho7
 refine zb (zb (za (wd (zR p7_3) (wd (xG zY rfl (S.rdO 1)) (wd (zh rfl) (zd ?_))))))
 obtain ⟨o31, e31, Ho31⟩ := zp H
 clear H
 refine yT [8, 9, 16, 17, 18, 47, 48, 49, 50, 51, 52, 53, 54, 55, 56, 57, 58, 59] (fun fr W => ∃ s31 : Unit, o31 = .inl s31 ∧ St A N w W [oB b2 xP (Term.C (⟨a2.kind, a2.name, a2.other, a2.form, s_2⟩ : Term)), oS zX 1 IC s8 o7.1] [xR a9 o7.2, xR none ([] : List (ByteArray × Int)), oT a_0 a0, fS 2 Hyp.C s_1 a1, xb s_2 a2.sub]) ?_ ?_
 ·refine zF ?_
  refine yp (α := Nat × Int × Unit) [8, 9, 16, 17, 18, 47, 48, 49, 50, 51, 52, 53, 54, 55, 56, 57, 58, 59] (fun x fr W => (x.1 : Int) = (o7.1.length : Int) - x.2.1 ∧ 0 ≤ x.2.1 ∧ forN (fun i s => types_ahead.b1 a0 o7 i) x.1 x.2.1 x.2.2 = some o31 ∧ fr 47 = .int .i64 x.2.1 ∧ St A N w W [oB b2 xP (Term.C (⟨a2.kind, a2.name, a2.other, a2.form, s_2⟩ : Term)), oS zX 1 IC s8 o7.1] [xR a9 o7.2, xR none ([] : List (ByteArray × Int)), oT a_0 a0, fS 2 Hyp.C s_1 a1, xb s_2 a2.sub]) (fun x => x.1) (((o7.1.length : Int) - 0).toNat, 0, ()) ⟨(by dsimp only; have hle := Int.natCast_nonneg (o7.1.length); omega), (Int.le_refl _), (by dsimp only; exact e31), rfl, S⟩ ?_
  rintro ⟨m31, i31, _⟩ g31 u31 ⟨hm31, hl31, e31, q31_i, S⟩
  try dsimp only at hm31
  try dsimp only at hl31
  try dsimp only at e31
  try dsimp only at S
  try dsimp only at q31_i
  refine zb (za (wd (xm q31_i rfl) (zd (zb ?_))))
  refine zC rfl (fun hc32 => ?_) (fun hc32 => ?_)
  rotate_left
  ·refine yf ?_
   have hge : (o7.1.length : Int) ≤ i31 := Int.not_lt.1 (of_decide_eq_false hc32)
   obtain rfl : m31 = 0 := by omega
   replace e31 := zaG e31
   exact ⟨rfl, ((Dif.self _ _ _).upd rfl _), (), e31, S⟩
  refine zt ?_
  have hlt31 : i31 < (o7.1.length : Int) := of_decide_eq_true hc32
  obtain ⟨m31, rfl⟩ : ∃ m, m31 = m + 1 := ⟨m31 - 1, by omega⟩
  obtain ⟨q31, H, e31⟩ := zay e31
  unfold types_ahead.b1 at H
  try dsimp only at H
  have hb31 := (S.lenO 1)
  refine zb ?_
  refine zF (zb (za (wd (zZ zY rfl q31_i (S.rdO 1) (And.intro (show 0 ≤ i31 by omega) (show i31 < (o7.1.length : Int) from hlt31)).1 (And.intro (show 0 ≤ i31 by omega) (show i31 < (o7.1.length : Int) from hlt31)).2) (wd (zm zQ rfl ((S.rdO 1).one (yg (0 : Int) (And.intro (show 0 ≤ i31 by omega) (show i31 < (o7.1.length : Int) from hlt31))) rfl)) (wd (zf rfl) (zd (zb (za ?_))))))))
  refine wd (zr rfl) (wd (zh rfl) ?_)
  obtain ⟨r34, er34, H⟩ := zp H
  obtain ⟨B36, MB36, SB36, back⟩ := S.calln 0 ((.z 2 rfl .nil))
  refine zu (zo vy) (by decide) (vC SB36 er34) ?_
  rintro _ w35 ⟨rfl, S2⟩
  replace S := back _ _ _ _ S2 rfl
  clear back S2 SB36
  refine wd (zK rfl) (wd (zk rfl rfl) (wd (zk rfl rfl) ?_))
  refine zP uW (by decide) fun b38 w37 hw37 => ?_
  replace S := S.new hw37
  refine zx ya rfl rfl (S.blk 0) (Nd.len _) (by rw [Nd.len]; decide) (Nd.one _) (zG (Nd.len _)) fun w39 B hw39 zw39 => ?_
  replace S := S.store 0 B hw39
  clear B
  refine wd (zl rfl) (zd (zb (za (wd (zB rfl) (wd (xk rfl) (zd ?_))))))
  refine zC rfl (fun hc40 => ?_) (fun hc40 => ?_)
  ·replace H := if_t hc40 H
   refine zb (za (wd (xj rfl) ?_))
   replace S := S.nil_fScopeZ
   refine wd (zf rfl) (zd (zn ?_))
   refine ⟨_, (zU (ze rfl) (ze rfl)), ?_⟩
   replace S := S.arr [] [0]
   obtain rfl := Option.some.inj H
   obtain rfl := e31
   obtain rfl := uV Ho31
   exact ⟨none, rfl, S⟩
  replace H := if_f hc40 H
  refine zt (za (wd (xg q31_i rfl (c := i31 + 1) rfl (by omega) (by omega)) (wd (zh rfl) (zd ?_))))
  replace S := S.arr [1, 2] [0, 1, 2, 3, 4]
  obtain rfl := Option.some.inj H
  exact ⟨rfl, (((((((((((((((((Dif.self _ _ _).upd rfl _).upd rfl _).upd rfl _).upd rfl _).upd rfl _).upd rfl _).upd rfl _).upd rfl _).upd rfl _).upd rfl _).upd rfl _).upd rfl _).upd rfl _).upd rfl _).upd rfl _).upd rfl _), (m31, i31 + 1, ()), ⟨(by dsimp only; omega), (by dsimp only; omega), e31, rfl, S⟩, by dsimp only; omega⟩
 rintro g41 u42 ⟨s31, rfl, S⟩
 have H := Ho31
 dsimp only [aft] at H
 refine zb (za (wd (zr p7_12) (wd (zj xn rfl ((S.blk 0).all _ (Term.len _)) (Term.len _)) ?_)))
 obtain ⟨r43, er43, H⟩ := zp H
 obtain ⟨B45, MB45, SB45, back⟩ := S.calln 0 ((.z 4 rfl .nil))
 refine zu (zo ca_term_Check) (by decide) (term_Check_st (a0 := a2) SB45 er43) ?_
 rintro _ w44 ⟨rfl, S2⟩
 replace S := back _ _ _ _ S2 rfl
 clear back S2 SB45
 refine wd (xj rfl) (wd (zf rfl) (zd (zn ?_)))
 refine ⟨_, (zU (ze rfl) (ze rfl)), ?_⟩
 replace S := S.arr [] [0]
 obtain rfl := Option.some.inj H
 exact ⟨a9, rfl, S⟩
theorem types_Where_st {A : Nat → Prop} {N : Oth} {w : World} {a0 : Tb} {a_0 : Option Addr} {a1 : List Hyp} {s_1 : SlV} {a2 : PTerm} {s_2 : SlV} {a3 : Int} (S : St A N w w [] [oT a_0 a0, fS 2 Hyp.C s_1 a1, xb s_2 a2.sub, oEt]) {k : Nat} {r : List Int × Int} (H : types_Where.f k a0 a1 a2 a3 = some r) :
  Calls PP F_types_Where #[.pointer a_0, s_1.v, .agg (Term.C (⟨a2.kind, a2.name, a2.other, a2.form, s_2⟩ : Term)).toArray, .int .i64 a3] w fun e w' => ∃ v, e = .returned v ∧ (∃ so0 : SlV, v = .tuple #[so0.v, .int .i64 r.2] ∧ St A N w w' [oS zX 1 IC so0 r.1] []) := by
 unfold types_Where.f at H
 refine zw (n := 33) fn_types_Where rfl rfl (by simp) (zb (za ?_))
 refine zJ rfl (by decide) fun b2 w1 hw1 => ?_
 replace S := S.new hw1
 refine wd (z0) (wd (zf rfl) (zd (zb (za (wd (zr rfl) (wd (zR rfl) ?_))))))
 refine wd (zj xn rfl ((S.blk 0).all _ (Term.len _)) (Term.len _)) (wd (zh rfl) ?_)
 refine xx (C := IC) (l := [a3]) (vs := [.int .i64 a3]) zY yh.zero rfl rfl (fun _ _ => rfl) (by decide) rfl (by decide) fun b4 w3 s5 hBw3 hw3 => ?_
 replace S := S.lit hBw3 hw3 (by simp)
 obtain ⟨r6, er6, H⟩ := zp H
 obtain ⟨B8, MB8, SB8, back⟩ := S.sub [0, 1, 2] [oS zX 1 IC s5 ([a3])] [oB b2 xP (Term.C (⟨a2.kind, a2.name, a2.other, a2.form, s_2⟩ : Term))]
 refine zu (zo ca_types_ahead) (by decide) (types_ahead_st (a2 := a2) SB8 er6) ?_
 rintro _ w7 ⟨a9, rfl, S2⟩
 replace S := back _ _ _ _ _ S2 rfl rfl
 clear back S2 SB8
 refine wd (zK rfl) (wd (zk rfl rfl) (wd (zk rfl rfl) (wd (xj rfl) (wd (zf rfl) (zd (zb (zb (za ?_))))))))
 refine wd (zh rfl) (wd (xc rfl rfl) (zd ?_))
 refine zC rfl (fun hc10 => ?_) (fun hc10 => ?_)
 ·replace H := if_t hc10 H
  refine zb (za (wd (zh rfl) (wd (z0) (wd (zf rfl) (zd (zn ?_))))))
  replace S := S.nil zX 1 IC
  refine ⟨_, (zU (ze rfl) (ze rfl)), ?_⟩
  replace S := S.arr [0] []
  obtain rfl := Option.some.inj H
  exact ⟨SlV.nil, rfl, S⟩
 replace H := if_f hc10 H
 refine zt (zb (za (wd (zr rfl) (wd (Does.to (v' := .agg (Checker.C (⟨a_0⟩ : Checker)).toArray) (xh (vs := [(0, .pointer a_0)]) bu_Checker (x6 rfl rfl) (Bld.one rfl rfl (by rw [Checker.len]; decide) (Checker.set_t _ _) Bld.nil)) rfl) (wd (zj xn rfl ((S.blk 0).all _ (Term.len _)) (Term.len _)) (wd (zr rfl) ?_))))))
 refine wd (zh rfl) ?_
 obtain ⟨r11, er11, H⟩ := zp H
 obtain ⟨B13, MB13, SB13, back⟩ := S.calln 0 ((.z 1 rfl (.z 3 rfl (.z 0 rfl (.z 4 rfl .nil)))))
 refine zu (zo jf) (by decide) (zaI (a0 := (⟨a0⟩ : PChecker)) (a1 := a2) SB13 er11) ?_
 rintro v14 w12 ⟨_, rfl, S2⟩
 replace S := back _ _ _ _ S2 rfl
 clear back S2 SB13
 obtain ⟨r15, er15, H⟩ := zp H
 obtain ⟨B17, MB17, SB17, back⟩ := S.calln 1 ((.z 4 rfl .nil))
 refine zu (zo ca_types_code) (by decide) (types_code_st (a0 := r11) SB17 er15) ?_
 rintro _ w16 ⟨s18, rfl, S2⟩
 replace S := back _ _ _ _ S2 rfl
 clear back S2 SB17
 refine wd (zk rfl rfl) (wd (zk rfl rfl) (wd (xa rfl) (wd (zf rfl) (zd (zn ?_)))))
 refine ⟨_, (zU (ze rfl) (ze rfl)), ?_⟩
 replace S := S.arr [0] []
 obtain rfl := Option.some.inj H
 exact ⟨s18, rfl, S⟩
theorem kP {A : Nat → Prop} {N : Oth} {w : World} {a0 : Tb} {a_0 : Option Addr} {a1 : List Hyp} {s_1 : SlV} {a2 : PTerm} {s_2 : SlV} {a3 : Int} (S : St A N w w [] [oT a_0 a0, fS 2 Hyp.C s_1 a1, xb s_2 a2.sub, oEt]) {k : Nat} {r : Int} (H : types_Check.f k a0 a1 a2 a3 = some r) :
  Calls PP F_types_Check #[.pointer a_0, s_1.v, .agg (Term.C (⟨a2.kind, a2.name, a2.other, a2.form, s_2⟩ : Term)).toArray, .int .i64 a3] w fun e w' => ∃ v, e = .returned v ∧ (v = .int .i64 r ∧ St A N w w' [] []) := by
 unfold types_Check.f at H
 refine zw (n := 20) fn_types_Check rfl rfl (by simp) (zb (za ?_))
 refine zJ rfl (by decide) fun b2 w1 hw1 => ?_
 replace S := S.new hw1
 refine wd (zf rfl) (zd (zb (za (wd (zr rfl) (wd (zR rfl) (wd (zj xn rfl ((S.blk 0).all _ (Term.len _)) (Term.len _)) ?_))))))
 refine wd (zh rfl) ?_
 obtain ⟨r3, er3, H⟩ := zp H
 obtain ⟨B5, MB5, SB5, back⟩ := S.calln 0 ((.z 0 rfl (.z 1 rfl (.z 2 rfl (.z 3 rfl .nil)))))
 refine zu (zo ca_types_Where) (by decide) (types_Where_st (a2 := a2) SB5 er3) ?_
 rintro _ w4 ⟨s6, rfl, S2⟩
 replace S := back _ _ _ _ S2 rfl
 clear back S2 SB5
 refine wd (zK rfl) (wd (zk rfl rfl) (wd (zk rfl rfl) (wd (xa rfl) (wd (zf rfl) (zd (zb (za ?_)))))))
 refine wd (zh rfl) (wd (zf rfl) (zd (zn ?_)))
 refine ⟨_, (zS (ze rfl)), ?_⟩
 replace S := S.arr [] []
 obtain rfl := Option.some.inj H
 exact ⟨rfl, S⟩
theorem kW {A : Nat → Prop} {N : Oth} {w : World} {a0 : Tb} {a_0 : Option Addr} {a1 : List Hyp} {s_1 : SlV} {a2 : PTerm} {s_2 : SlV} (S : St A N w w [] [oT a_0 a0, fS 2 Hyp.C s_1 a1, xb s_2 a2.sub, oEt]) {k : Nat} {r : Int × Int} (H : types_Infer.f k a0 a1 a2 = some r) :
  Calls PP F_types_Infer #[.pointer a_0, s_1.v, .agg (Term.C (⟨a2.kind, a2.name, a2.other, a2.form, s_2⟩ : Term)).toArray] w fun e w' => ∃ v, e = .returned v ∧ (v = .tuple #[.int .i64 r.1, .int .i64 r.2] ∧ St A N w w' [] []) := by
 unfold types_Infer.f at H
 refine zw (n := 39) fn_types_Infer rfl rfl (by simp) (zb (za ?_))
 refine zJ rfl (by decide) fun b2 w1 hw1 => ?_
 replace S := S.new hw1
 refine wd (zf rfl) (wd (zf rfl) (zd (zb (za (wd (zr rfl) (wd (zR rfl) ?_))))))
 refine wd (zj xn rfl ((S.blk 0).all _ (Term.len _)) (Term.len _)) ?_
 replace S := S.nil zX 1 IC
 obtain ⟨r3, er3, H⟩ := zp H
 obtain ⟨B5, MB5, SB5, back⟩ := S.sub [0, 1, 2] [oS zX 1 IC SlV.nil ([] : List Int)] [oB b2 xP (Term.C (⟨a2.kind, a2.name, a2.other, a2.form, s_2⟩ : Term))]
 refine zu (zM ca_types_ahead (zO rfl (zO rfl (zO rfl (zO SlV.nil_eq rfl))))) (by decide) (types_ahead_st (a2 := a2) SB5 er3) ?_
 rintro _ w4 ⟨a6, rfl, S2⟩
 replace S := back _ _ _ _ _ S2 rfl rfl
 clear back S2 SB5
 refine wd (zK rfl) (wd (zk rfl rfl) (wd (zk rfl rfl) (wd (xj rfl) (wd (zf rfl) (zd (zb (zb (za ?_))))))))
 refine wd (zh rfl) (wd (xc rfl rfl) (zd ?_))
 refine zC rfl (fun hc7 => ?_) (fun hc7 => ?_)
 ·replace H := if_t hc7 H
  refine zb (za (wd (zh rfl) (wd (zf rfl) (wd (zf rfl) (zd (zn ?_))))))
  refine ⟨_, (zU (ze rfl) (ze rfl)), ?_⟩
  replace S := S.arr [] []
  obtain rfl := Option.some.inj H
  exact ⟨rfl, S⟩
 replace H := if_f hc7 H
 refine zt (zb (za (wd (zr rfl) (wd (Does.to (v' := .agg (Checker.C (⟨a_0⟩ : Checker)).toArray) (xh (vs := [(0, .pointer a_0)]) bu_Checker (x6 rfl rfl) (Bld.one rfl rfl (by rw [Checker.len]; decide) (Checker.set_t _ _) Bld.nil)) rfl) (wd (zj xn rfl ((S.blk 0).all _ (Term.len _)) (Term.len _)) (wd (zr rfl) ?_))))))
 obtain ⟨r8, er8, H⟩ := zp H
 obtain ⟨B10, MB10, SB10, back⟩ := S.calln 0 ((.z 1 rfl (.z 3 rfl (.z 0 rfl (.z 4 rfl .nil)))))
 refine zu (zo uz) (by decide) (types_checker_told_st (a0 := (⟨a0⟩ : PChecker)) (a1 := a2) SB10 er8) ?_
 rintro _ w9 ⟨v11, rfl, S2⟩
 replace S := back _ _ _ _ S2 rfl
 clear back S2 SB10
 refine wd (zK rfl) (wd (zk rfl rfl) (wd (zk rfl rfl) (wd (zf rfl) (wd (zA rfl) (zd (zb (zb (za ?_))))))))
 refine wd (zW rfl) ?_
 obtain ⟨r12, er12, H⟩ := zp H
 obtain ⟨B14, MB14, SB14, back⟩ := S.calln 1 ((.z 4 rfl .nil))
 refine zu (zo ca_types_code) (by decide) (types_code_st (a0 := r8.2) SB14 er12) ?_
 rintro _ w13 ⟨s15, rfl, S2⟩
 replace S := back _ _ _ _ S2 rfl
 clear back S2 SB14
 refine wd (zK rfl) (wd (zk rfl rfl) (wd (zk rfl rfl) (wd (zf rfl) (zd (zb (za ?_))))))
 refine wd (zh rfl) (wd (xc rfl rfl) (zd ?_))
 refine zC rfl (fun hc16 => ?_) (fun hc16 => ?_)
 ·replace H := if_t hc16 H
  refine zb (za (wd (zh rfl) (wd (zf rfl) (wd (zf rfl) (zd (zn ?_))))))
  refine ⟨_, (zU (ze rfl) (ze rfl)), ?_⟩
  replace S := S.arr [] []
  obtain rfl := Option.some.inj H
  exact ⟨rfl, S⟩
 replace H := if_f hc16 H
 refine zt (zb (za (wd (zh rfl) (wd (zf rfl) (wd (zf rfl) (zd (zn ?_)))))))
 refine ⟨_, (zU (ze rfl) (ze rfl)), ?_⟩
 replace S := S.arr [] []
 obtain rfl := Option.some.inj H
 exact ⟨rfl, S⟩
end Go.Proofs.YtjebgcoknpcadaaGreatDoor
end
