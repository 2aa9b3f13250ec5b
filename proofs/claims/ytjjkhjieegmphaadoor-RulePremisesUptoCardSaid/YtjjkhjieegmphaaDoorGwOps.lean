/- One rule for each kind of operation, over frames that are functions: what it makes of its operands. Over whatever program: types' facts are premises. -/
import Derived.Test.YtjjkhjieegmphaaDoorGw
namespace Go.Proofs.YtjjkhjieegmphaaDoor
open Go.RowKit
namespace Gw
section
variable {P : Program} {f : Fr} {w : World} {d : Option Tmp} {ty : TypeId} {pos : String} {af : Array Edge} {gd : Option (Nat × Bool)}

theorem evF_const (v : Value) : evF f (.const v) = v := rfl

theorem Does.val {o : Oper} {v v' : Value} {w' : World} (h : Does P o f w v w') (e : v = v') : Does P o f w v' w' := e ▸ h
theorem does_move {x : Operand} {v : Value} (h : evF f x = v) : Does P ⟨d, .move x, ty, pos, af, gd⟩ f w v w := by subst h; rfl
theorem does_assign {x : Operand} {v : Value} (h : evF f x = v) : Does P ⟨d, .assign x, ty, pos, af, gd⟩ f w v w := by subst h; rfl
theorem does_mv_i {x : Operand} {k : IntKind} {v : Int} (h : evF f x = .int k v) : Does P ⟨d, .move x, ty, pos, af, gd⟩ f w (.int k v) w := does_move h
theorem does_as_i {x : Operand} {k : IntKind} {v : Int} (h : evF f x = .int k v) : Does P ⟨d, .assign x, ty, pos, af, gd⟩ f w (.int k v) w := does_assign h
theorem does_mv_b {x : Operand} {v : Bool} (h : evF f x = .bool v) : Does P ⟨d, .move x, ty, pos, af, gd⟩ f w (.bool v) w := does_move h
theorem does_as_b {x : Operand} {v : Bool} (h : evF f x = .bool v) : Does P ⟨d, .assign x, ty, pos, af, gd⟩ f w (.bool v) w := does_assign h
theorem does_mv_p {x : Operand} {v : Option Addr} (h : evF f x = .pointer v) : Does P ⟨d, .move x, ty, pos, af, gd⟩ f w (.pointer v) w := does_move h
theorem does_as_p {x : Operand} {v : Option Addr} (h : evF f x = .pointer v) : Does P ⟨d, .assign x, ty, pos, af, gd⟩ f w (.pointer v) w := does_assign h
theorem does_mv_s {x : Operand} {v : ByteArray} (h : evF f x = .string v) : Does P ⟨d, .move x, ty, pos, af, gd⟩ f w (.string v) w := does_move h
theorem does_as_s {x : Operand} {v : ByteArray} (h : evF f x = .string v) : Does P ⟨d, .assign x, ty, pos, af, gd⟩ f w (.string v) w := does_assign h
theorem does_mv_a {x : Operand} {v : Array Value} (h : evF f x = .agg v) : Does P ⟨d, .move x, ty, pos, af, gd⟩ f w (.agg v) w := does_move h
theorem does_mv_l0 {x : Operand} {p : Option Addr} {n c : Nat} (h : evF f x = .slice p n c) : Does P ⟨d, .move x, ty, pos, af, gd⟩ f w (.slice p n c) w := does_move h
theorem does_as_l0 {x : Operand} {p : Option Addr} {n c : Nat} (h : evF f x = .slice p n c) : Does P ⟨d, .assign x, ty, pos, af, gd⟩ f w (.slice p n c) w := does_assign h
theorem does_mv_t {x : Operand} {v : Array Value} (h : evF f x = .tuple v) : Does P ⟨d, .move x, ty, pos, af, gd⟩ f w (.tuple v) w := does_move h

theorem does_and {c a : Operand} {t x : Bool} (hc : evF f c = .bool t) (ha : t = true → evF f a = .bool x) : Does P ⟨d, .pick c a (.const (.bool false)), ty, pos, af, gd⟩ f w (.bool (t && x)) w := by
  unfold Does execOp
  simp only [hc]
  cases t with
  | true => rw [ha rfl]; rfl
  | false => rfl
theorem does_or {c a : Operand} {t x : Bool} (hc : evF f c = .bool t) (ha : t = false → evF f a = .bool x) : Does P ⟨d, .pick c (.const (.bool true)) a, ty, pos, af, gd⟩ f w (.bool (t || x)) w := by
  unfold Does execOp
  simp only [hc]
  cases t with
  | false => rw [ha rfl]; rfl
  | true => rfl
theorem does_not {u : TypeId} {x : Operand} {t : Bool} (h : evF f x = .bool t) : Does P ⟨d, .unOp .not u x, ty, pos, af, gd⟩ f w (.bool (!t)) w := by
  simp [Does, execOp, h, Op.unary]
theorem does_nilCheck {x : Operand} {a : Addr} (h : evF f x = .pointer (some a)) : Does P ⟨d, .nilCheck x, ty, pos, af, gd⟩ f w (.pointer (some a)) w := by
  simp [Does, execOp, h]
theorem does_extract {x : Operand} {vs : Array Value} {i : Nat} {v : Value} (h : evF f x = .tuple vs) (hi : vs[i]? = some v) : Does P ⟨d, .extract x i, ty, pos, af, gd⟩ f w v w := by
  simp [Does, execOp, h, Instr.extract, hi]

-- integers
theorem run_eqGuard_int (op : BinOp) (t : TypeId) (x y : Operand) (k k' : IntKind) (a b : Int) : (eqGuard op t x y (.int k a) (.int k' b)).run P w = .ok () w := by
  unfold eqGuard
  split <;> rfl
theorem run_eqGuard_bool (op : BinOp) (t : TypeId) (x y : Operand) (a b : Bool) : (eqGuard op t x y (.bool a) (.bool b)).run P w = .ok () w := by
  unfold eqGuard
  split <;> rfl
theorem run_eqGuard_string (op : BinOp) (t : TypeId) (x y : Operand) (a b : ByteArray) : (eqGuard op t x y (.string a) (.string b)).run P w = .ok () w := by
  unfold eqGuard
  split <;> rfl
theorem run_eqGuard_ptr (op : BinOp) (t : TypeId) (x y : Operand) (a b : Option Addr) : (eqGuard op t x y (.pointer a) (.pointer b)).run P w = .ok () w := by
  unfold eqGuard
  split <;> rfl
theorem run_eqGuard_map (op : BinOp) (t : TypeId) (x y : Operand) (a b : Option Nat) : (eqGuard op t x y (.map a) (.map b)).run P w = .ok () w := by
  unfold eqGuard
  split <;> rfl
theorem does_bin {op : BinOp} {t u : TypeId} {x y : Operand} {k : IntKind} {a b : Int} {v : Value} (hx : evF f x = .int k a) (hy : evF f y = .int k b)
    (h : (binOp op t (.int k a) (.int k b)).run P w = .ok v w) : Does P ⟨d, .binOp op t x y u, ty, pos, af, gd⟩ f w v w := by
  simp only [Does, execOp, hx, hy, Sem.run_bind, run_eqGuard_int, Result.andThen_ok, h, Sem.run_pure]
section ints
variable {t u : TypeId} {x y : Operand} {k : IntKind} {a b : Int}
theorem does_neg (hx : evF f x = .int k a) : Does P ⟨d, .unOp .neg t x, ty, pos, af, gd⟩ f w (.int k (k.wrap (-a))) w := by
  simp [Does, execOp, hx, Op.unary, Op.intArith]
theorem does_eq (hx : evF f x = .int k a) (hy : evF f y = .int k b) : Does P ⟨d, .binOp .eql t x y u, ty, pos, af, gd⟩ f w (.bool (decide (a = b))) w :=
  does_bin hx hy (by simp [binOp, Op.intCmp]; rfl)
theorem does_ne (hx : evF f x = .int k a) (hy : evF f y = .int k b) : Does P ⟨d, .binOp .neq t x y u, ty, pos, af, gd⟩ f w (.bool (decide (a ≠ b))) w :=
  does_bin hx hy (by simp [binOp, Op.intCmp, bne]; by_cases h : a = b <;> simp [h])
theorem does_lt (hx : evF f x = .int k a) (hy : evF f y = .int k b) : Does P ⟨d, .binOp .lss t x y u, ty, pos, af, gd⟩ f w (.bool (decide (a < b))) w :=
  does_bin hx hy (by simp [binOp, Op.intCmp])
theorem does_le (hx : evF f x = .int k a) (hy : evF f y = .int k b) : Does P ⟨d, .binOp .leq t x y u, ty, pos, af, gd⟩ f w (.bool (decide (a ≤ b))) w :=
  does_bin hx hy (by simp [binOp, Op.intCmp])
theorem does_gt (hx : evF f x = .int k a) (hy : evF f y = .int k b) : Does P ⟨d, .binOp .gtr t x y u, ty, pos, af, gd⟩ f w (.bool (decide (b < a))) w :=
  does_bin hx hy (by simp [binOp, Op.intCmp])
theorem does_ge (hx : evF f x = .int k a) (hy : evF f y = .int k b) : Does P ⟨d, .binOp .geq t x y u, ty, pos, af, gd⟩ f w (.bool (decide (b ≤ a))) w :=
  does_bin hx hy (by simp [binOp, Op.intCmp])
theorem does_add (hx : evF f x = .int k a) (hy : evF f y = .int k b) : Does P ⟨d, .binOp .add t x y u, ty, pos, af, gd⟩ f w (.int k (k.wrap (a + b))) w :=
  does_bin hx hy (by simp [binOp, Op.intArith])
theorem does_sub (hx : evF f x = .int k a) (hy : evF f y = .int k b) : Does P ⟨d, .binOp .sub t x y u, ty, pos, af, gd⟩ f w (.int k (k.wrap (a - b))) w :=
  does_bin hx hy (by simp [binOp, Op.intArith])
theorem does_mul (hx : evF f x = .int k a) (hy : evF f y = .int k b) : Does P ⟨d, .binOp .mul t x y u, ty, pos, af, gd⟩ f w (.int k (k.wrap (a * b))) w :=
  does_bin hx hy (by simp [binOp, Op.intArith])
/-- a sum that the kind holds -/
theorem does_addc {c : Int} (hx : evF f x = .int .i64 a) (hy : evF f y = .int .i64 b) (hc : a + b = c) (h0 : -9223372036854775808 ≤ c) (h1 : c ≤ 9223372036854775807) : Does P ⟨d, .binOp .add t x y u, ty, pos, af, gd⟩ f w (.int .i64 c) w := by
  subst hc
  have := does_add (P := P) (d := d) (ty := ty) (pos := pos) (af := af) (gd := gd) (w := w) (t := t) (u := u) hx hy
  rwa [IntWalk.i64_in _ ⟨h0, h1⟩] at this
theorem does_mulc {c : Int} (hx : evF f x = .int .i64 a) (hy : evF f y = .int .i64 b) (hc : a * b = c) (h0 : -9223372036854775808 ≤ c) (h1 : c ≤ 9223372036854775807) : Does P ⟨d, .binOp .mul t x y u, ty, pos, af, gd⟩ f w (.int .i64 c) w := by
  subst hc
  have := does_mul (P := P) (d := d) (ty := ty) (pos := pos) (af := af) (gd := gd) (w := w) (t := t) (u := u) hx hy
  rwa [IntWalk.i64_in _ ⟨h0, h1⟩] at this
theorem does_subc {c : Int} (hx : evF f x = .int .i64 a) (hy : evF f y = .int .i64 b) (hc : a - b = c) (h0 : -9223372036854775808 ≤ c) (h1 : c ≤ 9223372036854775807) : Does P ⟨d, .binOp .sub t x y u, ty, pos, af, gd⟩ f w (.int .i64 c) w := by
  subst hc
  have := does_sub (P := P) (d := d) (ty := ty) (pos := pos) (af := af) (gd := gd) (w := w) (t := t) (u := u) hx hy
  rwa [IntWalk.i64_in _ ⟨h0, h1⟩] at this
end ints
theorem does_quo {t u : TypeId} {x y : Operand} {k : IntKind} {a b : Int} (hx : evF f x = .int k a) (hy : evF f y = .int k b) (hb : b ≠ 0) : Does P ⟨d, .binOp .quo t x y u, ty, pos, af, gd⟩ f w (.int k (k.wrap (a.tdiv b))) w :=
  does_bin hx hy (by simp [binOp, Op.intDiv, hb])
theorem does_rem {t u : TypeId} {x y : Operand} {k : IntKind} {a b : Int} (hx : evF f x = .int k a) (hy : evF f y = .int k b) (hb : b ≠ 0) : Does P ⟨d, .binOp .rem t x y u, ty, pos, af, gd⟩ f w (.int k (a.tmod b)) w :=
  does_bin hx hy (by simp [binOp, Op.intDiv, hb])
/-- division of what is not below 0 -/
theorem does_quo_nat {t u : TypeId} {x y : Operand} {a b : Int} (hx : evF f x = .int .i64 a) (hy : evF f y = .int .i64 b) (h0 : 0 ≤ a) (h1 : a ≤ 9223372036854775807) (hb : 1 ≤ b) : Does P ⟨d, .binOp .quo t x y u, ty, pos, af, gd⟩ f w (.int .i64 (a / b)) w := by
  have := does_quo (P := P) (d := d) (ty := ty) (pos := pos) (af := af) (gd := gd) (w := w) (t := t) (u := u) hx hy (by omega)
  rw [Int.tdiv_eq_ediv_of_nonneg h0, IntWalk.i64_in _ ⟨by have := Int.ediv_nonneg h0 (by omega : (0:Int) ≤ b); omega, by have := Int.ediv_le_self b h0; omega⟩] at this
  exact this
theorem does_rem_nat {t u : TypeId} {x y : Operand} {k : IntKind} {a b : Int} (hx : evF f x = .int k a) (hy : evF f y = .int k b) (h0 : 0 ≤ a) (hb : 1 ≤ b) : Does P ⟨d, .binOp .rem t x y u, ty, pos, af, gd⟩ f w (.int k (a % b)) w := by
  have := does_rem (P := P) (d := d) (ty := ty) (pos := pos) (af := af) (gd := gd) (w := w) (t := t) (u := u) hx hy (by omega)
  rwa [Int.tmod_eq_emod_of_nonneg h0] at this
/-- what an operation on bits makes of two numbers -/
def bitsOp (op : BinOp) (k : IntKind) (a b : Int) : Int :=
  let x := BitVec.ofInt k.bits a
  let y := BitVec.ofInt k.bits b
  k.wrap (match op with | .and => (x &&& y) | .or => (x ||| y) | .xor => (x ^^^ y) | _ => (x &&& ~~~y)).toNat
theorem does_bits {op : BinOp} {t u : TypeId} {x y : Operand} {k : IntKind} {a b : Int} (ho : op = .and ∨ op = .or ∨ op = .xor ∨ op = .andNot) (hx : evF f x = .int k a) (hy : evF f y = .int k b) : Does P ⟨d, .binOp op t x y u, ty, pos, af, gd⟩ f w (.int k (bitsOp op k a b)) w :=
  does_bin hx hy (by rcases ho with rfl | rfl | rfl | rfl <;> simp [binOp, Op.intBits, bitsOp])
theorem does_shl {t u : TypeId} {x y : Operand} {k j : IntKind} {a b : Int} (hx : evF f x = .int k a) (hy : evF f y = .int j b) (hb : 0 ≤ b) : Does P ⟨d, .binOp .shl t x y u, ty, pos, af, gd⟩ f w (.int k (k.wrap (a * 2 ^ (min b.toNat k.bits)))) w := by
  have h : (binOp .shl t (.int k a) (.int j b)).run P w = .ok (.int k (k.wrap (a * 2 ^ (min b.toNat k.bits)))) w := by
    simp only [binOp, Op.shift]
    rw [if_neg (by omega)]
    rfl
  simp only [Does, execOp, hx, hy, Sem.run_bind, run_eqGuard_int, Result.andThen_ok, h, Sem.run_pure]
theorem does_shr {t u : TypeId} {x y : Operand} {k j : IntKind} {a b : Int} (hx : evF f x = .int k a) (hy : evF f y = .int j b) (hb : 0 ≤ b) : Does P ⟨d, .binOp .shr t x y u, ty, pos, af, gd⟩ f w (.int k (a.fdiv (2 ^ (min b.toNat k.bits)))) w := by
  have h : (binOp .shr t (.int k a) (.int j b)).run P w = .ok (.int k (a.fdiv (2 ^ (min b.toNat k.bits)))) w := by
    simp only [binOp, Op.shift]
    rw [if_neg (by omega)]
    rfl
  simp only [Does, execOp, hx, hy, Sem.run_bind, run_eqGuard_int, Result.andThen_ok, h, Sem.run_pure]
theorem does_conv {t u : TypeId} {x : Operand} {k j : IntKind} {a : Int} {tt : TypeDesc} (ht : P.underlying t = some tt) (hu : P.underlying u = some (.int k)) (hx : evF f x = .int j a) : Does P ⟨d, .convert t u x, ty, pos, af, gd⟩ f w (.int k (k.wrap a)) w := by
  simp [Does, execOp, hx, convert, run_underlying ht, run_underlying hu, Conv.intToInt]
theorem does_convc {t u : TypeId} {x : Operand} {k j : IntKind} {a c : Int} {tt : TypeDesc} (ht : P.underlying t = some tt) (hu : P.underlying u = some (.int k)) (hx : evF f x = .int j a) (hc : k.wrap a = c) : Does P ⟨d, .convert t u x, ty, pos, af, gd⟩ f w (.int k c) w := by
  subst hc; exact does_conv ht hu hx
theorem does_eqb {t u : TypeId} {x y : Operand} {a b : Bool} (ht : P.underlying t = some .bool) (hx : evF f x = .bool a) (hy : evF f y = .bool b) : Does P ⟨d, .binOp .eql t x y u, ty, pos, af, gd⟩ f w (.bool (a == b)) w := by
  simp only [Does, execOp, hx, hy, Sem.run_bind, run_eqGuard_bool, Result.andThen_ok, binOp, Op.equal, Op.maxDepth, run_equalIn_bool' w _ t _ _ ht, Sem.run_pure]
theorem does_neb {t u : TypeId} {x y : Operand} {a b : Bool} (ht : P.underlying t = some .bool) (hx : evF f x = .bool a) (hy : evF f y = .bool b) : Does P ⟨d, .binOp .neq t x y u, ty, pos, af, gd⟩ f w (.bool (!(a == b))) w := by
  simp only [Does, execOp, hx, hy, Sem.run_bind, run_eqGuard_bool, Result.andThen_ok, binOp, Op.equal, Op.maxDepth, run_equalIn_bool' w _ t _ _ ht, Sem.run_pure]
theorem beq_toList (a b : ByteArray) : (a.toList == b.toList) = decide (a = b) := by
  rw [ByteArray.toList_eq, ByteArray.toList_eq, Bool.eq_iff_iff]
  simp only [beq_iff_eq, decide_eq_true_eq]
  constructor
  · intro h
    exact ByteArray.ext (Array.toList_inj.1 h)
  · rintro rfl; rfl
theorem does_eqs {t u : TypeId} {x y : Operand} {a b : ByteArray} (hx : evF f x = .string a) (hy : evF f y = .string b) : Does P ⟨d, .binOp .eql t x y u, ty, pos, af, gd⟩ f w (.bool (decide (a = b))) w := by
  have h := beq_toList a b
  simp only [Does, execOp, hx, hy, Sem.run_bind, run_eqGuard_string, Result.andThen_ok, binOp, Op.stringOp, Sem.run_pure, h]
theorem does_nes {t u : TypeId} {x y : Operand} {a b : ByteArray} (hx : evF f x = .string a) (hy : evF f y = .string b) : Does P ⟨d, .binOp .neq t x y u, ty, pos, af, gd⟩ f w (.bool (decide (a ≠ b))) w := by
  have h : (!(a.toList == b.toList)) = decide (a ≠ b) := by rw [beq_toList]; simp
  simp only [Does, execOp, hx, hy, Sem.run_bind, run_eqGuard_string, Result.andThen_ok, binOp, Op.stringOp, Sem.run_pure, h]
theorem does_nep0 {t u e : TypeId} {x y : Operand} {a : Option Addr} (ht : P.underlying t = some (.pointer e)) (hx : evF f x = .pointer a) (hy : evF f y = .pointer none) : Does P ⟨d, .binOp .neq t x y u, ty, pos, af, gd⟩ f w (.bool a.isSome) w := by
  have h : (binOp .neq t (.pointer a) (.pointer none)).run P w = .ok (.bool a.isSome) w := by
    have hp : P.pointee t = e := by unfold Program.pointee; rw [ht]
    have := run_neq_pointer_nil (P := P) w t a (by rw [hp]; exact ht)
    rw [this]
    cases a <;> rfl
  simp only [Does, execOp, hx, hy, Sem.run_bind, run_eqGuard_ptr, Result.andThen_ok, h, Sem.run_pure]
theorem does_nem0 {t u k e : TypeId} {x y : Operand} {a : Option Nat} (ht : P.underlying t = some (.map k e)) (hx : evF f x = .map a) (hy : evF f y = .map none) : Does P ⟨d, .binOp .neq t x y u, ty, pos, af, gd⟩ f w (.bool a.isSome) w := by
  have h := run_neq_map_nil (P := P) w t k e a ht
  simp only [Does, execOp, hx, hy, Sem.run_bind, run_eqGuard_map, Result.andThen_ok, h, Sem.run_pure]
  cases a <;> rfl

-- guarded operations
variable {rd : Option Nat} {n : Nat} {dm : List Nat} {ops : Array Oper} {Q : Post} {rest : List Oper}
/-- what a guarded operation leaves: its value, or nothing -/
@[irreducible] def gv (c : Bool) (v : Value) : Value := bif c then v else undef
theorem gv_yes {c : Bool} {v : Value} (h : c = true) : gv c v = v := by subst h; unfold gv; rfl
theorem gv_of {t pol : Bool} {v : Value} (h : t = pol) : gv (t == pol) v = v := gv_yes (by subst h; cases t <;> rfl)
theorem gv_t (v : Value) : v = gv true v := by unfold gv; rfl
theorem gv_f (v : Value) : gv false v = undef := by unfold gv; rfl
theorem and_l {a b : Bool} (h : (a && b) = true) : a = true := by cases a <;> simp_all
theorem and_b {c t pol : Bool} (h1 : c = true) (h2 : t = pol) : (c && (t == pol)) = true := by subst h1 h2; cases t <;> rfl
theorem and_1 {t pol : Bool} (h2 : t = pol) : (t == pol) = true := by subst h2; cases t <;> rfl
theorem eq_1 {t pol : Bool} (h : (t == pol) = true) : t = pol := by simpa using h
theorem eq_b {c t pol : Bool} (h : (c && (t == pol)) = true) : t = pol := by simp at h; exact h.2
theorem wanted_gv {a : Act} (ha : Is n dm a f) {o : Oper} {j : Nat} {pol c t : Bool} {oj : Oper} {dj : Tmp} (hg : o.guard = some (j, pol)) (hj : ops[j]? = some oj) (hdj : oj.dst = some dj) (ht : f dj = gv c (.bool t)) (hdn : dj < n) :
    Region.wanted o (yielded ops a.tmps) = (c && (t == pol)) := by
  have h1 := ha.get dj
  rw [ht] at h1
  have hlt : dj < a.tmps.size := by rw [ha.size]; exact hdn
  rw [Array.getD_eq_getD_getElem?, Array.getElem?_eq_getElem hlt, Option.getD_some] at h1
  cases c with
  | true =>
    rw [← gv_t] at h1
    have h2 : a.tmps[dj]? = some (.bool t) := by rw [Array.getElem?_eq_getElem hlt, h1]
    have hy : yielded ops a.tmps j = some t := by simp [yielded, hj, hdj, h2]
    simp only [Region.wanted, hg, hy]
    cases t <;> cases pol <;> rfl
  | false =>
    rw [gv_f] at h1
    have h2 : a.tmps[dj]? = some undef := by rw [Array.getElem?_eq_getElem hlt, h1]
    have hy : yielded ops a.tmps j = none := by
      simp only [yielded, hj, hdj, h2, Option.bind_some]
      rfl
    simp only [Region.wanted, hg, hy]
    rfl
theorem wl_guard2 {dd : Tmp} {op : Op} {j : Nat} {pol c t : Bool} {v : Value} {oj : Oper} {dj : Tmp} (hj : ops[j]? = some oj) (hdj : oj.dst = some dj) (ht : f dj = gv c (.bool t)) (hdn : dj < n)
    (hr : (c && (t == pol)) = true → Does P ⟨some dd, op, ty, pos, af, some (j, pol)⟩ f w v w) (hd : dd < n)
    (h : wl P rd n dm ops rest Q (upd f dd (gv (c && (t == pol)) v)) w) : wl P rd n dm ops (⟨some dd, op, ty, pos, af, some (j, pol)⟩ :: rest) Q f w := fun a ha => by
  refine wpListIn_step fun K hK => ?_
  rw [wanted_gv ha rfl hj hdj ht hdn]
  cases hc : (c && (t == pol)) with
  | true =>
    rw [if_pos rfl]
    rw [hc, gv_yes rfl] at h
    exact op_wp ha (hr hc) (by simp) (hK _ _ (h _ (ha.put hd _)))
  | false =>
    rw [if_neg (by simp)]
    rw [hc, gv_f] at h
    exact ⟨fun _ _ => trivial, hK _ _ (h _ (ha.put hd _))⟩
theorem wl_guard {dd : Tmp} {op : Op} {j : Nat} {pol t : Bool} {v : Value} {oj : Oper} {dj : Tmp} (hj : ops[j]? = some oj) (hdj : oj.dst = some dj) (ht : f dj = .bool t) (hdn : dj < n)
    (hr : (t == pol) = true → Does P ⟨some dd, op, ty, pos, af, some (j, pol)⟩ f w v w) (hd : dd < n)
    (h : wl P rd n dm ops rest Q (upd f dd (gv (t == pol) v)) w) : wl P rd n dm ops (⟨some dd, op, ty, pos, af, some (j, pol)⟩ :: rest) Q f w :=
  wl_guard2 (c := true) hj hdj (by rw [ht]; exact gv_t _) hdn hr hd h
end

-- results
section
variable {P : Program} {f : Fr} {w : World}
def RetOne (P : Program) (r : ResultVar) (f : Fr) (w : World) (v : Value) : Prop := (retSem f r).run P w = .ok v w
theorem retOne_tmp {t : Tmp} {v : Value} (h : f t = v) : RetOne P (.tmp t) f w v := by subst h; rfl
theorem rets1 {r : ResultVar} {v : Value} (h : RetOne P r f w v) : Rets P #[r] f w v := by
  unfold Rets
  unfold RetOne at h
  simp only [Array.mapM_eq_mapM_toList, List.mapM_cons, List.mapM_nil]
  simp [h]
theorem rets2 {r1 r2 : ResultVar} {v1 v2 : Value} (h1 : RetOne P r1 f w v1) (h2 : RetOne P r2 f w v2) : Rets P #[r1, r2] f w (.tuple #[v1, v2]) := by
  unfold Rets
  unfold RetOne at h1 h2
  simp only [Array.mapM_eq_mapM_toList, List.mapM_cons, List.mapM_nil]
  simp [h1, h2]
theorem rets3 {r1 r2 r3 : ResultVar} {v1 v2 v3 : Value} (h1 : RetOne P r1 f w v1) (h2 : RetOne P r2 f w v2) (h3 : RetOne P r3 f w v3) : Rets P #[r1, r2, r3] f w (.tuple #[v1, v2, v3]) := by
  unfold Rets
  unfold RetOne at h1 h2 h3
  simp only [Array.mapM_eq_mapM_toList, List.mapM_cons, List.mapM_nil]
  simp [h1, h2, h3]
theorem rets0 : Rets P #[] f w (.tuple #[]) := by
  unfold Rets
  simp
end
end Gw
end Go.Proofs.YtjjkhjieegmphaaDoor
