/- Chapter 09, rules that are chosen: Lean functions with the answers of the Go functions. Printed by pp.py, a program of mine. -/
import Derived.Test.YtjjkhjieegmphaaDoorFormNew
namespace Go.Proofs.YtjjkhjieegmphaaDoor
open Gw
set_option linter.unusedVariables false

def rule_node.f (a0 : Tb) (a1 : Int) : Option Nd :=
  (formula_Table_Node.f a0 a1).bind fun r3 => some r3.1
def rule_on.f (a0 : Tb) (a1 : Sq) (a2 : Int) : Option Int :=
  (rule_node.f a0 a2).bind fun r3 => if decide (r3.kind = 2) then some 1 else if decide (r3.kind = 3) then some 3 else if decide (r3.kind = 4) then some 10 else if decide (r3.kind = 5) then (rule_node.f a0 r3.l).bind fun r13 => if decide (r13.kind = 1) then (bits_Has.f a1.left r3.l).bind fun r17 => if r17 then some 4 else some 0 else if decide (r13.kind = 2) then some 5 else if decide (r13.kind = 3) then some 6 else if decide (r13.kind = 4) then some 7 else if decide (r13.kind = 5) then some 13 else some 0 else some 0
def rule_fits.f (a0 : Tb) (a1 : Sq) (a2 : Int) (a3 : Int) : Option Bool :=
  (if (!(decide (a3 < 0))) then formula_Table_Len.f a0 else some 0).bind fun r3 => if (decide (a3 < 0)) || (decide (r3 ≤ a3)) then some false else (bits_Has.f a1.left a3).bind fun r6 => (rule_node.f a0 a3).bind fun r8 => if decide (a2 = 2) then some ((decide (a3 = a1.goal)) && r6) else if decide (a2 = 8) then some ((decide (a3 = a1.goal)) && (decide (r8.kind = 5))) else if decide (a2 = 9) then some ((decide (a3 = a1.goal)) && (decide (r8.kind = 3))) else (if decide (a2 = 11) then some (decide (a2 = 11)) else some (decide (a2 = 12))).bind fun (o14 : Bool) => if o14 then some ((decide (a3 = a1.goal)) && (decide (r8.kind = 4))) else (if ((decide (a2 ≠ 0)) && r6) then rule_on.f a0 a1 a3 else some 0).bind fun r19 => some (((decide (a2 ≠ 0)) && r6) && (decide (r19 = a2)))
def rule_with.f (a0 : Sq) (a1 : List Int) : Option Sq :=
  (bits_Of.f a1).bind fun r5 => (bits_Union.f a0.left r5.1).bind fun r11 => some ({ a0 with left := r11 })
def rule_to.f (a0 : Sq) (a1 : Int) : Option Sq :=
  some ({ a0 with goal := a1 })
def rule_look.b0 (a0 : Tb) (i15 : Int) (x15_0 : Int) : Option (Stp Int Int) :=
  (formula_Table_Len.f a0).bind fun r16 => if decide (r16 ≤ i15) then some (.ret 31) else some (.go x15_0)
def rule_look.f (a0 : Tb) (a1 : Sq) : Option Int :=
  (formula_Table_Not_neg.f a0 (-1)).bind fun r7 => if decide (r7.2 = 1) then some r7.2 else chk a1.left.okB ((forE (fun (x : Nat) (s : Int) => rule_look.b0 a0 (x : Int) s) (Bits.list a1.left) 0).bind (fin (fun (s15 : Int) => (if (!(decide (a1.goal < 0))) then formula_Table_Len.f a0 else some 0).bind fun r22 => if (decide (a1.goal < 0)) || (decide (r22 ≤ a1.goal)) then some 31 else some 0) (fun (s15 : Int) => some s15)))
def rule_Fits.f (a0 : Tb) (a1 : Sq) (a2 : Int) (a3 : Int) : Option (Bool × Int) :=
  (rule_look.f a0 a1).bind fun r3 => if decide (r3 ≠ 0) then some (false, r3) else (rule_fits.f a0 a1 a2 a3).bind fun r7 => some (r7, 0)
def rule_apply_1_1.f (a0 : Int) : Option Bool :=
  some (decide (a0 = 1))
def rule_least__rule_apply_1_1.b0 (a0 : Tb) (a1 : Sq) (i14 : Int) (x14_0 : Bool) (x14_1 : Fnd) : Option (Stp (Bool × Fnd) (Bool × Fnd)) :=
  (rule_on.f a0 a1 i14).bind fun r15 => (rule_apply_1_1.f r15).bind fun r18 => if r18 then some (.ret (true, (⟨r15, i14⟩ : Fnd))) else some (.go (x14_0, x14_1))
def rule_least__rule_apply_1_1.f (a0 : Tb) (a1 : Sq) : Option (Fnd × Bool) :=
  chk a1.left.okB ((forE (fun (x : Nat) (s : Bool × Fnd) => rule_least__rule_apply_1_1.b0 a0 a1 (x : Int) s.1 s.2) (Bits.list a1.left) (false, Fnd.z)).bind (fin (fun (s14 : Bool × Fnd) => some (Fnd.z, false)) (fun (s14 : Bool × Fnd) => some (s14.2, s14.1))))
def rule_apply_1.f (a0 : Tb) (a1 : Sq) : Option (Fnd × Bool) :=
  (rule_least__rule_apply_1_1.f a0 a1).bind fun r3 => some (r3.1, r3.2)
def rule_apply_2.f (a0 : Sq) : Option (Fnd × Bool) :=
  (bits_Has.f a0.left a0.goal).bind fun r3 => some ((⟨2, a0.goal⟩ : Fnd), r3)
def rule_apply_3_1.f (a0 : Int) : Option Bool :=
  some ((decide (3 ≤ a0)) && (decide (a0 ≤ 7)))
def rule_least__rule_apply_3_1.b0 (a0 : Tb) (a1 : Sq) (i14 : Int) (x14_0 : Bool) (x14_1 : Fnd) : Option (Stp (Bool × Fnd) (Bool × Fnd)) :=
  (rule_on.f a0 a1 i14).bind fun r15 => (rule_apply_3_1.f r15).bind fun r18 => if r18 then some (.ret (true, (⟨r15, i14⟩ : Fnd))) else some (.go (x14_0, x14_1))
def rule_least__rule_apply_3_1.f (a0 : Tb) (a1 : Sq) : Option (Fnd × Bool) :=
  chk a1.left.okB ((forE (fun (x : Nat) (s : Bool × Fnd) => rule_least__rule_apply_3_1.b0 a0 a1 (x : Int) s.1 s.2) (Bits.list a1.left) (false, Fnd.z)).bind (fin (fun (s14 : Bool × Fnd) => some (Fnd.z, false)) (fun (s14 : Bool × Fnd) => some (s14.2, s14.1))))
def rule_apply_3.f (a0 : Tb) (a1 : Sq) : Option (Fnd × Bool) :=
  (rule_least__rule_apply_3_1.f a0 a1).bind fun r3 => some (r3.1, r3.2)
def rule_apply_4.f (a0 : Sq) (a1 : Tb) : Option (Fnd × Bool) :=
  (rule_node.f a1 a0.goal).bind fun r3 => some ((⟨8, a0.goal⟩ : Fnd), decide (r3.kind = 5))
def rule_apply_5.f (a0 : Sq) (a1 : Tb) : Option (Fnd × Bool) :=
  (rule_node.f a1 a0.goal).bind fun r3 => some ((⟨9, a0.goal⟩ : Fnd), decide (r3.kind = 3))
def rule_apply_6_1.f (a0 : Int) : Option Bool :=
  some (decide (a0 = 10))
def rule_least__rule_apply_6_1.b0 (a0 : Tb) (a1 : Sq) (i14 : Int) (x14_0 : Bool) (x14_1 : Fnd) : Option (Stp (Bool × Fnd) (Bool × Fnd)) :=
  (rule_on.f a0 a1 i14).bind fun r15 => (rule_apply_6_1.f r15).bind fun r18 => if r18 then some (.ret (true, (⟨r15, i14⟩ : Fnd))) else some (.go (x14_0, x14_1))
def rule_least__rule_apply_6_1.f (a0 : Tb) (a1 : Sq) : Option (Fnd × Bool) :=
  chk a1.left.okB ((forE (fun (x : Nat) (s : Bool × Fnd) => rule_least__rule_apply_6_1.b0 a0 a1 (x : Int) s.1 s.2) (Bits.list a1.left) (false, Fnd.z)).bind (fin (fun (s14 : Bool × Fnd) => some (Fnd.z, false)) (fun (s14 : Bool × Fnd) => some (s14.2, s14.1))))
def rule_apply_6.f (a0 : Tb) (a1 : Sq) : Option (Fnd × Bool) :=
  (rule_least__rule_apply_6_1.f a0 a1).bind fun r3 => some (r3.1, r3.2)
def rule_apply.f (a0 : Tb) (a1 : Sq) : Option Fnd :=
  (rule_apply_1.f a0 a1).bind fun r12 => if r12.2 then some r12.1 else (rule_apply_2.f a1).bind fun r22 => if r22.2 then some r22.1 else (rule_apply_3.f a0 a1).bind fun r32 => if r32.2 then some r32.1 else (rule_apply_4.f a1 a0).bind fun r42 => if r42.2 then some r42.1 else (rule_apply_5.f a1 a0).bind fun r52 => if r52.2 then some r52.1 else (rule_apply_6.f a0 a1).bind fun r62 => if r62.2 then some r62.1 else some (⟨14, 0⟩ : Fnd)
def rule_Apply.f (a0 : Tb) (a1 : Sq) : Option (Int × Int × Int) :=
  (rule_look.f a0 a1).bind fun r3 => if decide (r3 ≠ 0) then some (0, 0, r3) else (rule_apply.f a0 a1).bind fun r7 => some (r7.k, r7.main, 0)
def rule_Choices.b0 (a0 : Tb) (a1 : Sq) (i43 : Int) (x43_0 : List Int) (x43_1 : List Int) : Option (Stp (List Int × List Int) Empty) :=
  (rule_on.f a0 a1 i43).bind fun r46 => if decide (r46 = 13) then chk (decide ((x43_1.length + ([13]).length) * 8 ≤ 140737488355328)) (chk (decide ((x43_0.length + ([i43]).length) * 8 ≤ 140737488355328)) (some (.go (x43_0 ++ [i43], x43_1 ++ [13])))) else some (.go (x43_0, x43_1))
def rule_Choices.f (a0 : Tb) (a1 : Sq) : Option (List Int × List Int × Int) :=
  (rule_look.f a0 a1).bind fun r5 => if decide (r5 ≠ 0) then some (([] : List Int), ([] : List Int), r5) else (rule_apply.f a0 a1).bind fun r13 => if decide (r13.k ≠ 14) then some (([] : List Int), ([] : List Int), 0) else (rule_node.f a0 a1.goal).bind fun r17 => (if decide (r17.kind = 4) then chk (decide ((([] : List Int).length + ([11, 12]).length) * 8 ≤ 140737488355328)) (chk (decide ((([] : List Int).length + ([a1.goal, a1.goal]).length) * 8 ≤ 140737488355328)) (some ((([] : List Int) ++ [a1.goal, a1.goal], ([] : List Int) ++ [11, 12])))) else some ((([] : List Int), ([] : List Int)))).bind fun (o20 : List Int × List Int) => chk a1.left.okB ((forE (fun (x : Nat) (s : List Int × List Int) => rule_Choices.b0 a0 a1 (x : Int) s.1 s.2) (Bits.list a1.left) (o20.1, o20.2)).bind (fin (fun (s43 : List Int × List Int) => some (s43.2, s43.1, 0)) (fun (z : Empty) => z.elim)))
end Go.Proofs.YtjjkhjieegmphaaDoor
