/- Chapter 09, RulePremises: Lean functions with the answers of the Go functions. Printed by pp.py, a program of mine. -/
import Derived.Test.YtjjkhjieegmphaaDoorRuleDP
namespace Go.Proofs.YtjjkhjieegmphaaDoor
open Gw
set_option linter.unusedVariables false

def law09_RulePremises.f (a0 : List Nd) (a1 : Sq) (a2 : Int) (a3 : Int) : Option Bool :=
  (law03_Both.f a0).bind fun r3 => if !r3.2.2 then (law09_heads.f).bind fun r9 => some r9 else (rule_Premises.f r3.1 a1 a2 a3).bind fun r12 => (ref09_Right.f r3.2.1 a1).bind fun r16 => if !r16 then (if ((decide ((r12.2.1.length : Int) = 0)) && (decide (r12.2.2 = 31))) then law03_Like.f r12.1 r3.2.1 else some false).bind fun r20 => (if (((decide ((r12.2.1.length : Int) = 0)) && (decide (r12.2.2 = 31))) && r20) then law09_heads.f else some false).bind fun r22 => some ((((decide ((r12.2.1.length : Int) = 0)) && (decide (r12.2.2 = 31))) && r20) && r22) else (ref09_Premises.f r3.2.1 a1 a2 a3).bind fun r24 => (ref09_Seqs.f r12.2.1 r24.2.1).bind fun r28 => (if (r28 && (decide (r12.2.2 = r24.2.2))) then law03_Like.f r12.1 r24.1 else some false).bind fun r31 => (if ((r28 && (decide (r12.2.2 = r24.2.2))) && r31) then law09_heads.f else some false).bind fun r33 => some (((r28 && (decide (r12.2.2 = r24.2.2))) && r31) && r33)
end Go.Proofs.YtjjkhjieegmphaaDoor
