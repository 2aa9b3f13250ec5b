/- Chapter 09, a table that no call made: Lean functions with the answers of the Go functions. Printed by pp.py, a program of mine. -/
import Derived.Test.YtjjkhjieegmphaaDoorRuleHP
namespace Go.Proofs.YtjjkhjieegmphaaDoor
open Gw
set_option linter.unusedVariables false

def law09_nobody.f (a0 : Tb) (a1 : Sq) (a2 : Int) (a3 : Int) : Option (Tb × Bool) :=
  (rule_Apply.f a0 a1).bind fun r3 => (rule_Choices.f a0 a1).bind fun r6 => (rule_Fits.f a0 a1 a2 a3).bind fun r11 => (rule_Premises.f a0 a1 a2 a3).bind fun r14 => some (r14.1, (((((((((decide (r3.1 = 0)) && (decide (r3.2.1 = 0))) && (decide (r3.2.2 = 1))) && (decide ((r6.1.length : Int) = 0))) && (decide ((r6.2.1.length : Int) = 0))) && (decide (r6.2.2 = 1))) && (!r11.1)) && (decide (r11.2 = 1))) && (decide ((r14.2.1.length : Int) = 0))) && (decide (r14.2.2 = 1)))
def law09_RuleNobody.f (a0 : Sq) (a1 : Int) (a2 : Int) : Option Bool :=
  (law09_nobody.f none a0 a1 a2).bind fun r3 => chk r3.2 (chk r3.2 ((law09_nobody.f none a0 a1 a2).bind fun r10 => (if (r3.2 && r10.2) then law09_heads.f else some false).bind fun r13 => some ((r3.2 && r10.2) && r13)))
end Go.Proofs.YtjjkhjieegmphaaDoor
