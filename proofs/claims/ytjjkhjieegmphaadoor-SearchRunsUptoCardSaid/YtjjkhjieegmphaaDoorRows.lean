/-
  NARROWER THAN 'FOR EVERY INPUT', by the rows' own cells (each row's printed sentence says how): RuleNobody: laid · RuleTells: laid · RulePremises: laid · RuleFalls: laid · RuleTruth: laid · SearchLists: laid · SearchWeaker: laid · SearchCut: laid · SearchDeduces: laid · SearchTrue: laid · SearchNobody: laid · SearchRuns: laid.
  DERIVED. THE GIVEN ROWS OF THIS SEAT. 12 by the template 'for every input the law returns true; each argument reads behind the call as it read before'; 0 by the template 'total and deterministic' (their statements: YtjjkhjieegmphaaDoorTotals.lean).
  GIVEN WITH THE SEED: the statements are not yours to turn. If you find one false, say at which input.
  Laid BY PROGRAM, IN A SANDBOX (cutbox-rows.mjs): the forced cells as the released guide's own fill.sh prints them over the translation 28ae21ea49507303… (all of the seat's roots in one cut). By AI agents, Wed Nov 11 2026. No macro, syntax, notation, axiom, sorry.
-/
import Derived.Test.YtjjkhjieegmphaaDoorChecked
import GoSem.Claim
import GoSem.ClaimJoined
import GoSem.ClaimMapViews
import Derived.JoinedTies
import Derived.KernelRfl
namespace Go.Proofs.YtjjkhjieegmphaaDoor
/- THE CELL 'sum', in the pinned program and in every row, IS THE sha256 OF THE DUMP (.gsa) THAT YtjjkhjieegmphaaDoorProg.lean LOADS. Nothing in Lean hashes anything: it is a label: what it is worth is what the hold of that sum in a sandbox is worth. -/
noncomputable def Tryd.pinned : Pinned := { name := "ytjjkhjieegmphaadoor", sum := "28ae21ea49507303832ef6006fea5ceaccf7fd544449ee9b4deebb5c3f086b10", checked := Tryd.checked }
namespace Rows
def none {H : Type} : Left H := { results := [], args := [] }

/- WHAT THE LISTED PACKAGE-LEVEL VARIABLES READ AS WHEN THE CALL BEGINS. Each datum BY PROGRAM (the guide's laid-datum.mjs) off the statement by which the dump's own 'gosem.cut.vars' lays the variable. In a bare row this is a premise. The card (YtjjkhjieegmphaaDoorCards.lean) ties it to the program's text. -/
def laid_math_bits_deBruijn64tab {H : Type} : DataW H := .agg [.lit (.int .u8 0), .lit (.int .u8 1), .lit (.int .u8 56), .lit (.int .u8 2), .lit (.int .u8 57), .lit (.int .u8 49), .lit (.int .u8 28), .lit (.int .u8 3), .lit (.int .u8 61), .lit (.int .u8 58), .lit (.int .u8 42), .lit (.int .u8 50), .lit (.int .u8 38), .lit (.int .u8 29), .lit (.int .u8 17), .lit (.int .u8 4), .lit (.int .u8 62), .lit (.int .u8 47), .lit (.int .u8 59), .lit (.int .u8 36), .lit (.int .u8 45), .lit (.int .u8 43), .lit (.int .u8 51), .lit (.int .u8 22), .lit (.int .u8 53), .lit (.int .u8 39), .lit (.int .u8 33), .lit (.int .u8 30), .lit (.int .u8 24), .lit (.int .u8 18), .lit (.int .u8 12), .lit (.int .u8 5), .lit (.int .u8 63), .lit (.int .u8 55), .lit (.int .u8 48), .lit (.int .u8 27), .lit (.int .u8 60), .lit (.int .u8 41), .lit (.int .u8 37), .lit (.int .u8 16), .lit (.int .u8 46), .lit (.int .u8 35), .lit (.int .u8 44), .lit (.int .u8 21), .lit (.int .u8 52), .lit (.int .u8 32), .lit (.int .u8 23), .lit (.int .u8 11), .lit (.int .u8 54), .lit (.int .u8 26), .lit (.int .u8 40), .lit (.int .u8 15), .lit (.int .u8 34), .lit (.int .u8 20), .lit (.int .u8 31), .lit (.int .u8 10), .lit (.int .u8 25), .lit (.int .u8 14), .lit (.int .u8 19), .lit (.int .u8 9), .lit (.int .u8 13), .lit (.int .u8 8), .lit (.int .u8 7), .lit (.int .u8 6)]

/-- 'dictumlaw09.RuleNobody': WHATEVER THE INPUT: true; the input reads as it did. -/
def ruleNobodySpec : ChangeSpec := { name := "ruleNobody", fn := fun _ => fun
  | [d1, d2, d3] => { results := [.lit (.bool true)], args := [d1, d2, d3] }
  | _ => none }
def ruleNobodyRow : OpenClaim := { program := "ytjjkhjieegmphaadoor", sum := "28ae21ea49507303832ef6006fea5ceaccf7fd544449ee9b4deebb5c3f086b10", func := "dictum/dictumlaw09.RuleNobody", spec := "ruleNobody", unfollowed := true, recurses := true, named := ["math/bits.deBruijn64tab"], plainKeys := false, apart := false, laid := [("math/bits.deBruijn64tab", laid_math_bits_deBruijn64tab)] }
def RuleNobodySaid : Prop := ruleNobodyRow.holds Tryd.pinned (OpenSpec.ofChange ruleNobodySpec)

/-- ITS FALSE NEIGHBOUR: 'it returns false'. Refute it at one input. -/
def ruleNobodyWrong : ChangeSpec := { name := "ruleNobody", fn := fun _ => fun
  | [d1, d2, d3] => { results := [.lit (.bool false)], args := [d1, d2, d3] }
  | _ => none }
def RuleNobodyWrongFalsely : Prop := ruleNobodyRow.holds Tryd.pinned (OpenSpec.ofChange ruleNobodyWrong)

/-- 'dictumlaw09.RuleTells': WHATEVER THE INPUT: true; the input reads as it did. -/
def ruleTellsSpec : ChangeSpec := { name := "ruleTells", fn := fun _ => fun
  | [d1, d2, d3, d4] => { results := [.lit (.bool true)], args := [d1, d2, d3, d4] }
  | _ => none }
def ruleTellsRow : OpenClaim := { program := "ytjjkhjieegmphaadoor", sum := "28ae21ea49507303832ef6006fea5ceaccf7fd544449ee9b4deebb5c3f086b10", func := "dictum/dictumlaw09.RuleTells", spec := "ruleTells", unfollowed := true, recurses := true, named := ["math/bits.deBruijn64tab"], plainKeys := false, apart := false, laid := [("math/bits.deBruijn64tab", laid_math_bits_deBruijn64tab)] }
def RuleTellsSaid : Prop := ruleTellsRow.holds Tryd.pinned (OpenSpec.ofChange ruleTellsSpec)

/-- ITS FALSE NEIGHBOUR: 'it returns false'. Refute it at one input. -/
def ruleTellsWrong : ChangeSpec := { name := "ruleTells", fn := fun _ => fun
  | [d1, d2, d3, d4] => { results := [.lit (.bool false)], args := [d1, d2, d3, d4] }
  | _ => none }
def RuleTellsWrongFalsely : Prop := ruleTellsRow.holds Tryd.pinned (OpenSpec.ofChange ruleTellsWrong)

/-- 'dictumlaw09.RulePremises': WHATEVER THE INPUT: true; the input reads as it did. -/
def rulePremisesSpec : ChangeSpec := { name := "rulePremises", fn := fun _ => fun
  | [d1, d2, d3, d4] => { results := [.lit (.bool true)], args := [d1, d2, d3, d4] }
  | _ => none }
def rulePremisesRow : OpenClaim := { program := "ytjjkhjieegmphaadoor", sum := "28ae21ea49507303832ef6006fea5ceaccf7fd544449ee9b4deebb5c3f086b10", func := "dictum/dictumlaw09.RulePremises", spec := "rulePremises", unfollowed := true, recurses := true, named := ["math/bits.deBruijn64tab"], plainKeys := false, apart := false, laid := [("math/bits.deBruijn64tab", laid_math_bits_deBruijn64tab)] }
def RulePremisesSaid : Prop := rulePremisesRow.holds Tryd.pinned (OpenSpec.ofChange rulePremisesSpec)

/-- ITS FALSE NEIGHBOUR: 'it returns false'. Refute it at one input. -/
def rulePremisesWrong : ChangeSpec := { name := "rulePremises", fn := fun _ => fun
  | [d1, d2, d3, d4] => { results := [.lit (.bool false)], args := [d1, d2, d3, d4] }
  | _ => none }
def RulePremisesWrongFalsely : Prop := rulePremisesRow.holds Tryd.pinned (OpenSpec.ofChange rulePremisesWrong)

/-- 'dictumlaw09.RuleFalls': WHATEVER THE INPUT: true; the input reads as it did. -/
def ruleFallsSpec : ChangeSpec := { name := "ruleFalls", fn := fun _ => fun
  | [d1, d2, d3] => { results := [.lit (.bool true)], args := [d1, d2, d3] }
  | _ => none }
def ruleFallsRow : OpenClaim := { program := "ytjjkhjieegmphaadoor", sum := "28ae21ea49507303832ef6006fea5ceaccf7fd544449ee9b4deebb5c3f086b10", func := "dictum/dictumlaw09.RuleFalls", spec := "ruleFalls", unfollowed := true, recurses := true, named := ["math/bits.deBruijn64tab"], plainKeys := false, apart := false, laid := [("math/bits.deBruijn64tab", laid_math_bits_deBruijn64tab)] }
def RuleFallsSaid : Prop := ruleFallsRow.holds Tryd.pinned (OpenSpec.ofChange ruleFallsSpec)

/-- ITS FALSE NEIGHBOUR: 'it returns false'. Refute it at one input. -/
def ruleFallsWrong : ChangeSpec := { name := "ruleFalls", fn := fun _ => fun
  | [d1, d2, d3] => { results := [.lit (.bool false)], args := [d1, d2, d3] }
  | _ => none }
def RuleFallsWrongFalsely : Prop := ruleFallsRow.holds Tryd.pinned (OpenSpec.ofChange ruleFallsWrong)

/-- 'dictumlaw09.RuleTruth': WHATEVER THE INPUT: true; the input reads as it did. -/
def ruleTruthSpec : ChangeSpec := { name := "ruleTruth", fn := fun _ => fun
  | [d1, d2, d3, d4] => { results := [.lit (.bool true)], args := [d1, d2, d3, d4] }
  | _ => none }
def ruleTruthRow : OpenClaim := { program := "ytjjkhjieegmphaadoor", sum := "28ae21ea49507303832ef6006fea5ceaccf7fd544449ee9b4deebb5c3f086b10", func := "dictum/dictumlaw09.RuleTruth", spec := "ruleTruth", unfollowed := true, recurses := true, named := ["math/bits.deBruijn64tab"], plainKeys := false, apart := false, laid := [("math/bits.deBruijn64tab", laid_math_bits_deBruijn64tab)] }
def RuleTruthSaid : Prop := ruleTruthRow.holds Tryd.pinned (OpenSpec.ofChange ruleTruthSpec)

/-- ITS FALSE NEIGHBOUR: 'it returns false'. Refute it at one input. -/
def ruleTruthWrong : ChangeSpec := { name := "ruleTruth", fn := fun _ => fun
  | [d1, d2, d3, d4] => { results := [.lit (.bool false)], args := [d1, d2, d3, d4] }
  | _ => none }
def RuleTruthWrongFalsely : Prop := ruleTruthRow.holds Tryd.pinned (OpenSpec.ofChange ruleTruthWrong)

/-- 'dictumlaw11.SearchLists': WHATEVER THE INPUT: true; the input reads as it did. -/
def searchListsSpec : ChangeSpec := { name := "searchLists", fn := fun _ => fun
  | [d1, d2, d3] => { results := [.lit (.bool true)], args := [d1, d2, d3] }
  | _ => none }
def searchListsRow : OpenClaim := { program := "ytjjkhjieegmphaadoor", sum := "28ae21ea49507303832ef6006fea5ceaccf7fd544449ee9b4deebb5c3f086b10", func := "dictum/dictumlaw11.SearchLists", spec := "searchLists", unfollowed := true, recurses := true, named := ["math/bits.deBruijn64tab"], plainKeys := false, apart := false, laid := [("math/bits.deBruijn64tab", laid_math_bits_deBruijn64tab)] }
def SearchListsSaid : Prop := searchListsRow.holds Tryd.pinned (OpenSpec.ofChange searchListsSpec)

/-- ITS FALSE NEIGHBOUR: 'it returns false'. Refute it at one input. -/
def searchListsWrong : ChangeSpec := { name := "searchLists", fn := fun _ => fun
  | [d1, d2, d3] => { results := [.lit (.bool false)], args := [d1, d2, d3] }
  | _ => none }
def SearchListsWrongFalsely : Prop := searchListsRow.holds Tryd.pinned (OpenSpec.ofChange searchListsWrong)

/-- 'dictumlaw11.SearchWeaker': WHATEVER THE INPUT: true; the input reads as it did. -/
def searchWeakerSpec : ChangeSpec := { name := "searchWeaker", fn := fun _ => fun
  | [d1, d2, d3] => { results := [.lit (.bool true)], args := [d1, d2, d3] }
  | _ => none }
def searchWeakerRow : OpenClaim := { program := "ytjjkhjieegmphaadoor", sum := "28ae21ea49507303832ef6006fea5ceaccf7fd544449ee9b4deebb5c3f086b10", func := "dictum/dictumlaw11.SearchWeaker", spec := "searchWeaker", unfollowed := true, recurses := true, named := ["math/bits.deBruijn64tab"], plainKeys := false, apart := false, laid := [("math/bits.deBruijn64tab", laid_math_bits_deBruijn64tab)] }
def SearchWeakerSaid : Prop := searchWeakerRow.holds Tryd.pinned (OpenSpec.ofChange searchWeakerSpec)

/-- ITS FALSE NEIGHBOUR: 'it returns false'. Refute it at one input. -/
def searchWeakerWrong : ChangeSpec := { name := "searchWeaker", fn := fun _ => fun
  | [d1, d2, d3] => { results := [.lit (.bool false)], args := [d1, d2, d3] }
  | _ => none }
def SearchWeakerWrongFalsely : Prop := searchWeakerRow.holds Tryd.pinned (OpenSpec.ofChange searchWeakerWrong)

/-- 'dictumlaw11.SearchCut': WHATEVER THE INPUT: true; the input reads as it did. -/
def searchCutSpec : ChangeSpec := { name := "searchCut", fn := fun _ => fun
  | [d1, d2, d3] => { results := [.lit (.bool true)], args := [d1, d2, d3] }
  | _ => none }
def searchCutRow : OpenClaim := { program := "ytjjkhjieegmphaadoor", sum := "28ae21ea49507303832ef6006fea5ceaccf7fd544449ee9b4deebb5c3f086b10", func := "dictum/dictumlaw11.SearchCut", spec := "searchCut", unfollowed := true, recurses := true, named := ["math/bits.deBruijn64tab"], plainKeys := false, apart := false, laid := [("math/bits.deBruijn64tab", laid_math_bits_deBruijn64tab)] }
def SearchCutSaid : Prop := searchCutRow.holds Tryd.pinned (OpenSpec.ofChange searchCutSpec)

/-- ITS FALSE NEIGHBOUR: 'it returns false'. Refute it at one input. -/
def searchCutWrong : ChangeSpec := { name := "searchCut", fn := fun _ => fun
  | [d1, d2, d3] => { results := [.lit (.bool false)], args := [d1, d2, d3] }
  | _ => none }
def SearchCutWrongFalsely : Prop := searchCutRow.holds Tryd.pinned (OpenSpec.ofChange searchCutWrong)

/-- 'dictumlaw11.SearchDeduces': WHATEVER THE INPUT: true; the input reads as it did. -/
def searchDeducesSpec : ChangeSpec := { name := "searchDeduces", fn := fun _ => fun
  | [d1, d2, d3] => { results := [.lit (.bool true)], args := [d1, d2, d3] }
  | _ => none }
def searchDeducesRow : OpenClaim := { program := "ytjjkhjieegmphaadoor", sum := "28ae21ea49507303832ef6006fea5ceaccf7fd544449ee9b4deebb5c3f086b10", func := "dictum/dictumlaw11.SearchDeduces", spec := "searchDeduces", unfollowed := true, recurses := true, named := ["math/bits.deBruijn64tab"], plainKeys := false, apart := false, laid := [("math/bits.deBruijn64tab", laid_math_bits_deBruijn64tab)] }
def SearchDeducesSaid : Prop := searchDeducesRow.holds Tryd.pinned (OpenSpec.ofChange searchDeducesSpec)

/-- ITS FALSE NEIGHBOUR: 'it returns false'. Refute it at one input. -/
def searchDeducesWrong : ChangeSpec := { name := "searchDeduces", fn := fun _ => fun
  | [d1, d2, d3] => { results := [.lit (.bool false)], args := [d1, d2, d3] }
  | _ => none }
def SearchDeducesWrongFalsely : Prop := searchDeducesRow.holds Tryd.pinned (OpenSpec.ofChange searchDeducesWrong)

/-- 'dictumlaw11.SearchTrue': WHATEVER THE INPUT: true; the input reads as it did. -/
def searchTrueSpec : ChangeSpec := { name := "searchTrue", fn := fun _ => fun
  | [d1, d2, d3] => { results := [.lit (.bool true)], args := [d1, d2, d3] }
  | _ => none }
def searchTrueRow : OpenClaim := { program := "ytjjkhjieegmphaadoor", sum := "28ae21ea49507303832ef6006fea5ceaccf7fd544449ee9b4deebb5c3f086b10", func := "dictum/dictumlaw11.SearchTrue", spec := "searchTrue", unfollowed := true, recurses := true, named := ["math/bits.deBruijn64tab"], plainKeys := false, apart := false, laid := [("math/bits.deBruijn64tab", laid_math_bits_deBruijn64tab)] }
def SearchTrueSaid : Prop := searchTrueRow.holds Tryd.pinned (OpenSpec.ofChange searchTrueSpec)

/-- ITS FALSE NEIGHBOUR: 'it returns false'. Refute it at one input. -/
def searchTrueWrong : ChangeSpec := { name := "searchTrue", fn := fun _ => fun
  | [d1, d2, d3] => { results := [.lit (.bool false)], args := [d1, d2, d3] }
  | _ => none }
def SearchTrueWrongFalsely : Prop := searchTrueRow.holds Tryd.pinned (OpenSpec.ofChange searchTrueWrong)

/-- 'dictumlaw11.SearchNobody': WHATEVER THE INPUT: true; the input reads as it did. -/
def searchNobodySpec : ChangeSpec := { name := "searchNobody", fn := fun _ => fun
  | [d1, d2] => { results := [.lit (.bool true)], args := [d1, d2] }
  | _ => none }
def searchNobodyRow : OpenClaim := { program := "ytjjkhjieegmphaadoor", sum := "28ae21ea49507303832ef6006fea5ceaccf7fd544449ee9b4deebb5c3f086b10", func := "dictum/dictumlaw11.SearchNobody", spec := "searchNobody", unfollowed := true, recurses := true, named := ["math/bits.deBruijn64tab"], plainKeys := false, apart := false, laid := [("math/bits.deBruijn64tab", laid_math_bits_deBruijn64tab)] }
def SearchNobodySaid : Prop := searchNobodyRow.holds Tryd.pinned (OpenSpec.ofChange searchNobodySpec)

/-- ITS FALSE NEIGHBOUR: 'it returns false'. Refute it at one input. -/
def searchNobodyWrong : ChangeSpec := { name := "searchNobody", fn := fun _ => fun
  | [d1, d2] => { results := [.lit (.bool false)], args := [d1, d2] }
  | _ => none }
def SearchNobodyWrongFalsely : Prop := searchNobodyRow.holds Tryd.pinned (OpenSpec.ofChange searchNobodyWrong)

/-- 'dictumlaw11.SearchRuns': WHATEVER THE INPUT: true; the input reads as it did. -/
def searchRunsSpec : ChangeSpec := { name := "searchRuns", fn := fun _ => fun
  | [d1, d2, d3] => { results := [.lit (.bool true)], args := [d1, d2, d3] }
  | _ => none }
def searchRunsRow : OpenClaim := { program := "ytjjkhjieegmphaadoor", sum := "28ae21ea49507303832ef6006fea5ceaccf7fd544449ee9b4deebb5c3f086b10", func := "dictum/dictumlaw11.SearchRuns", spec := "searchRuns", unfollowed := true, recurses := true, named := ["math/bits.deBruijn64tab"], plainKeys := false, apart := false, laid := [("math/bits.deBruijn64tab", laid_math_bits_deBruijn64tab)] }
def SearchRunsSaid : Prop := searchRunsRow.holds Tryd.pinned (OpenSpec.ofChange searchRunsSpec)

/-- ITS FALSE NEIGHBOUR: 'it returns false'. Refute it at one input. -/
def searchRunsWrong : ChangeSpec := { name := "searchRuns", fn := fun _ => fun
  | [d1, d2, d3] => { results := [.lit (.bool false)], args := [d1, d2, d3] }
  | _ => none }
def SearchRunsWrongFalsely : Prop := searchRunsRow.holds Tryd.pinned (OpenSpec.ofChange searchRunsWrong)

/- THE SECOND FORM. 'bulk': how many values and letters a reading holds, each counted each time it is reached (what is shared counts as often as it is met; a slice's spare places count too). A statement '..UptoSaid' is the law's where the arguments, and the package variables that the reading takes, are together of bulk at most 1048576: NARROWER than '..Said'. Prove '..Said' where nothing that the law and all that it calls make is longer than what came in: it says more and counts as full. Else prove '..UptoSaid'. A law counts once. -/
mutual
def uptoBulk {H : Type} : DataW H → Nat
  | .lit (.string bytes) => bytes.length + 1
  | .lit _ => 1
  | .nil => 1
  | .ptr d => uptoBulk d + 1
  | .slice elems spare => uptoBulkAll elems + uptoBulkAll spare + 1
  | .agg parts => uptoBulkAll parts + 1
  | .iface _ d => uptoBulk d + 1
  | .map entries => uptoBulkEntries entries + 1
  | .held _ => 1
def uptoBulkAll {H : Type} : List (DataW H) → Nat
  | [] => 0
  | d :: r => uptoBulk d + uptoBulkAll r
def uptoBulkEntries {H : Type} : List (Lit × DataW H) → Nat
  | [] => 0
  | x :: r => uptoBulkEntry x + uptoBulkEntries r
def uptoBulkEntry {H : Type} : Lit × DataW H → Nat
  | (.string bytes, d) => bytes.length + uptoBulk d + 1
  | (_, d) => uptoBulk d + 1
 end
def uptoSmall : (H : Type) → List (DataW H) → Bool := fun _ ds => decide (uptoBulkAll ds ≤ 1048576)
def OpenSpec.upto (s : _root_.Go.ChangeSpec) : _root_.Go.OpenSpec := { _root_.Go.OpenSpec.ofChange s with cond := some uptoSmall }

/-- 'dictumlaw09.RuleNobody', WHERE WHAT IT READS IS OF BULK AT MOST 1048576: true; the input reads as it did. -/
def ruleNobodyUptoRow : OpenClaim := { program := "ytjjkhjieegmphaadoor", sum := "28ae21ea49507303832ef6006fea5ceaccf7fd544449ee9b4deebb5c3f086b10", func := "dictum/dictumlaw09.RuleNobody", spec := "ruleNobody", unfollowed := true, recurses := true, named := ["math/bits.deBruijn64tab"], plainKeys := false, apart := false, laid := [("math/bits.deBruijn64tab", laid_math_bits_deBruijn64tab)], narrowed := true }
def RuleNobodyUptoSaid : Prop := ruleNobodyUptoRow.holds Tryd.pinned (OpenSpec.upto ruleNobodySpec)

/-- 'dictumlaw09.RuleTells', WHERE WHAT IT READS IS OF BULK AT MOST 1048576: true; the input reads as it did. -/
def ruleTellsUptoRow : OpenClaim := { program := "ytjjkhjieegmphaadoor", sum := "28ae21ea49507303832ef6006fea5ceaccf7fd544449ee9b4deebb5c3f086b10", func := "dictum/dictumlaw09.RuleTells", spec := "ruleTells", unfollowed := true, recurses := true, named := ["math/bits.deBruijn64tab"], plainKeys := false, apart := false, laid := [("math/bits.deBruijn64tab", laid_math_bits_deBruijn64tab)], narrowed := true }
def RuleTellsUptoSaid : Prop := ruleTellsUptoRow.holds Tryd.pinned (OpenSpec.upto ruleTellsSpec)

/-- 'dictumlaw09.RulePremises', WHERE WHAT IT READS IS OF BULK AT MOST 1048576: true; the input reads as it did. -/
def rulePremisesUptoRow : OpenClaim := { program := "ytjjkhjieegmphaadoor", sum := "28ae21ea49507303832ef6006fea5ceaccf7fd544449ee9b4deebb5c3f086b10", func := "dictum/dictumlaw09.RulePremises", spec := "rulePremises", unfollowed := true, recurses := true, named := ["math/bits.deBruijn64tab"], plainKeys := false, apart := false, laid := [("math/bits.deBruijn64tab", laid_math_bits_deBruijn64tab)], narrowed := true }
def RulePremisesUptoSaid : Prop := rulePremisesUptoRow.holds Tryd.pinned (OpenSpec.upto rulePremisesSpec)

/-- 'dictumlaw09.RuleFalls', WHERE WHAT IT READS IS OF BULK AT MOST 1048576: true; the input reads as it did. -/
def ruleFallsUptoRow : OpenClaim := { program := "ytjjkhjieegmphaadoor", sum := "28ae21ea49507303832ef6006fea5ceaccf7fd544449ee9b4deebb5c3f086b10", func := "dictum/dictumlaw09.RuleFalls", spec := "ruleFalls", unfollowed := true, recurses := true, named := ["math/bits.deBruijn64tab"], plainKeys := false, apart := false, laid := [("math/bits.deBruijn64tab", laid_math_bits_deBruijn64tab)], narrowed := true }
def RuleFallsUptoSaid : Prop := ruleFallsUptoRow.holds Tryd.pinned (OpenSpec.upto ruleFallsSpec)

/-- 'dictumlaw09.RuleTruth', WHERE WHAT IT READS IS OF BULK AT MOST 1048576: true; the input reads as it did. -/
def ruleTruthUptoRow : OpenClaim := { program := "ytjjkhjieegmphaadoor", sum := "28ae21ea49507303832ef6006fea5ceaccf7fd544449ee9b4deebb5c3f086b10", func := "dictum/dictumlaw09.RuleTruth", spec := "ruleTruth", unfollowed := true, recurses := true, named := ["math/bits.deBruijn64tab"], plainKeys := false, apart := false, laid := [("math/bits.deBruijn64tab", laid_math_bits_deBruijn64tab)], narrowed := true }
def RuleTruthUptoSaid : Prop := ruleTruthUptoRow.holds Tryd.pinned (OpenSpec.upto ruleTruthSpec)

/-- 'dictumlaw11.SearchLists', WHERE WHAT IT READS IS OF BULK AT MOST 1048576: true; the input reads as it did. -/
def searchListsUptoRow : OpenClaim := { program := "ytjjkhjieegmphaadoor", sum := "28ae21ea49507303832ef6006fea5ceaccf7fd544449ee9b4deebb5c3f086b10", func := "dictum/dictumlaw11.SearchLists", spec := "searchLists", unfollowed := true, recurses := true, named := ["math/bits.deBruijn64tab"], plainKeys := false, apart := false, laid := [("math/bits.deBruijn64tab", laid_math_bits_deBruijn64tab)], narrowed := true }
def SearchListsUptoSaid : Prop := searchListsUptoRow.holds Tryd.pinned (OpenSpec.upto searchListsSpec)

/-- 'dictumlaw11.SearchWeaker', WHERE WHAT IT READS IS OF BULK AT MOST 1048576: true; the input reads as it did. -/
def searchWeakerUptoRow : OpenClaim := { program := "ytjjkhjieegmphaadoor", sum := "28ae21ea49507303832ef6006fea5ceaccf7fd544449ee9b4deebb5c3f086b10", func := "dictum/dictumlaw11.SearchWeaker", spec := "searchWeaker", unfollowed := true, recurses := true, named := ["math/bits.deBruijn64tab"], plainKeys := false, apart := false, laid := [("math/bits.deBruijn64tab", laid_math_bits_deBruijn64tab)], narrowed := true }
def SearchWeakerUptoSaid : Prop := searchWeakerUptoRow.holds Tryd.pinned (OpenSpec.upto searchWeakerSpec)

/-- 'dictumlaw11.SearchCut', WHERE WHAT IT READS IS OF BULK AT MOST 1048576: true; the input reads as it did. -/
def searchCutUptoRow : OpenClaim := { program := "ytjjkhjieegmphaadoor", sum := "28ae21ea49507303832ef6006fea5ceaccf7fd544449ee9b4deebb5c3f086b10", func := "dictum/dictumlaw11.SearchCut", spec := "searchCut", unfollowed := true, recurses := true, named := ["math/bits.deBruijn64tab"], plainKeys := false, apart := false, laid := [("math/bits.deBruijn64tab", laid_math_bits_deBruijn64tab)], narrowed := true }
def SearchCutUptoSaid : Prop := searchCutUptoRow.holds Tryd.pinned (OpenSpec.upto searchCutSpec)

/-- 'dictumlaw11.SearchDeduces', WHERE WHAT IT READS IS OF BULK AT MOST 1048576: true; the input reads as it did. -/
def searchDeducesUptoRow : OpenClaim := { program := "ytjjkhjieegmphaadoor", sum := "28ae21ea49507303832ef6006fea5ceaccf7fd544449ee9b4deebb5c3f086b10", func := "dictum/dictumlaw11.SearchDeduces", spec := "searchDeduces", unfollowed := true, recurses := true, named := ["math/bits.deBruijn64tab"], plainKeys := false, apart := false, laid := [("math/bits.deBruijn64tab", laid_math_bits_deBruijn64tab)], narrowed := true }
def SearchDeducesUptoSaid : Prop := searchDeducesUptoRow.holds Tryd.pinned (OpenSpec.upto searchDeducesSpec)

/-- 'dictumlaw11.SearchTrue', WHERE WHAT IT READS IS OF BULK AT MOST 1048576: true; the input reads as it did. -/
def searchTrueUptoRow : OpenClaim := { program := "ytjjkhjieegmphaadoor", sum := "28ae21ea49507303832ef6006fea5ceaccf7fd544449ee9b4deebb5c3f086b10", func := "dictum/dictumlaw11.SearchTrue", spec := "searchTrue", unfollowed := true, recurses := true, named := ["math/bits.deBruijn64tab"], plainKeys := false, apart := false, laid := [("math/bits.deBruijn64tab", laid_math_bits_deBruijn64tab)], narrowed := true }
def SearchTrueUptoSaid : Prop := searchTrueUptoRow.holds Tryd.pinned (OpenSpec.upto searchTrueSpec)

/-- 'dictumlaw11.SearchNobody', WHERE WHAT IT READS IS OF BULK AT MOST 1048576: true; the input reads as it did. -/
def searchNobodyUptoRow : OpenClaim := { program := "ytjjkhjieegmphaadoor", sum := "28ae21ea49507303832ef6006fea5ceaccf7fd544449ee9b4deebb5c3f086b10", func := "dictum/dictumlaw11.SearchNobody", spec := "searchNobody", unfollowed := true, recurses := true, named := ["math/bits.deBruijn64tab"], plainKeys := false, apart := false, laid := [("math/bits.deBruijn64tab", laid_math_bits_deBruijn64tab)], narrowed := true }
def SearchNobodyUptoSaid : Prop := searchNobodyUptoRow.holds Tryd.pinned (OpenSpec.upto searchNobodySpec)

/-- 'dictumlaw11.SearchRuns', WHERE WHAT IT READS IS OF BULK AT MOST 1048576: true; the input reads as it did. -/
def searchRunsUptoRow : OpenClaim := { program := "ytjjkhjieegmphaadoor", sum := "28ae21ea49507303832ef6006fea5ceaccf7fd544449ee9b4deebb5c3f086b10", func := "dictum/dictumlaw11.SearchRuns", spec := "searchRuns", unfollowed := true, recurses := true, named := ["math/bits.deBruijn64tab"], plainKeys := false, apart := false, laid := [("math/bits.deBruijn64tab", laid_math_bits_deBruijn64tab)], narrowed := true }
def SearchRunsUptoSaid : Prop := searchRunsUptoRow.holds Tryd.pinned (OpenSpec.upto searchRunsSpec)

end Rows
end Go.Proofs.YtjjkhjieegmphaaDoor
