/-
  DERIVED. GIVEN WITH THE SEED: THE CARDS: each row of YtjjkhjieegmphaaDoorRows.lean that lists a variable, with what it lists TIED to the program's text (the seventh form; the later family's looks); each row that meets fmt, with fmt's text TOLD by the authors' own Lean function (tested against real Go, not proved from fmt's source: count such statements apart). THE CARD IS WHAT COUNTS. Prove the row's statement (the work); the ties are given (YtjjkhjieegmphaaDoorTie.lean); close each card by the builder's one call (the guide's Derived/Test/ToyasCard.lean, 'card_holds'). Laid BY PROGRAM, IN A SANDBOX (cutbox-door.mjs). By AI agents, Wed Nov 11 2026. No macro, syntax, notation, axiom, sorry.
-/
import Derived.Test.YtjjkhjieegmphaaDoorRows
import GoSem.ClaimSeven
namespace Go.Proofs.YtjjkhjieegmphaaDoor
namespace Rows

/-- THE TIED CARD OF 'dictumlaw09.RuleNobody'. -/
def ruleNobodyCard : Claim7 := { stood := { row := ruleNobodyRow, standIns := [], harness := (true, "11c446e8f77732e98ac76c4ba799265eae3adef930f64a81041417809964de48"), looks := false }, kinds := [], alts := [], laidByText := true, laidKinds := [.data], laidTests := true, laidLooks := .later }
def RuleNobodyCardSaid : Prop := Claim7.holds Tryd.pinned (.plain (OpenSpec.ofChange ruleNobodySpec)) ruleNobodyCard

/-- THE TIED CARD OF 'dictumlaw09.RuleTells'. -/
def ruleTellsCard : Claim7 := { stood := { row := ruleTellsRow, standIns := [], harness := (true, "11c446e8f77732e98ac76c4ba799265eae3adef930f64a81041417809964de48"), looks := false }, kinds := [], alts := [], laidByText := true, laidKinds := [.data], laidTests := true, laidLooks := .later }
def RuleTellsCardSaid : Prop := Claim7.holds Tryd.pinned (.plain (OpenSpec.ofChange ruleTellsSpec)) ruleTellsCard

/-- THE TIED CARD OF 'dictumlaw09.RulePremises'. -/
def rulePremisesCard : Claim7 := { stood := { row := rulePremisesRow, standIns := [], harness := (true, "11c446e8f77732e98ac76c4ba799265eae3adef930f64a81041417809964de48"), looks := false }, kinds := [], alts := [], laidByText := true, laidKinds := [.data], laidTests := true, laidLooks := .later }
def RulePremisesCardSaid : Prop := Claim7.holds Tryd.pinned (.plain (OpenSpec.ofChange rulePremisesSpec)) rulePremisesCard

/-- THE TIED CARD OF 'dictumlaw09.RuleFalls'. -/
def ruleFallsCard : Claim7 := { stood := { row := ruleFallsRow, standIns := [], harness := (true, "11c446e8f77732e98ac76c4ba799265eae3adef930f64a81041417809964de48"), looks := false }, kinds := [], alts := [], laidByText := true, laidKinds := [.data], laidTests := true, laidLooks := .later }
def RuleFallsCardSaid : Prop := Claim7.holds Tryd.pinned (.plain (OpenSpec.ofChange ruleFallsSpec)) ruleFallsCard

/-- THE TIED CARD OF 'dictumlaw09.RuleTruth'. -/
def ruleTruthCard : Claim7 := { stood := { row := ruleTruthRow, standIns := [], harness := (true, "11c446e8f77732e98ac76c4ba799265eae3adef930f64a81041417809964de48"), looks := false }, kinds := [], alts := [], laidByText := true, laidKinds := [.data], laidTests := true, laidLooks := .later }
def RuleTruthCardSaid : Prop := Claim7.holds Tryd.pinned (.plain (OpenSpec.ofChange ruleTruthSpec)) ruleTruthCard

/-- THE TIED CARD OF 'dictumlaw11.SearchLists'. -/
def searchListsCard : Claim7 := { stood := { row := searchListsRow, standIns := [], harness := (true, "11c446e8f77732e98ac76c4ba799265eae3adef930f64a81041417809964de48"), looks := false }, kinds := [], alts := [], laidByText := true, laidKinds := [.data], laidTests := true, laidLooks := .later }
def SearchListsCardSaid : Prop := Claim7.holds Tryd.pinned (.plain (OpenSpec.ofChange searchListsSpec)) searchListsCard

/-- THE TIED CARD OF 'dictumlaw11.SearchWeaker'. -/
def searchWeakerCard : Claim7 := { stood := { row := searchWeakerRow, standIns := [], harness := (true, "11c446e8f77732e98ac76c4ba799265eae3adef930f64a81041417809964de48"), looks := false }, kinds := [], alts := [], laidByText := true, laidKinds := [.data], laidTests := true, laidLooks := .later }
def SearchWeakerCardSaid : Prop := Claim7.holds Tryd.pinned (.plain (OpenSpec.ofChange searchWeakerSpec)) searchWeakerCard

/-- THE TIED CARD OF 'dictumlaw11.SearchCut'. -/
def searchCutCard : Claim7 := { stood := { row := searchCutRow, standIns := [], harness := (true, "11c446e8f77732e98ac76c4ba799265eae3adef930f64a81041417809964de48"), looks := false }, kinds := [], alts := [], laidByText := true, laidKinds := [.data], laidTests := true, laidLooks := .later }
def SearchCutCardSaid : Prop := Claim7.holds Tryd.pinned (.plain (OpenSpec.ofChange searchCutSpec)) searchCutCard

/-- THE TIED CARD OF 'dictumlaw11.SearchDeduces'. -/
def searchDeducesCard : Claim7 := { stood := { row := searchDeducesRow, standIns := [], harness := (true, "11c446e8f77732e98ac76c4ba799265eae3adef930f64a81041417809964de48"), looks := false }, kinds := [], alts := [], laidByText := true, laidKinds := [.data], laidTests := true, laidLooks := .later }
def SearchDeducesCardSaid : Prop := Claim7.holds Tryd.pinned (.plain (OpenSpec.ofChange searchDeducesSpec)) searchDeducesCard

/-- THE TIED CARD OF 'dictumlaw11.SearchTrue'. -/
def searchTrueCard : Claim7 := { stood := { row := searchTrueRow, standIns := [], harness := (true, "11c446e8f77732e98ac76c4ba799265eae3adef930f64a81041417809964de48"), looks := false }, kinds := [], alts := [], laidByText := true, laidKinds := [.data], laidTests := true, laidLooks := .later }
def SearchTrueCardSaid : Prop := Claim7.holds Tryd.pinned (.plain (OpenSpec.ofChange searchTrueSpec)) searchTrueCard

/-- THE TIED CARD OF 'dictumlaw11.SearchNobody'. -/
def searchNobodyCard : Claim7 := { stood := { row := searchNobodyRow, standIns := [], harness := (true, "11c446e8f77732e98ac76c4ba799265eae3adef930f64a81041417809964de48"), looks := false }, kinds := [], alts := [], laidByText := true, laidKinds := [.data], laidTests := true, laidLooks := .later }
def SearchNobodyCardSaid : Prop := Claim7.holds Tryd.pinned (.plain (OpenSpec.ofChange searchNobodySpec)) searchNobodyCard

/-- THE TIED CARD OF 'dictumlaw11.SearchRuns'. -/
def searchRunsCard : Claim7 := { stood := { row := searchRunsRow, standIns := [], harness := (true, "11c446e8f77732e98ac76c4ba799265eae3adef930f64a81041417809964de48"), looks := false }, kinds := [], alts := [], laidByText := true, laidKinds := [.data], laidTests := true, laidLooks := .later }
def SearchRunsCardSaid : Prop := Claim7.holds Tryd.pinned (.plain (OpenSpec.ofChange searchRunsSpec)) searchRunsCard

/-- THE SECOND FORM's CARD OF 'dictumlaw09.RuleNobody'. -/
def ruleNobodyUptoCard : Claim7 := { stood := { row := ruleNobodyUptoRow, standIns := [], harness := (true, "11c446e8f77732e98ac76c4ba799265eae3adef930f64a81041417809964de48"), looks := false }, kinds := [], alts := [], laidByText := true, laidKinds := [.data], laidTests := true, laidLooks := .later }
def RuleNobodyUptoCardSaid : Prop := Claim7.holds Tryd.pinned (.plain (OpenSpec.upto ruleNobodySpec)) ruleNobodyUptoCard

/-- THE SECOND FORM's CARD OF 'dictumlaw09.RuleTells'. -/
def ruleTellsUptoCard : Claim7 := { stood := { row := ruleTellsUptoRow, standIns := [], harness := (true, "11c446e8f77732e98ac76c4ba799265eae3adef930f64a81041417809964de48"), looks := false }, kinds := [], alts := [], laidByText := true, laidKinds := [.data], laidTests := true, laidLooks := .later }
def RuleTellsUptoCardSaid : Prop := Claim7.holds Tryd.pinned (.plain (OpenSpec.upto ruleTellsSpec)) ruleTellsUptoCard

/-- THE SECOND FORM's CARD OF 'dictumlaw09.RulePremises'. -/
def rulePremisesUptoCard : Claim7 := { stood := { row := rulePremisesUptoRow, standIns := [], harness := (true, "11c446e8f77732e98ac76c4ba799265eae3adef930f64a81041417809964de48"), looks := false }, kinds := [], alts := [], laidByText := true, laidKinds := [.data], laidTests := true, laidLooks := .later }
def RulePremisesUptoCardSaid : Prop := Claim7.holds Tryd.pinned (.plain (OpenSpec.upto rulePremisesSpec)) rulePremisesUptoCard

/-- THE SECOND FORM's CARD OF 'dictumlaw09.RuleFalls'. -/
def ruleFallsUptoCard : Claim7 := { stood := { row := ruleFallsUptoRow, standIns := [], harness := (true, "11c446e8f77732e98ac76c4ba799265eae3adef930f64a81041417809964de48"), looks := false }, kinds := [], alts := [], laidByText := true, laidKinds := [.data], laidTests := true, laidLooks := .later }
def RuleFallsUptoCardSaid : Prop := Claim7.holds Tryd.pinned (.plain (OpenSpec.upto ruleFallsSpec)) ruleFallsUptoCard

/-- THE SECOND FORM's CARD OF 'dictumlaw09.RuleTruth'. -/
def ruleTruthUptoCard : Claim7 := { stood := { row := ruleTruthUptoRow, standIns := [], harness := (true, "11c446e8f77732e98ac76c4ba799265eae3adef930f64a81041417809964de48"), looks := false }, kinds := [], alts := [], laidByText := true, laidKinds := [.data], laidTests := true, laidLooks := .later }
def RuleTruthUptoCardSaid : Prop := Claim7.holds Tryd.pinned (.plain (OpenSpec.upto ruleTruthSpec)) ruleTruthUptoCard

/-- THE SECOND FORM's CARD OF 'dictumlaw11.SearchLists'. -/
def searchListsUptoCard : Claim7 := { stood := { row := searchListsUptoRow, standIns := [], harness := (true, "11c446e8f77732e98ac76c4ba799265eae3adef930f64a81041417809964de48"), looks := false }, kinds := [], alts := [], laidByText := true, laidKinds := [.data], laidTests := true, laidLooks := .later }
def SearchListsUptoCardSaid : Prop := Claim7.holds Tryd.pinned (.plain (OpenSpec.upto searchListsSpec)) searchListsUptoCard

/-- THE SECOND FORM's CARD OF 'dictumlaw11.SearchWeaker'. -/
def searchWeakerUptoCard : Claim7 := { stood := { row := searchWeakerUptoRow, standIns := [], harness := (true, "11c446e8f77732e98ac76c4ba799265eae3adef930f64a81041417809964de48"), looks := false }, kinds := [], alts := [], laidByText := true, laidKinds := [.data], laidTests := true, laidLooks := .later }
def SearchWeakerUptoCardSaid : Prop := Claim7.holds Tryd.pinned (.plain (OpenSpec.upto searchWeakerSpec)) searchWeakerUptoCard

/-- THE SECOND FORM's CARD OF 'dictumlaw11.SearchCut'. -/
def searchCutUptoCard : Claim7 := { stood := { row := searchCutUptoRow, standIns := [], harness := (true, "11c446e8f77732e98ac76c4ba799265eae3adef930f64a81041417809964de48"), looks := false }, kinds := [], alts := [], laidByText := true, laidKinds := [.data], laidTests := true, laidLooks := .later }
def SearchCutUptoCardSaid : Prop := Claim7.holds Tryd.pinned (.plain (OpenSpec.upto searchCutSpec)) searchCutUptoCard

/-- THE SECOND FORM's CARD OF 'dictumlaw11.SearchDeduces'. -/
def searchDeducesUptoCard : Claim7 := { stood := { row := searchDeducesUptoRow, standIns := [], harness := (true, "11c446e8f77732e98ac76c4ba799265eae3adef930f64a81041417809964de48"), looks := false }, kinds := [], alts := [], laidByText := true, laidKinds := [.data], laidTests := true, laidLooks := .later }
def SearchDeducesUptoCardSaid : Prop := Claim7.holds Tryd.pinned (.plain (OpenSpec.upto searchDeducesSpec)) searchDeducesUptoCard

/-- THE SECOND FORM's CARD OF 'dictumlaw11.SearchTrue'. -/
def searchTrueUptoCard : Claim7 := { stood := { row := searchTrueUptoRow, standIns := [], harness := (true, "11c446e8f77732e98ac76c4ba799265eae3adef930f64a81041417809964de48"), looks := false }, kinds := [], alts := [], laidByText := true, laidKinds := [.data], laidTests := true, laidLooks := .later }
def SearchTrueUptoCardSaid : Prop := Claim7.holds Tryd.pinned (.plain (OpenSpec.upto searchTrueSpec)) searchTrueUptoCard

/-- THE SECOND FORM's CARD OF 'dictumlaw11.SearchNobody'. -/
def searchNobodyUptoCard : Claim7 := { stood := { row := searchNobodyUptoRow, standIns := [], harness := (true, "11c446e8f77732e98ac76c4ba799265eae3adef930f64a81041417809964de48"), looks := false }, kinds := [], alts := [], laidByText := true, laidKinds := [.data], laidTests := true, laidLooks := .later }
def SearchNobodyUptoCardSaid : Prop := Claim7.holds Tryd.pinned (.plain (OpenSpec.upto searchNobodySpec)) searchNobodyUptoCard

/-- THE SECOND FORM's CARD OF 'dictumlaw11.SearchRuns'. -/
def searchRunsUptoCard : Claim7 := { stood := { row := searchRunsUptoRow, standIns := [], harness := (true, "11c446e8f77732e98ac76c4ba799265eae3adef930f64a81041417809964de48"), looks := false }, kinds := [], alts := [], laidByText := true, laidKinds := [.data], laidTests := true, laidLooks := .later }
def SearchRunsUptoCardSaid : Prop := Claim7.holds Tryd.pinned (.plain (OpenSpec.upto searchRunsSpec)) searchRunsUptoCard
end Rows
end Go.Proofs.YtjjkhjieegmphaaDoor
