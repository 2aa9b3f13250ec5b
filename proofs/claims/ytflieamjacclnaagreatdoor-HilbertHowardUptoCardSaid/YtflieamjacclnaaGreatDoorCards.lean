/-
  DERIVED. GIVEN WITH THE SEED: THE CARDS: each row of YtflieamjacclnaaGreatDoorRows.lean that lists a variable, with what it lists TIED to the program's text (the seventh form; the later family's looks); each row that meets fmt, with fmt's text TOLD by the authors' own Lean function (tested against real Go, not proved from fmt's source: count such statements apart). THE CARD IS WHAT COUNTS. Prove the row's statement (the work); the ties are given (YtflieamjacclnaaGreatDoorTie.lean); close each card by the builder's one call (the guide's Derived/Test/ToyasCard.lean, 'card_holds'). Laid BY PROGRAM, IN A SANDBOX (cutbox-door.mjs). By AI agents, Wed Nov 11 2026. No macro, syntax, notation, axiom, sorry.
-/
import Derived.Test.YtflieamjacclnaaGreatDoorRows
import GoSem.ClaimSeven
namespace Go.Proofs.YtflieamjacclnaaGreatDoor
namespace Rows

/-- THE TIED CARD OF 'dictumlaw16.HilbertNobody'. -/
def hilbertNobodyCard : Claim7 := { stood := { row := hilbertNobodyRow, standIns := [], harness := (true, "1a28e00568a2fea3ed6b0fc95fa549ecbdc75925d845f6a79fbf6f95e708335c"), looks := true }, kinds := [], alts := [], laidByText := true, laidKinds := [.data, .data, .data, .handle], laidTests := true, laidLooks := .later }
def HilbertNobodyCardSaid : Prop := Claim7.holds Tryz.pinned (.plain (OpenSpec.ofChange hilbertNobodySpec)) hilbertNobodyCard

/-- THE TIED CARD OF 'dictumlaw16.HilbertIs'. -/
def hilbertIsCard : Claim7 := { stood := { row := hilbertIsRow, standIns := [], harness := (true, "1a28e00568a2fea3ed6b0fc95fa549ecbdc75925d845f6a79fbf6f95e708335c"), looks := true }, kinds := [], alts := [], laidByText := true, laidKinds := [.data, .data, .data, .handle], laidTests := true, laidLooks := .later }
def HilbertIsCardSaid : Prop := Claim7.holds Tryz.pinned (.plain (OpenSpec.ofChange hilbertIsSpec)) hilbertIsCard

/-- THE TIED CARD OF 'dictumlaw16.HilbertTheorem'. -/
def hilbertTheoremCard : Claim7 := { stood := { row := hilbertTheoremRow, standIns := [], harness := (true, "1a28e00568a2fea3ed6b0fc95fa549ecbdc75925d845f6a79fbf6f95e708335c"), looks := true }, kinds := [], alts := [], laidByText := true, laidKinds := [.data, .data, .data, .handle], laidTests := true, laidLooks := .later }
def HilbertTheoremCardSaid : Prop := Claim7.holds Tryz.pinned (.plain (OpenSpec.ofChange hilbertTheoremSpec)) hilbertTheoremCard

/-- THE TIED CARD OF 'dictumlaw16.HilbertHoward'. -/
def hilbertHowardCard : Claim7 := { stood := { row := hilbertHowardRow, standIns := [], harness := (true, "1a28e00568a2fea3ed6b0fc95fa549ecbdc75925d845f6a79fbf6f95e708335c"), looks := true }, kinds := [], alts := [], laidByText := true, laidKinds := [.data, .data, .data, .handle], laidTests := true, laidLooks := .later }
def HilbertHowardCardSaid : Prop := Claim7.holds Tryz.pinned (.plain (OpenSpec.ofChange hilbertHowardSpec)) hilbertHowardCard

/-- THE TIED CARD OF 'dictumlaw16.HilbertBack'. -/
def hilbertBackCard : Claim7 := { stood := { row := hilbertBackRow, standIns := [], harness := (true, "1a28e00568a2fea3ed6b0fc95fa549ecbdc75925d845f6a79fbf6f95e708335c"), looks := true }, kinds := [], alts := [], laidByText := true, laidKinds := [.data, .data, .data, .handle], laidTests := true, laidLooks := .later }
def HilbertBackCardSaid : Prop := Claim7.holds Tryz.pinned (.plain (OpenSpec.ofChange hilbertBackSpec)) hilbertBackCard

/-- THE TIED CARD OF 'dictumlaw16.HilbertSound'. -/
def hilbertSoundCard : Claim7 := { stood := { row := hilbertSoundRow, standIns := [], harness := (true, "1a28e00568a2fea3ed6b0fc95fa549ecbdc75925d845f6a79fbf6f95e708335c"), looks := true }, kinds := [], alts := [], laidByText := true, laidKinds := [.data, .data, .data, .handle], laidTests := true, laidLooks := .later }
def HilbertSoundCardSaid : Prop := Claim7.holds Tryz.pinned (.plain (OpenSpec.ofChange hilbertSoundSpec)) hilbertSoundCard

/-- THE TIED CARD OF 'dictumlaw16.HilbertChecks'. -/
def hilbertChecksCard : Claim7 := { stood := { row := hilbertChecksRow, standIns := [], harness := (true, "1a28e00568a2fea3ed6b0fc95fa549ecbdc75925d845f6a79fbf6f95e708335c"), looks := true }, kinds := [], alts := [], laidByText := true, laidKinds := [.data, .data, .data, .handle], laidTests := true, laidLooks := .later }
def HilbertChecksCardSaid : Prop := Claim7.holds Tryz.pinned (.plain (OpenSpec.ofChange hilbertChecksSpec)) hilbertChecksCard

/-- THE TIED CARD OF 'dictumlaw16.HilbertDeduces'. -/
def hilbertDeducesCard : Claim7 := { stood := { row := hilbertDeducesRow, standIns := [], harness := (true, "1a28e00568a2fea3ed6b0fc95fa549ecbdc75925d845f6a79fbf6f95e708335c"), looks := true }, kinds := [], alts := [], laidByText := true, laidKinds := [.data, .data, .data, .handle], laidTests := true, laidLooks := .later }
def HilbertDeducesCardSaid : Prop := Claim7.holds Tryz.pinned (.plain (OpenSpec.ofChange hilbertDeducesSpec)) hilbertDeducesCard

/-- THE TIED CARD OF 'dictumlaw16.HilbertTerms'. -/
def hilbertTermsCard : Claim7 := { stood := { row := hilbertTermsRow, standIns := [], harness := (true, "1a28e00568a2fea3ed6b0fc95fa549ecbdc75925d845f6a79fbf6f95e708335c"), looks := true }, kinds := [], alts := [], laidByText := true, laidKinds := [.data, .data, .data, .handle], laidTests := true, laidLooks := .later }
def HilbertTermsCardSaid : Prop := Claim7.holds Tryz.pinned (.plain (OpenSpec.ofChange hilbertTermsSpec)) hilbertTermsCard

/-- THE SECOND FORM's CARD OF 'dictumlaw16.HilbertNobody'. -/
def hilbertNobodyUptoCard : Claim7 := { stood := { row := hilbertNobodyUptoRow, standIns := [], harness := (true, "1a28e00568a2fea3ed6b0fc95fa549ecbdc75925d845f6a79fbf6f95e708335c"), looks := true }, kinds := [], alts := [], laidByText := true, laidKinds := [.data, .data, .data, .handle], laidTests := true, laidLooks := .later }
def HilbertNobodyUptoCardSaid : Prop := Claim7.holds Tryz.pinned (.plain (OpenSpec.upto hilbertNobodySpec)) hilbertNobodyUptoCard

/-- THE SECOND FORM's CARD OF 'dictumlaw16.HilbertIs'. -/
def hilbertIsUptoCard : Claim7 := { stood := { row := hilbertIsUptoRow, standIns := [], harness := (true, "1a28e00568a2fea3ed6b0fc95fa549ecbdc75925d845f6a79fbf6f95e708335c"), looks := true }, kinds := [], alts := [], laidByText := true, laidKinds := [.data, .data, .data, .handle], laidTests := true, laidLooks := .later }
def HilbertIsUptoCardSaid : Prop := Claim7.holds Tryz.pinned (.plain (OpenSpec.upto hilbertIsSpec)) hilbertIsUptoCard

/-- THE SECOND FORM's CARD OF 'dictumlaw16.HilbertTheorem'. -/
def hilbertTheoremUptoCard : Claim7 := { stood := { row := hilbertTheoremUptoRow, standIns := [], harness := (true, "1a28e00568a2fea3ed6b0fc95fa549ecbdc75925d845f6a79fbf6f95e708335c"), looks := true }, kinds := [], alts := [], laidByText := true, laidKinds := [.data, .data, .data, .handle], laidTests := true, laidLooks := .later }
def HilbertTheoremUptoCardSaid : Prop := Claim7.holds Tryz.pinned (.plain (OpenSpec.upto hilbertTheoremSpec)) hilbertTheoremUptoCard

/-- THE SECOND FORM's CARD OF 'dictumlaw16.HilbertHoward'. -/
def hilbertHowardUptoCard : Claim7 := { stood := { row := hilbertHowardUptoRow, standIns := [], harness := (true, "1a28e00568a2fea3ed6b0fc95fa549ecbdc75925d845f6a79fbf6f95e708335c"), looks := true }, kinds := [], alts := [], laidByText := true, laidKinds := [.data, .data, .data, .handle], laidTests := true, laidLooks := .later }
def HilbertHowardUptoCardSaid : Prop := Claim7.holds Tryz.pinned (.plain (OpenSpec.upto hilbertHowardSpec)) hilbertHowardUptoCard

/-- THE SECOND FORM's CARD OF 'dictumlaw16.HilbertBack'. -/
def hilbertBackUptoCard : Claim7 := { stood := { row := hilbertBackUptoRow, standIns := [], harness := (true, "1a28e00568a2fea3ed6b0fc95fa549ecbdc75925d845f6a79fbf6f95e708335c"), looks := true }, kinds := [], alts := [], laidByText := true, laidKinds := [.data, .data, .data, .handle], laidTests := true, laidLooks := .later }
def HilbertBackUptoCardSaid : Prop := Claim7.holds Tryz.pinned (.plain (OpenSpec.upto hilbertBackSpec)) hilbertBackUptoCard

/-- THE SECOND FORM's CARD OF 'dictumlaw16.HilbertSound'. -/
def hilbertSoundUptoCard : Claim7 := { stood := { row := hilbertSoundUptoRow, standIns := [], harness := (true, "1a28e00568a2fea3ed6b0fc95fa549ecbdc75925d845f6a79fbf6f95e708335c"), looks := true }, kinds := [], alts := [], laidByText := true, laidKinds := [.data, .data, .data, .handle], laidTests := true, laidLooks := .later }
def HilbertSoundUptoCardSaid : Prop := Claim7.holds Tryz.pinned (.plain (OpenSpec.upto hilbertSoundSpec)) hilbertSoundUptoCard

/-- THE SECOND FORM's CARD OF 'dictumlaw16.HilbertChecks'. -/
def hilbertChecksUptoCard : Claim7 := { stood := { row := hilbertChecksUptoRow, standIns := [], harness := (true, "1a28e00568a2fea3ed6b0fc95fa549ecbdc75925d845f6a79fbf6f95e708335c"), looks := true }, kinds := [], alts := [], laidByText := true, laidKinds := [.data, .data, .data, .handle], laidTests := true, laidLooks := .later }
def HilbertChecksUptoCardSaid : Prop := Claim7.holds Tryz.pinned (.plain (OpenSpec.upto hilbertChecksSpec)) hilbertChecksUptoCard

/-- THE SECOND FORM's CARD OF 'dictumlaw16.HilbertDeduces'. -/
def hilbertDeducesUptoCard : Claim7 := { stood := { row := hilbertDeducesUptoRow, standIns := [], harness := (true, "1a28e00568a2fea3ed6b0fc95fa549ecbdc75925d845f6a79fbf6f95e708335c"), looks := true }, kinds := [], alts := [], laidByText := true, laidKinds := [.data, .data, .data, .handle], laidTests := true, laidLooks := .later }
def HilbertDeducesUptoCardSaid : Prop := Claim7.holds Tryz.pinned (.plain (OpenSpec.upto hilbertDeducesSpec)) hilbertDeducesUptoCard

/-- THE SECOND FORM's CARD OF 'dictumlaw16.HilbertTerms'. -/
def hilbertTermsUptoCard : Claim7 := { stood := { row := hilbertTermsUptoRow, standIns := [], harness := (true, "1a28e00568a2fea3ed6b0fc95fa549ecbdc75925d845f6a79fbf6f95e708335c"), looks := true }, kinds := [], alts := [], laidByText := true, laidKinds := [.data, .data, .data, .handle], laidTests := true, laidLooks := .later }
def HilbertTermsUptoCardSaid : Prop := Claim7.holds Tryz.pinned (.plain (OpenSpec.upto hilbertTermsSpec)) hilbertTermsUptoCard
end Rows
end Go.Proofs.YtflieamjacclnaaGreatDoor
