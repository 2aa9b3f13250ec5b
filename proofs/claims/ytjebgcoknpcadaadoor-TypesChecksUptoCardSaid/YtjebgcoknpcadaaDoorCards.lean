/-
  DERIVED. GIVEN WITH THE SEED: THE CARDS: each row of YtjebgcoknpcadaaDoorRows.lean that lists a variable, with what it lists TIED to the program's text (the seventh form; the later family's looks); each row that meets fmt, with fmt's text TOLD by the authors' own Lean function (tested against real Go, not proved from fmt's source: count such statements apart). THE CARD IS WHAT COUNTS. Prove the row's statement (the work); the ties are given (YtjebgcoknpcadaaDoorTie.lean); close each card by the builder's one call (the guide's Derived/Test/ToyasCard.lean, 'card_holds'). Laid BY PROGRAM, IN A SANDBOX (cutbox-door.mjs). By AI agents, Wed Nov 11 2026. No macro, syntax, notation, axiom, sorry.
-/
import Derived.Test.YtjebgcoknpcadaaDoorRows
import GoSem.ClaimSeven
namespace Go.Proofs.YtjebgcoknpcadaaDoor
namespace Rows

/-- THE TIED CARD OF 'dictumlaw13.TypesOne'. -/
def typesOneCard : Claim7 := { stood := { row := typesOneRow, standIns := [], harness := (true, "41c497c0a52c4ba1801825f46a6d3dd237ad10ae66fc67f4f6f4f9fde32c9579"), looks := true }, kinds := [], alts := [], laidByText := true, laidKinds := [.handle], laidTests := true, laidLooks := .later }
def TypesOneCardSaid : Prop := Claim7.holds Tryd.pinned (.plain (OpenSpec.ofChange typesOneSpec)) typesOneCard

/-- THE TIED CARD OF 'dictumlaw13.TypesNobody'. -/
def typesNobodyCard : Claim7 := { stood := { row := typesNobodyRow, standIns := [], harness := (true, "41c497c0a52c4ba1801825f46a6d3dd237ad10ae66fc67f4f6f4f9fde32c9579"), looks := true }, kinds := [], alts := [], laidByText := true, laidKinds := [.handle], laidTests := true, laidLooks := .later }
def TypesNobodyCardSaid : Prop := Claim7.holds Tryd.pinned (.plain (OpenSpec.ofChange typesNobodySpec)) typesNobodyCard

/-- THE TIED CARD OF 'dictumlaw13.TypesChecks'. -/
def typesChecksCard : Claim7 := { stood := { row := typesChecksRow, standIns := [], harness := (true, "41c497c0a52c4ba1801825f46a6d3dd237ad10ae66fc67f4f6f4f9fde32c9579"), looks := true }, kinds := [], alts := [], laidByText := true, laidKinds := [.handle], laidTests := true, laidLooks := .later }
def TypesChecksCardSaid : Prop := Claim7.holds Tryd.pinned (.plain (OpenSpec.ofChange typesChecksSpec)) typesChecksCard

/-- THE TIED CARD OF 'dictumlaw14.ReduceNobody'. -/
def reduceNobodyCard : Claim7 := { stood := { row := reduceNobodyRow, standIns := [], harness := (true, "41c497c0a52c4ba1801825f46a6d3dd237ad10ae66fc67f4f6f4f9fde32c9579"), looks := true }, kinds := [], alts := [], laidByText := true, laidKinds := [.data, .data, .data], laidTests := true, laidLooks := .later }
def ReduceNobodyCardSaid : Prop := Claim7.holds Tryd.pinned (.plain (OpenSpec.ofChange reduceNobodySpec)) reduceNobodyCard

/-- THE SECOND FORM's CARD OF 'dictumlaw13.TypesOne'. -/
def typesOneUptoCard : Claim7 := { stood := { row := typesOneUptoRow, standIns := [], harness := (true, "41c497c0a52c4ba1801825f46a6d3dd237ad10ae66fc67f4f6f4f9fde32c9579"), looks := true }, kinds := [], alts := [], laidByText := true, laidKinds := [.handle], laidTests := true, laidLooks := .later }
def TypesOneUptoCardSaid : Prop := Claim7.holds Tryd.pinned (.plain (OpenSpec.upto typesOneSpec)) typesOneUptoCard

/-- THE SECOND FORM's CARD OF 'dictumlaw13.TypesNobody'. -/
def typesNobodyUptoCard : Claim7 := { stood := { row := typesNobodyUptoRow, standIns := [], harness := (true, "41c497c0a52c4ba1801825f46a6d3dd237ad10ae66fc67f4f6f4f9fde32c9579"), looks := true }, kinds := [], alts := [], laidByText := true, laidKinds := [.handle], laidTests := true, laidLooks := .later }
def TypesNobodyUptoCardSaid : Prop := Claim7.holds Tryd.pinned (.plain (OpenSpec.upto typesNobodySpec)) typesNobodyUptoCard

/-- THE SECOND FORM's CARD OF 'dictumlaw13.TypesChecks'. -/
def typesChecksUptoCard : Claim7 := { stood := { row := typesChecksUptoRow, standIns := [], harness := (true, "41c497c0a52c4ba1801825f46a6d3dd237ad10ae66fc67f4f6f4f9fde32c9579"), looks := true }, kinds := [], alts := [], laidByText := true, laidKinds := [.handle], laidTests := true, laidLooks := .later }
def TypesChecksUptoCardSaid : Prop := Claim7.holds Tryd.pinned (.plain (OpenSpec.upto typesChecksSpec)) typesChecksUptoCard

/-- THE SECOND FORM's CARD OF 'dictumlaw14.ReduceNobody'. -/
def reduceNobodyUptoCard : Claim7 := { stood := { row := reduceNobodyUptoRow, standIns := [], harness := (true, "41c497c0a52c4ba1801825f46a6d3dd237ad10ae66fc67f4f6f4f9fde32c9579"), looks := true }, kinds := [], alts := [], laidByText := true, laidKinds := [.data, .data, .data], laidTests := true, laidLooks := .later }
def ReduceNobodyUptoCardSaid : Prop := Claim7.holds Tryd.pinned (.plain (OpenSpec.upto reduceNobodySpec)) reduceNobodyUptoCard
end Rows
end Go.Proofs.YtjebgcoknpcadaaDoor
