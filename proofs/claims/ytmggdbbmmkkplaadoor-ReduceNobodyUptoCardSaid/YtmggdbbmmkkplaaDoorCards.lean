/-
  DERIVED. GIVEN WITH THE SEED: THE CARDS: each row of YtmggdbbmmkkplaaDoorRows.lean that lists a variable, with what it lists TIED to the program's text (the seventh form; the later family's looks); each row that meets fmt, with fmt's text TOLD by the authors' own Lean function (tested against real Go, not proved from fmt's source: count such statements apart). THE CARD IS WHAT COUNTS. Prove the row's statement (the work); the ties are given (YtmggdbbmmkkplaaDoorTie.lean); close each card by the builder's one call (the guide's Derived/Test/ToyasCard.lean, 'card_holds'). Laid BY PROGRAM, IN A SANDBOX (cutbox-door.mjs). By AI agents, Wed Nov 11 2026. No macro, syntax, notation, axiom, sorry.
-/
import Derived.Test.YtmggdbbmmkkplaaDoorRows
import GoSem.ClaimSeven
namespace Go.Proofs.YtmggdbbmmkkplaaDoor
namespace Rows

/-- THE TIED CARD OF 'dictumlaw14.ReduceNobody'. -/
def reduceNobodyCard : Claim7 := { stood := { row := reduceNobodyRow, standIns := [], harness := (true, "e4eb28e7fe9f7b1fec3981a2c1262bc4e7d9f7d10d3cc13684fbf4e5367f1537"), looks := false }, kinds := [], alts := [], laidByText := true, laidKinds := [.data, .data, .data], laidTests := true, laidLooks := .later }
def ReduceNobodyCardSaid : Prop := Claim7.holds Tryd.pinned (.plain (OpenSpec.ofChange reduceNobodySpec)) reduceNobodyCard

/-- THE SECOND FORM's CARD OF 'dictumlaw14.ReduceNobody'. -/
def reduceNobodyUptoCard : Claim7 := { stood := { row := reduceNobodyUptoRow, standIns := [], harness := (true, "e4eb28e7fe9f7b1fec3981a2c1262bc4e7d9f7d10d3cc13684fbf4e5367f1537"), looks := false }, kinds := [], alts := [], laidByText := true, laidKinds := [.data, .data, .data], laidTests := true, laidLooks := .later }
def ReduceNobodyUptoCardSaid : Prop := Claim7.holds Tryd.pinned (.plain (OpenSpec.upto reduceNobodySpec)) reduceNobodyUptoCard
end Rows
end Go.Proofs.YtmggdbbmmkkplaaDoor
