/-
  DERIVED. GIVEN WITH THE SEED: THE CARDS: each row of YtmggdbbmmkkplaaGreatDoorRows.lean that lists a variable, with what it lists TIED to the program's text (the seventh form; the later family's looks); each row that meets fmt, with fmt's text TOLD by the authors' own Lean function (tested against real Go, not proved from fmt's source: count such statements apart). THE CARD IS WHAT COUNTS. Prove the row's statement (the work); the ties are given (YtmggdbbmmkkplaaGreatDoorTie.lean); close each card by the builder's one call (the guide's Derived/Test/ToyasCard.lean, 'card_holds'). Laid BY PROGRAM, IN A SANDBOX (cutbox-door.mjs). By AI agents, Wed Nov 11 2026. No macro, syntax, notation, axiom, sorry.
-/
import Derived.Test.YtmggdbbmmkkplaaGreatDoorRows
import GoSem.ClaimSeven
namespace Go.Proofs.YtmggdbbmmkkplaaGreatDoor
namespace Rows

/-- THE TIED CARD OF 'dictumlaw14.ReduceDoes'. -/
def reduceDoesCard : Claim7 := { stood := { row := reduceDoesRow, standIns := [], harness := (true, "1674443878e8159fbb31bf314f613dca20eac30820e83888241f1289f9b755fa"), looks := true }, kinds := [], alts := [], laidByText := true, laidKinds := [.data, .data, .data], laidTests := true, laidLooks := .later }
def ReduceDoesCardSaid : Prop := Claim7.holds Tryz.pinned (.plain (OpenSpec.ofChange reduceDoesSpec)) reduceDoesCard

/-- THE TIED CARD OF 'dictumlaw14.ReduceRuns'. -/
def reduceRunsCard : Claim7 := { stood := { row := reduceRunsRow, standIns := [], harness := (true, "1674443878e8159fbb31bf314f613dca20eac30820e83888241f1289f9b755fa"), looks := true }, kinds := [], alts := [], laidByText := true, laidKinds := [.data, .data, .data], laidTests := true, laidLooks := .later }
def ReduceRunsCardSaid : Prop := Claim7.holds Tryz.pinned (.plain (OpenSpec.ofChange reduceRunsSpec)) reduceRunsCard

/-- THE TIED CARD OF 'dictumlaw14.ReduceErases'. -/
def reduceErasesCard : Claim7 := { stood := { row := reduceErasesRow, standIns := [], harness := (true, "1674443878e8159fbb31bf314f613dca20eac30820e83888241f1289f9b755fa"), looks := true }, kinds := [], alts := [], laidByText := true, laidKinds := [.data, .data, .data], laidTests := true, laidLooks := .later }
def ReduceErasesCardSaid : Prop := Claim7.holds Tryz.pinned (.plain (OpenSpec.ofChange reduceErasesSpec)) reduceErasesCard

/-- THE TIED CARD OF 'dictumlaw14.ReduceCanon'. -/
def reduceCanonCard : Claim7 := { stood := { row := reduceCanonRow, standIns := [], harness := (true, "1674443878e8159fbb31bf314f613dca20eac30820e83888241f1289f9b755fa"), looks := true }, kinds := [], alts := [], laidByText := true, laidKinds := [.data, .data, .data, .handle], laidTests := true, laidLooks := .later }
def ReduceCanonCardSaid : Prop := Claim7.holds Tryz.pinned (.plain (OpenSpec.ofChange reduceCanonSpec)) reduceCanonCard

/-- THE TIED CARD OF 'dictumlaw14.ReduceFrees'. -/
def reduceFreesCard : Claim7 := { stood := { row := reduceFreesRow, standIns := [], harness := (true, "1674443878e8159fbb31bf314f613dca20eac30820e83888241f1289f9b755fa"), looks := true }, kinds := [], alts := [], laidByText := true, laidKinds := [.data, .data, .data], laidTests := true, laidLooks := .later }
def ReduceFreesCardSaid : Prop := Claim7.holds Tryz.pinned (.plain (OpenSpec.ofChange reduceFreesSpec)) reduceFreesCard

/-- THE TIED CARD OF 'dictumlaw14.ReduceKeeps'. -/
def reduceKeepsCard : Claim7 := { stood := { row := reduceKeepsRow, standIns := [], harness := (true, "1674443878e8159fbb31bf314f613dca20eac30820e83888241f1289f9b755fa"), looks := true }, kinds := [], alts := [], laidByText := true, laidKinds := [.data, .data, .data, .handle], laidTests := true, laidLooks := .later }
def ReduceKeepsCardSaid : Prop := Claim7.holds Tryz.pinned (.plain (OpenSpec.ofChange reduceKeepsSpec)) reduceKeepsCard

/-- THE SECOND FORM's CARD OF 'dictumlaw14.ReduceDoes'. -/
def reduceDoesUptoCard : Claim7 := { stood := { row := reduceDoesUptoRow, standIns := [], harness := (true, "1674443878e8159fbb31bf314f613dca20eac30820e83888241f1289f9b755fa"), looks := true }, kinds := [], alts := [], laidByText := true, laidKinds := [.data, .data, .data], laidTests := true, laidLooks := .later }
def ReduceDoesUptoCardSaid : Prop := Claim7.holds Tryz.pinned (.plain (OpenSpec.upto reduceDoesSpec)) reduceDoesUptoCard

/-- THE SECOND FORM's CARD OF 'dictumlaw14.ReduceRuns'. -/
def reduceRunsUptoCard : Claim7 := { stood := { row := reduceRunsUptoRow, standIns := [], harness := (true, "1674443878e8159fbb31bf314f613dca20eac30820e83888241f1289f9b755fa"), looks := true }, kinds := [], alts := [], laidByText := true, laidKinds := [.data, .data, .data], laidTests := true, laidLooks := .later }
def ReduceRunsUptoCardSaid : Prop := Claim7.holds Tryz.pinned (.plain (OpenSpec.upto reduceRunsSpec)) reduceRunsUptoCard

/-- THE SECOND FORM's CARD OF 'dictumlaw14.ReduceErases'. -/
def reduceErasesUptoCard : Claim7 := { stood := { row := reduceErasesUptoRow, standIns := [], harness := (true, "1674443878e8159fbb31bf314f613dca20eac30820e83888241f1289f9b755fa"), looks := true }, kinds := [], alts := [], laidByText := true, laidKinds := [.data, .data, .data], laidTests := true, laidLooks := .later }
def ReduceErasesUptoCardSaid : Prop := Claim7.holds Tryz.pinned (.plain (OpenSpec.upto reduceErasesSpec)) reduceErasesUptoCard

/-- THE SECOND FORM's CARD OF 'dictumlaw14.ReduceCanon'. -/
def reduceCanonUptoCard : Claim7 := { stood := { row := reduceCanonUptoRow, standIns := [], harness := (true, "1674443878e8159fbb31bf314f613dca20eac30820e83888241f1289f9b755fa"), looks := true }, kinds := [], alts := [], laidByText := true, laidKinds := [.data, .data, .data, .handle], laidTests := true, laidLooks := .later }
def ReduceCanonUptoCardSaid : Prop := Claim7.holds Tryz.pinned (.plain (OpenSpec.upto reduceCanonSpec)) reduceCanonUptoCard

/-- THE SECOND FORM's CARD OF 'dictumlaw14.ReduceFrees'. -/
def reduceFreesUptoCard : Claim7 := { stood := { row := reduceFreesUptoRow, standIns := [], harness := (true, "1674443878e8159fbb31bf314f613dca20eac30820e83888241f1289f9b755fa"), looks := true }, kinds := [], alts := [], laidByText := true, laidKinds := [.data, .data, .data], laidTests := true, laidLooks := .later }
def ReduceFreesUptoCardSaid : Prop := Claim7.holds Tryz.pinned (.plain (OpenSpec.upto reduceFreesSpec)) reduceFreesUptoCard

/-- THE SECOND FORM's CARD OF 'dictumlaw14.ReduceKeeps'. -/
def reduceKeepsUptoCard : Claim7 := { stood := { row := reduceKeepsUptoRow, standIns := [], harness := (true, "1674443878e8159fbb31bf314f613dca20eac30820e83888241f1289f9b755fa"), looks := true }, kinds := [], alts := [], laidByText := true, laidKinds := [.data, .data, .data, .handle], laidTests := true, laidLooks := .later }
def ReduceKeepsUptoCardSaid : Prop := Claim7.holds Tryz.pinned (.plain (OpenSpec.upto reduceKeepsSpec)) reduceKeepsUptoCard
end Rows
end Go.Proofs.YtmggdbbmmkkplaaGreatDoor
