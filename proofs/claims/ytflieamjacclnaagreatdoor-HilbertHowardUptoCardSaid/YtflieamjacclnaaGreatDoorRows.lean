/-
  NARROWER THAN 'FOR EVERY INPUT', by the rows' own cells (each row's printed sentence says how): HilbertNobody: loops, laid · HilbertIs: laid · HilbertTheorem: laid · HilbertHoward: loops, laid · HilbertBack: laid · HilbertSound: laid · HilbertChecks: laid · HilbertDeduces: laid · HilbertTerms: laid.
  DERIVED. THE GIVEN ROWS OF THIS SEAT. 9 by the template 'for every input the law returns true; each argument reads behind the call as it read before'; 0 by the template 'total and deterministic' (their statements: YtflieamjacclnaaGreatDoorTotals.lean).
  GIVEN WITH THE SEED: the statements are not yours to turn. If you find one false, say at which input.
  Laid BY PROGRAM, IN A SANDBOX (cutbox-rows.mjs): the forced cells as the released guide's own fill.sh prints them over the translation 7f1d3e51f9cb8b8c… (all of the seat's roots in one cut). By AI agents, Wed Nov 11 2026. No macro, syntax, notation, axiom, sorry.
-/
import Derived.Test.YtflieamjacclnaaGreatDoorChecked
import GoSem.Claim
import GoSem.ClaimJoined
import GoSem.ClaimMapViews
import Derived.JoinedTies
import Derived.KernelRfl
namespace Go.Proofs.YtflieamjacclnaaGreatDoor
/- THE CELL 'sum', in the pinned program and in every row, IS THE sha256 OF THE DUMP (.gsa) THAT YtflieamjacclnaaGreatDoorProg.lean LOADS. Nothing in Lean hashes anything: it is a label: what it is worth is what the hold of that sum in a sandbox is worth. -/
noncomputable def Tryz.pinned : Pinned := { name := "ytflieamjacclnaagreatdoor", sum := "7f1d3e51f9cb8b8c3cbd9da32a9d440656bb6faa9a47a0b92b99797eb226eb0e", checked := Tryz.checked }
namespace Rows
def none {H : Type} : Left H := { results := [], args := [] }

/- WHAT THE LISTED PACKAGE-LEVEL VARIABLES READ AS WHEN THE CALL BEGINS. Each datum BY PROGRAM (the guide's laid-datum.mjs) off the statement by which the dump's own 'gosem.cut.vars' lays the variable. In a bare row this is a premise. The card (YtflieamjacclnaaGreatDoorCards.lean) ties it to the program's text. -/
def laid_math_bits_deBruijn32tab {H : Type} : DataW H := .agg [.lit (.int .u8 0), .lit (.int .u8 1), .lit (.int .u8 28), .lit (.int .u8 2), .lit (.int .u8 29), .lit (.int .u8 14), .lit (.int .u8 24), .lit (.int .u8 3), .lit (.int .u8 30), .lit (.int .u8 22), .lit (.int .u8 20), .lit (.int .u8 15), .lit (.int .u8 25), .lit (.int .u8 17), .lit (.int .u8 4), .lit (.int .u8 8), .lit (.int .u8 31), .lit (.int .u8 27), .lit (.int .u8 13), .lit (.int .u8 23), .lit (.int .u8 21), .lit (.int .u8 19), .lit (.int .u8 16), .lit (.int .u8 7), .lit (.int .u8 26), .lit (.int .u8 12), .lit (.int .u8 18), .lit (.int .u8 6), .lit (.int .u8 11), .lit (.int .u8 5), .lit (.int .u8 10), .lit (.int .u8 9)]
def laid_math_bits_deBruijn64tab {H : Type} : DataW H := .agg [.lit (.int .u8 0), .lit (.int .u8 1), .lit (.int .u8 56), .lit (.int .u8 2), .lit (.int .u8 57), .lit (.int .u8 49), .lit (.int .u8 28), .lit (.int .u8 3), .lit (.int .u8 61), .lit (.int .u8 58), .lit (.int .u8 42), .lit (.int .u8 50), .lit (.int .u8 38), .lit (.int .u8 29), .lit (.int .u8 17), .lit (.int .u8 4), .lit (.int .u8 62), .lit (.int .u8 47), .lit (.int .u8 59), .lit (.int .u8 36), .lit (.int .u8 45), .lit (.int .u8 43), .lit (.int .u8 51), .lit (.int .u8 22), .lit (.int .u8 53), .lit (.int .u8 39), .lit (.int .u8 33), .lit (.int .u8 30), .lit (.int .u8 24), .lit (.int .u8 18), .lit (.int .u8 12), .lit (.int .u8 5), .lit (.int .u8 63), .lit (.int .u8 55), .lit (.int .u8 48), .lit (.int .u8 27), .lit (.int .u8 60), .lit (.int .u8 41), .lit (.int .u8 37), .lit (.int .u8 16), .lit (.int .u8 46), .lit (.int .u8 35), .lit (.int .u8 44), .lit (.int .u8 21), .lit (.int .u8 52), .lit (.int .u8 32), .lit (.int .u8 23), .lit (.int .u8 11), .lit (.int .u8 54), .lit (.int .u8 26), .lit (.int .u8 40), .lit (.int .u8 15), .lit (.int .u8 34), .lit (.int .u8 20), .lit (.int .u8 31), .lit (.int .u8 10), .lit (.int .u8 25), .lit (.int .u8 14), .lit (.int .u8 19), .lit (.int .u8 9), .lit (.int .u8 13), .lit (.int .u8 8), .lit (.int .u8 7), .lit (.int .u8 6)]
def laid_internal_strconv_uint64pow10 {H : Type} : DataW H := .agg [.lit (.int .u64 1), .lit (.int .u64 10), .lit (.int .u64 100), .lit (.int .u64 1000), .lit (.int .u64 10000), .lit (.int .u64 100000), .lit (.int .u64 1000000), .lit (.int .u64 10000000), .lit (.int .u64 100000000), .lit (.int .u64 1000000000), .lit (.int .u64 10000000000), .lit (.int .u64 100000000000), .lit (.int .u64 1000000000000), .lit (.int .u64 10000000000000), .lit (.int .u64 100000000000000), .lit (.int .u64 1000000000000000), .lit (.int .u64 10000000000000000), .lit (.int .u64 100000000000000000), .lit (.int .u64 1000000000000000000), .lit (.int .u64 10000000000000000000)]
def laid_errors_errorType {H : Type} : DataW H := .iface "internal/reflectlite.rtype" (.agg [.ptr (.lit (.string [101, 114, 114, 111, 114]))])

/-- 'dictumlaw16.HilbertNobody': WHATEVER THE INPUT: true; the input reads as it did. -/
def hilbertNobodySpec : ChangeSpec := { name := "hilbertNobody", fn := fun _ => fun
  | [d1, d2, d3] => { results := [.lit (.bool true)], args := [d1, d2, d3] }
  | _ => none }
def hilbertNobodyRow : OpenClaim := { program := "ytflieamjacclnaagreatdoor", sum := "7f1d3e51f9cb8b8c3cbd9da32a9d440656bb6faa9a47a0b92b99797eb226eb0e", func := "dictum/dictumlaw16.HilbertNobody", spec := "hilbertNobody", inPlace := ["internal/reflectlite.ValueOf", "(internal/reflectlite.Value).Type", "(internal/reflectlite.Value).IsNil", "internal/reflectlite.TypeOf", "(internal/reflectlite.Value).Elem", "(internal/reflectlite.Value).Set"], unfollowed := true, recurses := true, named := ["errors.errorType", "internal/strconv.uint64pow10", "math/bits.deBruijn32tab", "math/bits.deBruijn64tab"], loops := true, plainKeys := false, apart := false, laid := [("math/bits.deBruijn32tab", laid_math_bits_deBruijn32tab), ("math/bits.deBruijn64tab", laid_math_bits_deBruijn64tab), ("internal/strconv.uint64pow10", laid_internal_strconv_uint64pow10), ("errors.errorType", laid_errors_errorType)] }
def HilbertNobodySaid : Prop := hilbertNobodyRow.holds Tryz.pinned (OpenSpec.ofChange hilbertNobodySpec)

/-- ITS FALSE NEIGHBOUR: 'it returns false'. Refute it at one input. -/
def hilbertNobodyWrong : ChangeSpec := { name := "hilbertNobody", fn := fun _ => fun
  | [d1, d2, d3] => { results := [.lit (.bool false)], args := [d1, d2, d3] }
  | _ => none }
def HilbertNobodyWrongFalsely : Prop := hilbertNobodyRow.holds Tryz.pinned (OpenSpec.ofChange hilbertNobodyWrong)

/-- 'dictumlaw16.HilbertIs': WHATEVER THE INPUT: true; the input reads as it did. -/
def hilbertIsSpec : ChangeSpec := { name := "hilbertIs", fn := fun _ => fun
  | [d1, d2, d3] => { results := [.lit (.bool true)], args := [d1, d2, d3] }
  | _ => none }
def hilbertIsRow : OpenClaim := { program := "ytflieamjacclnaagreatdoor", sum := "7f1d3e51f9cb8b8c3cbd9da32a9d440656bb6faa9a47a0b92b99797eb226eb0e", func := "dictum/dictumlaw16.HilbertIs", spec := "hilbertIs", inPlace := ["internal/reflectlite.ValueOf", "(internal/reflectlite.Value).Type", "(internal/reflectlite.Value).IsNil", "internal/reflectlite.TypeOf", "(internal/reflectlite.Value).Elem", "(internal/reflectlite.Value).Set"], unfollowed := true, recurses := true, named := ["errors.errorType", "internal/strconv.uint64pow10", "math/bits.deBruijn32tab", "math/bits.deBruijn64tab"], plainKeys := false, apart := false, laid := [("math/bits.deBruijn32tab", laid_math_bits_deBruijn32tab), ("math/bits.deBruijn64tab", laid_math_bits_deBruijn64tab), ("internal/strconv.uint64pow10", laid_internal_strconv_uint64pow10), ("errors.errorType", laid_errors_errorType)] }
def HilbertIsSaid : Prop := hilbertIsRow.holds Tryz.pinned (OpenSpec.ofChange hilbertIsSpec)

/-- ITS FALSE NEIGHBOUR: 'it returns false'. Refute it at one input. -/
def hilbertIsWrong : ChangeSpec := { name := "hilbertIs", fn := fun _ => fun
  | [d1, d2, d3] => { results := [.lit (.bool false)], args := [d1, d2, d3] }
  | _ => none }
def HilbertIsWrongFalsely : Prop := hilbertIsRow.holds Tryz.pinned (OpenSpec.ofChange hilbertIsWrong)

/-- 'dictumlaw16.HilbertTheorem': WHATEVER THE INPUT: true; the input reads as it did. -/
def hilbertTheoremSpec : ChangeSpec := { name := "hilbertTheorem", fn := fun _ => fun
  | [d1, d2, d3, d4] => { results := [.lit (.bool true)], args := [d1, d2, d3, d4] }
  | _ => none }
def hilbertTheoremRow : OpenClaim := { program := "ytflieamjacclnaagreatdoor", sum := "7f1d3e51f9cb8b8c3cbd9da32a9d440656bb6faa9a47a0b92b99797eb226eb0e", func := "dictum/dictumlaw16.HilbertTheorem", spec := "hilbertTheorem", inPlace := ["internal/reflectlite.ValueOf", "(internal/reflectlite.Value).Type", "(internal/reflectlite.Value).IsNil", "internal/reflectlite.TypeOf", "(internal/reflectlite.Value).Elem", "(internal/reflectlite.Value).Set"], unfollowed := true, recurses := true, named := ["errors.errorType", "internal/strconv.uint64pow10", "math/bits.deBruijn32tab", "math/bits.deBruijn64tab"], plainKeys := false, apart := false, laid := [("math/bits.deBruijn32tab", laid_math_bits_deBruijn32tab), ("math/bits.deBruijn64tab", laid_math_bits_deBruijn64tab), ("internal/strconv.uint64pow10", laid_internal_strconv_uint64pow10), ("errors.errorType", laid_errors_errorType)] }
def HilbertTheoremSaid : Prop := hilbertTheoremRow.holds Tryz.pinned (OpenSpec.ofChange hilbertTheoremSpec)

/-- ITS FALSE NEIGHBOUR: 'it returns false'. Refute it at one input. -/
def hilbertTheoremWrong : ChangeSpec := { name := "hilbertTheorem", fn := fun _ => fun
  | [d1, d2, d3, d4] => { results := [.lit (.bool false)], args := [d1, d2, d3, d4] }
  | _ => none }
def HilbertTheoremWrongFalsely : Prop := hilbertTheoremRow.holds Tryz.pinned (OpenSpec.ofChange hilbertTheoremWrong)

/-- 'dictumlaw16.HilbertHoward': WHATEVER THE INPUT: true; the input reads as it did. -/
def hilbertHowardSpec : ChangeSpec := { name := "hilbertHoward", fn := fun _ => fun
  | [d1, d2, d3, d4] => { results := [.lit (.bool true)], args := [d1, d2, d3, d4] }
  | _ => none }
def hilbertHowardRow : OpenClaim := { program := "ytflieamjacclnaagreatdoor", sum := "7f1d3e51f9cb8b8c3cbd9da32a9d440656bb6faa9a47a0b92b99797eb226eb0e", func := "dictum/dictumlaw16.HilbertHoward", spec := "hilbertHoward", inPlace := ["internal/reflectlite.ValueOf", "(internal/reflectlite.Value).Type", "(internal/reflectlite.Value).IsNil", "internal/reflectlite.TypeOf", "(internal/reflectlite.Value).Elem", "(internal/reflectlite.Value).Set"], unfollowed := true, recurses := true, named := ["errors.errorType", "internal/strconv.uint64pow10", "math/bits.deBruijn32tab", "math/bits.deBruijn64tab"], loops := true, plainKeys := false, apart := false, laid := [("math/bits.deBruijn32tab", laid_math_bits_deBruijn32tab), ("math/bits.deBruijn64tab", laid_math_bits_deBruijn64tab), ("internal/strconv.uint64pow10", laid_internal_strconv_uint64pow10), ("errors.errorType", laid_errors_errorType)] }
def HilbertHowardSaid : Prop := hilbertHowardRow.holds Tryz.pinned (OpenSpec.ofChange hilbertHowardSpec)

/-- ITS FALSE NEIGHBOUR: 'it returns false'. Refute it at one input. -/
def hilbertHowardWrong : ChangeSpec := { name := "hilbertHoward", fn := fun _ => fun
  | [d1, d2, d3, d4] => { results := [.lit (.bool false)], args := [d1, d2, d3, d4] }
  | _ => none }
def HilbertHowardWrongFalsely : Prop := hilbertHowardRow.holds Tryz.pinned (OpenSpec.ofChange hilbertHowardWrong)

/-- 'dictumlaw16.HilbertBack': WHATEVER THE INPUT: true; the input reads as it did. -/
def hilbertBackSpec : ChangeSpec := { name := "hilbertBack", fn := fun _ => fun
  | [d1, d2, d3] => { results := [.lit (.bool true)], args := [d1, d2, d3] }
  | _ => none }
def hilbertBackRow : OpenClaim := { program := "ytflieamjacclnaagreatdoor", sum := "7f1d3e51f9cb8b8c3cbd9da32a9d440656bb6faa9a47a0b92b99797eb226eb0e", func := "dictum/dictumlaw16.HilbertBack", spec := "hilbertBack", inPlace := ["internal/reflectlite.ValueOf", "(internal/reflectlite.Value).Type", "(internal/reflectlite.Value).IsNil", "internal/reflectlite.TypeOf", "(internal/reflectlite.Value).Elem", "(internal/reflectlite.Value).Set"], unfollowed := true, recurses := true, named := ["internal/strconv.uint64pow10", "math/bits.deBruijn32tab", "math/bits.deBruijn64tab", "errors.errorType"], plainKeys := false, apart := false, laid := [("math/bits.deBruijn32tab", laid_math_bits_deBruijn32tab), ("math/bits.deBruijn64tab", laid_math_bits_deBruijn64tab), ("internal/strconv.uint64pow10", laid_internal_strconv_uint64pow10), ("errors.errorType", laid_errors_errorType)] }
def HilbertBackSaid : Prop := hilbertBackRow.holds Tryz.pinned (OpenSpec.ofChange hilbertBackSpec)

/-- ITS FALSE NEIGHBOUR: 'it returns false'. Refute it at one input. -/
def hilbertBackWrong : ChangeSpec := { name := "hilbertBack", fn := fun _ => fun
  | [d1, d2, d3] => { results := [.lit (.bool false)], args := [d1, d2, d3] }
  | _ => none }
def HilbertBackWrongFalsely : Prop := hilbertBackRow.holds Tryz.pinned (OpenSpec.ofChange hilbertBackWrong)

/-- 'dictumlaw16.HilbertSound': WHATEVER THE INPUT: true; the input reads as it did. -/
def hilbertSoundSpec : ChangeSpec := { name := "hilbertSound", fn := fun _ => fun
  | [d1, d2, d3, d4] => { results := [.lit (.bool true)], args := [d1, d2, d3, d4] }
  | _ => none }
def hilbertSoundRow : OpenClaim := { program := "ytflieamjacclnaagreatdoor", sum := "7f1d3e51f9cb8b8c3cbd9da32a9d440656bb6faa9a47a0b92b99797eb226eb0e", func := "dictum/dictumlaw16.HilbertSound", spec := "hilbertSound", inPlace := ["internal/reflectlite.ValueOf", "(internal/reflectlite.Value).Type", "(internal/reflectlite.Value).IsNil", "internal/reflectlite.TypeOf", "(internal/reflectlite.Value).Elem", "(internal/reflectlite.Value).Set"], unfollowed := true, recurses := true, named := ["errors.errorType", "internal/strconv.uint64pow10", "math/bits.deBruijn32tab", "math/bits.deBruijn64tab"], plainKeys := false, apart := false, laid := [("math/bits.deBruijn32tab", laid_math_bits_deBruijn32tab), ("math/bits.deBruijn64tab", laid_math_bits_deBruijn64tab), ("internal/strconv.uint64pow10", laid_internal_strconv_uint64pow10), ("errors.errorType", laid_errors_errorType)] }
def HilbertSoundSaid : Prop := hilbertSoundRow.holds Tryz.pinned (OpenSpec.ofChange hilbertSoundSpec)

/-- ITS FALSE NEIGHBOUR: 'it returns false'. Refute it at one input. -/
def hilbertSoundWrong : ChangeSpec := { name := "hilbertSound", fn := fun _ => fun
  | [d1, d2, d3, d4] => { results := [.lit (.bool false)], args := [d1, d2, d3, d4] }
  | _ => none }
def HilbertSoundWrongFalsely : Prop := hilbertSoundRow.holds Tryz.pinned (OpenSpec.ofChange hilbertSoundWrong)

/-- 'dictumlaw16.HilbertChecks': WHATEVER THE INPUT: true; the input reads as it did. -/
def hilbertChecksSpec : ChangeSpec := { name := "hilbertChecks", fn := fun _ => fun
  | [d1, d2, d3] => { results := [.lit (.bool true)], args := [d1, d2, d3] }
  | _ => none }
def hilbertChecksRow : OpenClaim := { program := "ytflieamjacclnaagreatdoor", sum := "7f1d3e51f9cb8b8c3cbd9da32a9d440656bb6faa9a47a0b92b99797eb226eb0e", func := "dictum/dictumlaw16.HilbertChecks", spec := "hilbertChecks", inPlace := ["internal/reflectlite.ValueOf", "(internal/reflectlite.Value).Type", "(internal/reflectlite.Value).IsNil", "internal/reflectlite.TypeOf", "(internal/reflectlite.Value).Elem", "(internal/reflectlite.Value).Set"], unfollowed := true, recurses := true, named := ["errors.errorType", "internal/strconv.uint64pow10", "math/bits.deBruijn32tab", "math/bits.deBruijn64tab"], plainKeys := false, apart := false, laid := [("math/bits.deBruijn32tab", laid_math_bits_deBruijn32tab), ("math/bits.deBruijn64tab", laid_math_bits_deBruijn64tab), ("internal/strconv.uint64pow10", laid_internal_strconv_uint64pow10), ("errors.errorType", laid_errors_errorType)] }
def HilbertChecksSaid : Prop := hilbertChecksRow.holds Tryz.pinned (OpenSpec.ofChange hilbertChecksSpec)

/-- ITS FALSE NEIGHBOUR: 'it returns false'. Refute it at one input. -/
def hilbertChecksWrong : ChangeSpec := { name := "hilbertChecks", fn := fun _ => fun
  | [d1, d2, d3] => { results := [.lit (.bool false)], args := [d1, d2, d3] }
  | _ => none }
def HilbertChecksWrongFalsely : Prop := hilbertChecksRow.holds Tryz.pinned (OpenSpec.ofChange hilbertChecksWrong)

/-- 'dictumlaw16.HilbertDeduces': WHATEVER THE INPUT: true; the input reads as it did. -/
def hilbertDeducesSpec : ChangeSpec := { name := "hilbertDeduces", fn := fun _ => fun
  | [d1, d2, d3, d4] => { results := [.lit (.bool true)], args := [d1, d2, d3, d4] }
  | _ => none }
def hilbertDeducesRow : OpenClaim := { program := "ytflieamjacclnaagreatdoor", sum := "7f1d3e51f9cb8b8c3cbd9da32a9d440656bb6faa9a47a0b92b99797eb226eb0e", func := "dictum/dictumlaw16.HilbertDeduces", spec := "hilbertDeduces", inPlace := ["internal/reflectlite.ValueOf", "(internal/reflectlite.Value).Type", "(internal/reflectlite.Value).IsNil", "internal/reflectlite.TypeOf", "(internal/reflectlite.Value).Elem", "(internal/reflectlite.Value).Set"], unfollowed := true, recurses := true, named := ["errors.errorType", "internal/strconv.uint64pow10", "math/bits.deBruijn32tab", "math/bits.deBruijn64tab"], plainKeys := false, apart := false, laid := [("math/bits.deBruijn32tab", laid_math_bits_deBruijn32tab), ("math/bits.deBruijn64tab", laid_math_bits_deBruijn64tab), ("internal/strconv.uint64pow10", laid_internal_strconv_uint64pow10), ("errors.errorType", laid_errors_errorType)] }
def HilbertDeducesSaid : Prop := hilbertDeducesRow.holds Tryz.pinned (OpenSpec.ofChange hilbertDeducesSpec)

/-- ITS FALSE NEIGHBOUR: 'it returns false'. Refute it at one input. -/
def hilbertDeducesWrong : ChangeSpec := { name := "hilbertDeduces", fn := fun _ => fun
  | [d1, d2, d3, d4] => { results := [.lit (.bool false)], args := [d1, d2, d3, d4] }
  | _ => none }
def HilbertDeducesWrongFalsely : Prop := hilbertDeducesRow.holds Tryz.pinned (OpenSpec.ofChange hilbertDeducesWrong)

/-- 'dictumlaw16.HilbertTerms': WHATEVER THE INPUT: true; the input reads as it did. -/
def hilbertTermsSpec : ChangeSpec := { name := "hilbertTerms", fn := fun _ => fun
  | [d1, d2, d3] => { results := [.lit (.bool true)], args := [d1, d2, d3] }
  | _ => none }
def hilbertTermsRow : OpenClaim := { program := "ytflieamjacclnaagreatdoor", sum := "7f1d3e51f9cb8b8c3cbd9da32a9d440656bb6faa9a47a0b92b99797eb226eb0e", func := "dictum/dictumlaw16.HilbertTerms", spec := "hilbertTerms", inPlace := ["internal/reflectlite.ValueOf", "(internal/reflectlite.Value).Type", "(internal/reflectlite.Value).IsNil", "internal/reflectlite.TypeOf", "(internal/reflectlite.Value).Elem", "(internal/reflectlite.Value).Set"], unfollowed := true, recurses := true, named := ["internal/strconv.uint64pow10", "math/bits.deBruijn32tab", "math/bits.deBruijn64tab", "errors.errorType"], plainKeys := false, apart := false, laid := [("math/bits.deBruijn32tab", laid_math_bits_deBruijn32tab), ("math/bits.deBruijn64tab", laid_math_bits_deBruijn64tab), ("internal/strconv.uint64pow10", laid_internal_strconv_uint64pow10), ("errors.errorType", laid_errors_errorType)] }
def HilbertTermsSaid : Prop := hilbertTermsRow.holds Tryz.pinned (OpenSpec.ofChange hilbertTermsSpec)

/-- ITS FALSE NEIGHBOUR: 'it returns false'. Refute it at one input. -/
def hilbertTermsWrong : ChangeSpec := { name := "hilbertTerms", fn := fun _ => fun
  | [d1, d2, d3] => { results := [.lit (.bool false)], args := [d1, d2, d3] }
  | _ => none }
def HilbertTermsWrongFalsely : Prop := hilbertTermsRow.holds Tryz.pinned (OpenSpec.ofChange hilbertTermsWrong)

/- THE SECOND FORM. 'bulk': how many values and letters a reading holds, each counted each time it is reached (what is shared counts as often as it is met; a slice's spare places count too). A statement '..UptoSaid' is the law's where the arguments, and the package variables that the reading takes, are together of bulk at most 1048576: NARROWER than '..Said'. Prove '..Said' where nothing that the law and all that it calls make is longer than what came in: it says more and counts as full. Else prove '..UptoSaid'. A law counts once. -/
mutual
def uptoBulk {H : Type} : DataW H → Nat
  | .lit (.string bytes) => bytes.length + 1
  | .lit _ => 1
  | .nil => 1
  | .ptr d => uptoBulk d + 1
  | .slice elems spare => uptoBulkAll elems + uptoBulkAll spare + 1
  | .agg parts => uptoBulkAll parts + 1
  | .iface _ d => uptoBulk d + 1
  | .map entries => uptoBulkEntries entries + 1
  | .held _ => 1
def uptoBulkAll {H : Type} : List (DataW H) → Nat
  | [] => 0
  | d :: r => uptoBulk d + uptoBulkAll r
def uptoBulkEntries {H : Type} : List (Lit × DataW H) → Nat
  | [] => 0
  | x :: r => uptoBulkEntry x + uptoBulkEntries r
def uptoBulkEntry {H : Type} : Lit × DataW H → Nat
  | (.string bytes, d) => bytes.length + uptoBulk d + 1
  | (_, d) => uptoBulk d + 1
 end
def uptoSmall : (H : Type) → List (DataW H) → Bool := fun _ ds => decide (uptoBulkAll ds ≤ 1048576)
def OpenSpec.upto (s : _root_.Go.ChangeSpec) : _root_.Go.OpenSpec := { _root_.Go.OpenSpec.ofChange s with cond := some uptoSmall }

/-- 'dictumlaw16.HilbertNobody', WHERE WHAT IT READS IS OF BULK AT MOST 1048576: true; the input reads as it did. -/
def hilbertNobodyUptoRow : OpenClaim := { program := "ytflieamjacclnaagreatdoor", sum := "7f1d3e51f9cb8b8c3cbd9da32a9d440656bb6faa9a47a0b92b99797eb226eb0e", func := "dictum/dictumlaw16.HilbertNobody", spec := "hilbertNobody", inPlace := ["internal/reflectlite.ValueOf", "(internal/reflectlite.Value).Type", "(internal/reflectlite.Value).IsNil", "internal/reflectlite.TypeOf", "(internal/reflectlite.Value).Elem", "(internal/reflectlite.Value).Set"], unfollowed := true, recurses := true, named := ["errors.errorType", "internal/strconv.uint64pow10", "math/bits.deBruijn32tab", "math/bits.deBruijn64tab"], loops := true, plainKeys := false, apart := false, laid := [("math/bits.deBruijn32tab", laid_math_bits_deBruijn32tab), ("math/bits.deBruijn64tab", laid_math_bits_deBruijn64tab), ("internal/strconv.uint64pow10", laid_internal_strconv_uint64pow10), ("errors.errorType", laid_errors_errorType)], narrowed := true }
def HilbertNobodyUptoSaid : Prop := hilbertNobodyUptoRow.holds Tryz.pinned (OpenSpec.upto hilbertNobodySpec)

/-- 'dictumlaw16.HilbertIs', WHERE WHAT IT READS IS OF BULK AT MOST 1048576: true; the input reads as it did. -/
def hilbertIsUptoRow : OpenClaim := { program := "ytflieamjacclnaagreatdoor", sum := "7f1d3e51f9cb8b8c3cbd9da32a9d440656bb6faa9a47a0b92b99797eb226eb0e", func := "dictum/dictumlaw16.HilbertIs", spec := "hilbertIs", inPlace := ["internal/reflectlite.ValueOf", "(internal/reflectlite.Value).Type", "(internal/reflectlite.Value).IsNil", "internal/reflectlite.TypeOf", "(internal/reflectlite.Value).Elem", "(internal/reflectlite.Value).Set"], unfollowed := true, recurses := true, named := ["errors.errorType", "internal/strconv.uint64pow10", "math/bits.deBruijn32tab", "math/bits.deBruijn64tab"], plainKeys := false, apart := false, laid := [("math/bits.deBruijn32tab", laid_math_bits_deBruijn32tab), ("math/bits.deBruijn64tab", laid_math_bits_deBruijn64tab), ("internal/strconv.uint64pow10", laid_internal_strconv_uint64pow10), ("errors.errorType", laid_errors_errorType)], narrowed := true }
def HilbertIsUptoSaid : Prop := hilbertIsUptoRow.holds Tryz.pinned (OpenSpec.upto hilbertIsSpec)

/-- 'dictumlaw16.HilbertTheorem', WHERE WHAT IT READS IS OF BULK AT MOST 1048576: true; the input reads as it did. -/
def hilbertTheoremUptoRow : OpenClaim := { program := "ytflieamjacclnaagreatdoor", sum := "7f1d3e51f9cb8b8c3cbd9da32a9d440656bb6faa9a47a0b92b99797eb226eb0e", func := "dictum/dictumlaw16.HilbertTheorem", spec := "hilbertTheorem", inPlace := ["internal/reflectlite.ValueOf", "(internal/reflectlite.Value).Type", "(internal/reflectlite.Value).IsNil", "internal/reflectlite.TypeOf", "(internal/reflectlite.Value).Elem", "(internal/reflectlite.Value).Set"], unfollowed := true, recurses := true, named := ["errors.errorType", "internal/strconv.uint64pow10", "math/bits.deBruijn32tab", "math/bits.deBruijn64tab"], plainKeys := false, apart := false, laid := [("math/bits.deBruijn32tab", laid_math_bits_deBruijn32tab), ("math/bits.deBruijn64tab", laid_math_bits_deBruijn64tab), ("internal/strconv.uint64pow10", laid_internal_strconv_uint64pow10), ("errors.errorType", laid_errors_errorType)], narrowed := true }
def HilbertTheoremUptoSaid : Prop := hilbertTheoremUptoRow.holds Tryz.pinned (OpenSpec.upto hilbertTheoremSpec)

/-- 'dictumlaw16.HilbertHoward', WHERE WHAT IT READS IS OF BULK AT MOST 1048576: true; the input reads as it did. -/
def hilbertHowardUptoRow : OpenClaim := { program := "ytflieamjacclnaagreatdoor", sum := "7f1d3e51f9cb8b8c3cbd9da32a9d440656bb6faa9a47a0b92b99797eb226eb0e", func := "dictum/dictumlaw16.HilbertHoward", spec := "hilbertHoward", inPlace := ["internal/reflectlite.ValueOf", "(internal/reflectlite.Value).Type", "(internal/reflectlite.Value).IsNil", "internal/reflectlite.TypeOf", "(internal/reflectlite.Value).Elem", "(internal/reflectlite.Value).Set"], unfollowed := true, recurses := true, named := ["errors.errorType", "internal/strconv.uint64pow10", "math/bits.deBruijn32tab", "math/bits.deBruijn64tab"], loops := true, plainKeys := false, apart := false, laid := [("math/bits.deBruijn32tab", laid_math_bits_deBruijn32tab), ("math/bits.deBruijn64tab", laid_math_bits_deBruijn64tab), ("internal/strconv.uint64pow10", laid_internal_strconv_uint64pow10), ("errors.errorType", laid_errors_errorType)], narrowed := true }
def HilbertHowardUptoSaid : Prop := hilbertHowardUptoRow.holds Tryz.pinned (OpenSpec.upto hilbertHowardSpec)

/-- 'dictumlaw16.HilbertBack', WHERE WHAT IT READS IS OF BULK AT MOST 1048576: true; the input reads as it did. -/
def hilbertBackUptoRow : OpenClaim := { program := "ytflieamjacclnaagreatdoor", sum := "7f1d3e51f9cb8b8c3cbd9da32a9d440656bb6faa9a47a0b92b99797eb226eb0e", func := "dictum/dictumlaw16.HilbertBack", spec := "hilbertBack", inPlace := ["internal/reflectlite.ValueOf", "(internal/reflectlite.Value).Type", "(internal/reflectlite.Value).IsNil", "internal/reflectlite.TypeOf", "(internal/reflectlite.Value).Elem", "(internal/reflectlite.Value).Set"], unfollowed := true, recurses := true, named := ["internal/strconv.uint64pow10", "math/bits.deBruijn32tab", "math/bits.deBruijn64tab", "errors.errorType"], plainKeys := false, apart := false, laid := [("math/bits.deBruijn32tab", laid_math_bits_deBruijn32tab), ("math/bits.deBruijn64tab", laid_math_bits_deBruijn64tab), ("internal/strconv.uint64pow10", laid_internal_strconv_uint64pow10), ("errors.errorType", laid_errors_errorType)], narrowed := true }
def HilbertBackUptoSaid : Prop := hilbertBackUptoRow.holds Tryz.pinned (OpenSpec.upto hilbertBackSpec)

/-- 'dictumlaw16.HilbertSound', WHERE WHAT IT READS IS OF BULK AT MOST 1048576: true; the input reads as it did. -/
def hilbertSoundUptoRow : OpenClaim := { program := "ytflieamjacclnaagreatdoor", sum := "7f1d3e51f9cb8b8c3cbd9da32a9d440656bb6faa9a47a0b92b99797eb226eb0e", func := "dictum/dictumlaw16.HilbertSound", spec := "hilbertSound", inPlace := ["internal/reflectlite.ValueOf", "(internal/reflectlite.Value).Type", "(internal/reflectlite.Value).IsNil", "internal/reflectlite.TypeOf", "(internal/reflectlite.Value).Elem", "(internal/reflectlite.Value).Set"], unfollowed := true, recurses := true, named := ["errors.errorType", "internal/strconv.uint64pow10", "math/bits.deBruijn32tab", "math/bits.deBruijn64tab"], plainKeys := false, apart := false, laid := [("math/bits.deBruijn32tab", laid_math_bits_deBruijn32tab), ("math/bits.deBruijn64tab", laid_math_bits_deBruijn64tab), ("internal/strconv.uint64pow10", laid_internal_strconv_uint64pow10), ("errors.errorType", laid_errors_errorType)], narrowed := true }
def HilbertSoundUptoSaid : Prop := hilbertSoundUptoRow.holds Tryz.pinned (OpenSpec.upto hilbertSoundSpec)

/-- 'dictumlaw16.HilbertChecks', WHERE WHAT IT READS IS OF BULK AT MOST 1048576: true; the input reads as it did. -/
def hilbertChecksUptoRow : OpenClaim := { program := "ytflieamjacclnaagreatdoor", sum := "7f1d3e51f9cb8b8c3cbd9da32a9d440656bb6faa9a47a0b92b99797eb226eb0e", func := "dictum/dictumlaw16.HilbertChecks", spec := "hilbertChecks", inPlace := ["internal/reflectlite.ValueOf", "(internal/reflectlite.Value).Type", "(internal/reflectlite.Value).IsNil", "internal/reflectlite.TypeOf", "(internal/reflectlite.Value).Elem", "(internal/reflectlite.Value).Set"], unfollowed := true, recurses := true, named := ["errors.errorType", "internal/strconv.uint64pow10", "math/bits.deBruijn32tab", "math/bits.deBruijn64tab"], plainKeys := false, apart := false, laid := [("math/bits.deBruijn32tab", laid_math_bits_deBruijn32tab), ("math/bits.deBruijn64tab", laid_math_bits_deBruijn64tab), ("internal/strconv.uint64pow10", laid_internal_strconv_uint64pow10), ("errors.errorType", laid_errors_errorType)], narrowed := true }
def HilbertChecksUptoSaid : Prop := hilbertChecksUptoRow.holds Tryz.pinned (OpenSpec.upto hilbertChecksSpec)

/-- 'dictumlaw16.HilbertDeduces', WHERE WHAT IT READS IS OF BULK AT MOST 1048576: true; the input reads as it did. -/
def hilbertDeducesUptoRow : OpenClaim := { program := "ytflieamjacclnaagreatdoor", sum := "7f1d3e51f9cb8b8c3cbd9da32a9d440656bb6faa9a47a0b92b99797eb226eb0e", func := "dictum/dictumlaw16.HilbertDeduces", spec := "hilbertDeduces", inPlace := ["internal/reflectlite.ValueOf", "(internal/reflectlite.Value).Type", "(internal/reflectlite.Value).IsNil", "internal/reflectlite.TypeOf", "(internal/reflectlite.Value).Elem", "(internal/reflectlite.Value).Set"], unfollowed := true, recurses := true, named := ["errors.errorType", "internal/strconv.uint64pow10", "math/bits.deBruijn32tab", "math/bits.deBruijn64tab"], plainKeys := false, apart := false, laid := [("math/bits.deBruijn32tab", laid_math_bits_deBruijn32tab), ("math/bits.deBruijn64tab", laid_math_bits_deBruijn64tab), ("internal/strconv.uint64pow10", laid_internal_strconv_uint64pow10), ("errors.errorType", laid_errors_errorType)], narrowed := true }
def HilbertDeducesUptoSaid : Prop := hilbertDeducesUptoRow.holds Tryz.pinned (OpenSpec.upto hilbertDeducesSpec)

/-- 'dictumlaw16.HilbertTerms', WHERE WHAT IT READS IS OF BULK AT MOST 1048576: true; the input reads as it did. -/
def hilbertTermsUptoRow : OpenClaim := { program := "ytflieamjacclnaagreatdoor", sum := "7f1d3e51f9cb8b8c3cbd9da32a9d440656bb6faa9a47a0b92b99797eb226eb0e", func := "dictum/dictumlaw16.HilbertTerms", spec := "hilbertTerms", inPlace := ["internal/reflectlite.ValueOf", "(internal/reflectlite.Value).Type", "(internal/reflectlite.Value).IsNil", "internal/reflectlite.TypeOf", "(internal/reflectlite.Value).Elem", "(internal/reflectlite.Value).Set"], unfollowed := true, recurses := true, named := ["internal/strconv.uint64pow10", "math/bits.deBruijn32tab", "math/bits.deBruijn64tab", "errors.errorType"], plainKeys := false, apart := false, laid := [("math/bits.deBruijn32tab", laid_math_bits_deBruijn32tab), ("math/bits.deBruijn64tab", laid_math_bits_deBruijn64tab), ("internal/strconv.uint64pow10", laid_internal_strconv_uint64pow10), ("errors.errorType", laid_errors_errorType)], narrowed := true }
def HilbertTermsUptoSaid : Prop := hilbertTermsUptoRow.holds Tryz.pinned (OpenSpec.upto hilbertTermsSpec)

end Rows
end Go.Proofs.YtflieamjacclnaaGreatDoor
