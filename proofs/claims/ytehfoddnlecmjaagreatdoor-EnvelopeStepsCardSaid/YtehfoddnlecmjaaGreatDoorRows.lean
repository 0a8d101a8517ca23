/-
  NARROWER THAN 'FOR EVERY INPUT', by the rows' own cells (each row's printed sentence says how): EnvelopeParses: laid · EnvelopePadded: laid · EnvelopeUnpadded: laid · EnvelopeFills: laid · EnvelopeSteps: laid · EnvelopeThere: laid · EnvelopeBack: laid · EnvelopeVersions: laid · EnvelopeLengths: laid · EnvelopeHeaded: laid · EnvelopeHeadOnly: laid.
  DERIVED. THE GIVEN ROWS OF THIS SEAT. 11 by the template 'for every input the law returns true; each argument reads behind the call as it read before'; 0 by the template 'total and deterministic' (their statements: YtehfoddnlecmjaaGreatDoorTotals.lean).
  GIVEN WITH THE SEED: the statements are not yours to turn. If you find one false, say at which input.
  Laid BY PROGRAM, IN A SANDBOX (cutbox-rows.mjs): the forced cells as the released guide's own fill.sh prints them over the translation a3827d81d4beeb59… (all of the seat's roots in one cut). By AI agents, Wed Nov 11 2026. No macro, syntax, notation, axiom, sorry.
-/
import Derived.Test.YtehfoddnlecmjaaGreatDoorChecked
import GoSem.PinnedTables
import GoSem.Claim
import GoSem.ClaimJoined
import GoSem.ClaimMapViews
import Derived.JoinedTies
import Derived.KernelRfl
namespace Go.Proofs.YtehfoddnlecmjaaGreatDoor
/- THE CELL 'sum', in the pinned program and in every row, IS THE sha256 OF THE DUMP (.gsa) THAT YtehfoddnlecmjaaGreatDoorProg.lean LOADS. Nothing in Lean hashes anything: it is a label: what it is worth is what the hold of that sum in a sandbox is worth. -/
noncomputable def Tryz.pinned : Pinned := { name := "ytehfoddnlecmjaagreatdoor", sum := "a3827d81d4beeb59fed9fc752c6edb92194c949839355cf401a38d036f7b0171", checked := Tryz.checked }
namespace Rows
def none {H : Type} : Left H := { results := [], args := [] }

/- WHAT THE LISTED PACKAGE-LEVEL VARIABLES READ AS WHEN THE CALL BEGINS. Each datum BY PROGRAM (the guide's laid-datum.mjs) off the statement by which the dump's own 'gosem.cut.vars' lays the variable. In a bare row this is a premise. The card (YtehfoddnlecmjaaGreatDoorCards.lean) ties it to the program's text. -/
def laid_unicode_utf8_acceptRanges {H : Type} : DataW H := .agg [.agg [.lit (.int .u8 128), .lit (.int .u8 191)], .agg [.lit (.int .u8 160), .lit (.int .u8 191)], .agg [.lit (.int .u8 128), .lit (.int .u8 159)], .agg [.lit (.int .u8 144), .lit (.int .u8 191)], .agg [.lit (.int .u8 128), .lit (.int .u8 143)], .agg [.lit (.int .u8 0), .lit (.int .u8 0)], .agg [.lit (.int .u8 0), .lit (.int .u8 0)], .agg [.lit (.int .u8 0), .lit (.int .u8 0)], .agg [.lit (.int .u8 0), .lit (.int .u8 0)], .agg [.lit (.int .u8 0), .lit (.int .u8 0)], .agg [.lit (.int .u8 0), .lit (.int .u8 0)], .agg [.lit (.int .u8 0), .lit (.int .u8 0)], .agg [.lit (.int .u8 0), .lit (.int .u8 0)], .agg [.lit (.int .u8 0), .lit (.int .u8 0)], .agg [.lit (.int .u8 0), .lit (.int .u8 0)], .agg [.lit (.int .u8 0), .lit (.int .u8 0)]]
def laid_errors_errorType {H : Type} : DataW H := .iface "internal/reflectlite.rtype" (.agg [.ptr (.lit (.string [101, 114, 114, 111, 114]))])
/-- One of Go's own tables, pinned by name: the form's constant. -/
def laid_unicode_utf8_first : DataW Unit := Go.Pinned.utf8First

/-- 'pawllaw10.EnvelopeParses': WHATEVER THE INPUT: true; the input reads as it did. -/
def envelopeParsesSpec : ChangeSpec := { name := "envelopeParses", fn := fun _ => fun
  | [d] => { results := [.lit (.bool true)], args := [d] }
  | _ => none }
def envelopeParsesRow : OpenClaim := { program := "ytehfoddnlecmjaagreatdoor", sum := "a3827d81d4beeb59fed9fc752c6edb92194c949839355cf401a38d036f7b0171", func := "pawl/pawllaw10.EnvelopeParses", spec := "envelopeParses", inPlace := ["math.Float64frombits", "math.Float64bits", "internal/reflectlite.ValueOf", "(internal/reflectlite.Value).Type", "(internal/reflectlite.Value).IsNil", "internal/reflectlite.TypeOf", "(internal/reflectlite.Value).Elem", "(internal/reflectlite.Value).Set"], unfollowed := true, recurses := true, named := ["unicode/utf8.first", "unicode/utf8.acceptRanges", "errors.errorType"], apart := false, laid := [("unicode/utf8.acceptRanges", laid_unicode_utf8_acceptRanges), ("errors.errorType", laid_errors_errorType), ("unicode/utf8.first", laid_unicode_utf8_first)] }
def EnvelopeParsesSaid : Prop := envelopeParsesRow.holds Tryz.pinned (OpenSpec.ofChange envelopeParsesSpec)

/-- ITS FALSE NEIGHBOUR: 'it returns false'. Refute it at one input. -/
def envelopeParsesWrong : ChangeSpec := { name := "envelopeParses", fn := fun _ => fun
  | [d] => { results := [.lit (.bool false)], args := [d] }
  | _ => none }
def EnvelopeParsesWrongFalsely : Prop := envelopeParsesRow.holds Tryz.pinned (OpenSpec.ofChange envelopeParsesWrong)

/-- 'pawllaw10.EnvelopePadded': WHATEVER THE INPUT: true; the input reads as it did. -/
def envelopePaddedSpec : ChangeSpec := { name := "envelopePadded", fn := fun _ => fun
  | [d1, d2] => { results := [.lit (.bool true)], args := [d1, d2] }
  | _ => none }
def envelopePaddedRow : OpenClaim := { program := "ytehfoddnlecmjaagreatdoor", sum := "a3827d81d4beeb59fed9fc752c6edb92194c949839355cf401a38d036f7b0171", func := "pawl/pawllaw10.EnvelopePadded", spec := "envelopePadded", inPlace := ["math.Float64frombits", "math.Float64bits", "internal/reflectlite.ValueOf", "(internal/reflectlite.Value).Type", "(internal/reflectlite.Value).IsNil", "internal/reflectlite.TypeOf", "(internal/reflectlite.Value).Elem", "(internal/reflectlite.Value).Set"], unfollowed := true, recurses := true, named := ["unicode/utf8.first", "unicode/utf8.acceptRanges", "errors.errorType"], apart := false, laid := [("unicode/utf8.acceptRanges", laid_unicode_utf8_acceptRanges), ("errors.errorType", laid_errors_errorType), ("unicode/utf8.first", laid_unicode_utf8_first)] }
def EnvelopePaddedSaid : Prop := envelopePaddedRow.holds Tryz.pinned (OpenSpec.ofChange envelopePaddedSpec)

/-- ITS FALSE NEIGHBOUR: 'it returns false'. Refute it at one input. -/
def envelopePaddedWrong : ChangeSpec := { name := "envelopePadded", fn := fun _ => fun
  | [d1, d2] => { results := [.lit (.bool false)], args := [d1, d2] }
  | _ => none }
def EnvelopePaddedWrongFalsely : Prop := envelopePaddedRow.holds Tryz.pinned (OpenSpec.ofChange envelopePaddedWrong)

/-- 'pawllaw10.EnvelopeUnpadded': WHATEVER THE INPUT: true; the input reads as it did. -/
def envelopeUnpaddedSpec : ChangeSpec := { name := "envelopeUnpadded", fn := fun _ => fun
  | [d1, d2] => { results := [.lit (.bool true)], args := [d1, d2] }
  | _ => none }
def envelopeUnpaddedRow : OpenClaim := { program := "ytehfoddnlecmjaagreatdoor", sum := "a3827d81d4beeb59fed9fc752c6edb92194c949839355cf401a38d036f7b0171", func := "pawl/pawllaw10.EnvelopeUnpadded", spec := "envelopeUnpadded", inPlace := ["math.Float64frombits", "math.Float64bits", "internal/reflectlite.ValueOf", "(internal/reflectlite.Value).Type", "(internal/reflectlite.Value).IsNil", "internal/reflectlite.TypeOf", "(internal/reflectlite.Value).Elem", "(internal/reflectlite.Value).Set"], unfollowed := true, recurses := true, named := ["unicode/utf8.first", "unicode/utf8.acceptRanges", "errors.errorType"], apart := false, laid := [("unicode/utf8.acceptRanges", laid_unicode_utf8_acceptRanges), ("errors.errorType", laid_errors_errorType), ("unicode/utf8.first", laid_unicode_utf8_first)] }
def EnvelopeUnpaddedSaid : Prop := envelopeUnpaddedRow.holds Tryz.pinned (OpenSpec.ofChange envelopeUnpaddedSpec)

/-- ITS FALSE NEIGHBOUR: 'it returns false'. Refute it at one input. -/
def envelopeUnpaddedWrong : ChangeSpec := { name := "envelopeUnpadded", fn := fun _ => fun
  | [d1, d2] => { results := [.lit (.bool false)], args := [d1, d2] }
  | _ => none }
def EnvelopeUnpaddedWrongFalsely : Prop := envelopeUnpaddedRow.holds Tryz.pinned (OpenSpec.ofChange envelopeUnpaddedWrong)

/-- 'pawllaw10.EnvelopeFills': WHATEVER THE INPUT: true; the input reads as it did. -/
def envelopeFillsSpec : ChangeSpec := { name := "envelopeFills", fn := fun _ => fun
  | [d1, d2] => { results := [.lit (.bool true)], args := [d1, d2] }
  | _ => none }
def envelopeFillsRow : OpenClaim := { program := "ytehfoddnlecmjaagreatdoor", sum := "a3827d81d4beeb59fed9fc752c6edb92194c949839355cf401a38d036f7b0171", func := "pawl/pawllaw10.EnvelopeFills", spec := "envelopeFills", inPlace := ["math.Float64frombits", "math.Float64bits", "internal/reflectlite.ValueOf", "(internal/reflectlite.Value).Type", "(internal/reflectlite.Value).IsNil", "internal/reflectlite.TypeOf", "(internal/reflectlite.Value).Elem", "(internal/reflectlite.Value).Set"], unfollowed := true, recurses := true, named := ["unicode/utf8.first", "unicode/utf8.acceptRanges", "errors.errorType"], apart := false, laid := [("unicode/utf8.acceptRanges", laid_unicode_utf8_acceptRanges), ("errors.errorType", laid_errors_errorType), ("unicode/utf8.first", laid_unicode_utf8_first)] }
def EnvelopeFillsSaid : Prop := envelopeFillsRow.holds Tryz.pinned (OpenSpec.ofChange envelopeFillsSpec)

/-- ITS FALSE NEIGHBOUR: 'it returns false'. Refute it at one input. -/
def envelopeFillsWrong : ChangeSpec := { name := "envelopeFills", fn := fun _ => fun
  | [d1, d2] => { results := [.lit (.bool false)], args := [d1, d2] }
  | _ => none }
def EnvelopeFillsWrongFalsely : Prop := envelopeFillsRow.holds Tryz.pinned (OpenSpec.ofChange envelopeFillsWrong)

/-- 'pawllaw10.EnvelopeSteps': WHATEVER THE INPUT: true; the input reads as it did. -/
def envelopeStepsSpec : ChangeSpec := { name := "envelopeSteps", fn := fun _ => fun
  | [d] => { results := [.lit (.bool true)], args := [d] }
  | _ => none }
def envelopeStepsRow : OpenClaim := { program := "ytehfoddnlecmjaagreatdoor", sum := "a3827d81d4beeb59fed9fc752c6edb92194c949839355cf401a38d036f7b0171", func := "pawl/pawllaw10.EnvelopeSteps", spec := "envelopeSteps", inPlace := ["math.Float64frombits", "math.Float64bits", "internal/reflectlite.ValueOf", "(internal/reflectlite.Value).Type", "(internal/reflectlite.Value).IsNil", "internal/reflectlite.TypeOf", "(internal/reflectlite.Value).Elem", "(internal/reflectlite.Value).Set"], unfollowed := true, recurses := true, named := ["unicode/utf8.first", "unicode/utf8.acceptRanges", "errors.errorType"], apart := false, laid := [("unicode/utf8.acceptRanges", laid_unicode_utf8_acceptRanges), ("errors.errorType", laid_errors_errorType), ("unicode/utf8.first", laid_unicode_utf8_first)] }
def EnvelopeStepsSaid : Prop := envelopeStepsRow.holds Tryz.pinned (OpenSpec.ofChange envelopeStepsSpec)

/-- ITS FALSE NEIGHBOUR: 'it returns false'. Refute it at one input. -/
def envelopeStepsWrong : ChangeSpec := { name := "envelopeSteps", fn := fun _ => fun
  | [d] => { results := [.lit (.bool false)], args := [d] }
  | _ => none }
def EnvelopeStepsWrongFalsely : Prop := envelopeStepsRow.holds Tryz.pinned (OpenSpec.ofChange envelopeStepsWrong)

/-- 'pawllaw10.EnvelopeThere': WHATEVER THE INPUT: true; the input reads as it did. -/
def envelopeThereSpec : ChangeSpec := { name := "envelopeThere", fn := fun _ => fun
  | [d] => { results := [.lit (.bool true)], args := [d] }
  | _ => none }
def envelopeThereRow : OpenClaim := { program := "ytehfoddnlecmjaagreatdoor", sum := "a3827d81d4beeb59fed9fc752c6edb92194c949839355cf401a38d036f7b0171", func := "pawl/pawllaw10.EnvelopeThere", spec := "envelopeThere", inPlace := ["math.Float64frombits", "math.Float64bits", "internal/reflectlite.ValueOf", "(internal/reflectlite.Value).Type", "(internal/reflectlite.Value).IsNil", "internal/reflectlite.TypeOf", "(internal/reflectlite.Value).Elem", "(internal/reflectlite.Value).Set"], unfollowed := true, recurses := true, named := ["unicode/utf8.first", "unicode/utf8.acceptRanges", "errors.errorType"], apart := false, laid := [("unicode/utf8.acceptRanges", laid_unicode_utf8_acceptRanges), ("errors.errorType", laid_errors_errorType), ("unicode/utf8.first", laid_unicode_utf8_first)] }
def EnvelopeThereSaid : Prop := envelopeThereRow.holds Tryz.pinned (OpenSpec.ofChange envelopeThereSpec)

/-- ITS FALSE NEIGHBOUR: 'it returns false'. Refute it at one input. -/
def envelopeThereWrong : ChangeSpec := { name := "envelopeThere", fn := fun _ => fun
  | [d] => { results := [.lit (.bool false)], args := [d] }
  | _ => none }
def EnvelopeThereWrongFalsely : Prop := envelopeThereRow.holds Tryz.pinned (OpenSpec.ofChange envelopeThereWrong)

/-- 'pawllaw10.EnvelopeBack': WHATEVER THE INPUT: true; the input reads as it did. -/
def envelopeBackSpec : ChangeSpec := { name := "envelopeBack", fn := fun _ => fun
  | [d] => { results := [.lit (.bool true)], args := [d] }
  | _ => none }
def envelopeBackRow : OpenClaim := { program := "ytehfoddnlecmjaagreatdoor", sum := "a3827d81d4beeb59fed9fc752c6edb92194c949839355cf401a38d036f7b0171", func := "pawl/pawllaw10.EnvelopeBack", spec := "envelopeBack", inPlace := ["math.Float64frombits", "math.Float64bits", "internal/reflectlite.ValueOf", "(internal/reflectlite.Value).Type", "(internal/reflectlite.Value).IsNil", "internal/reflectlite.TypeOf", "(internal/reflectlite.Value).Elem", "(internal/reflectlite.Value).Set"], unfollowed := true, recurses := true, named := ["unicode/utf8.first", "unicode/utf8.acceptRanges", "errors.errorType"], apart := false, laid := [("unicode/utf8.acceptRanges", laid_unicode_utf8_acceptRanges), ("errors.errorType", laid_errors_errorType), ("unicode/utf8.first", laid_unicode_utf8_first)] }
def EnvelopeBackSaid : Prop := envelopeBackRow.holds Tryz.pinned (OpenSpec.ofChange envelopeBackSpec)

/-- ITS FALSE NEIGHBOUR: 'it returns false'. Refute it at one input. -/
def envelopeBackWrong : ChangeSpec := { name := "envelopeBack", fn := fun _ => fun
  | [d] => { results := [.lit (.bool false)], args := [d] }
  | _ => none }
def EnvelopeBackWrongFalsely : Prop := envelopeBackRow.holds Tryz.pinned (OpenSpec.ofChange envelopeBackWrong)

/-- 'pawllaw10.EnvelopeVersions': WHATEVER THE INPUT: true; the input reads as it did. -/
def envelopeVersionsSpec : ChangeSpec := { name := "envelopeVersions", fn := fun _ => fun
  | [d1, d2, d3] => { results := [.lit (.bool true)], args := [d1, d2, d3] }
  | _ => none }
def envelopeVersionsRow : OpenClaim := { program := "ytehfoddnlecmjaagreatdoor", sum := "a3827d81d4beeb59fed9fc752c6edb92194c949839355cf401a38d036f7b0171", func := "pawl/pawllaw10.EnvelopeVersions", spec := "envelopeVersions", inPlace := ["math.Float64frombits", "math.Float64bits", "internal/reflectlite.ValueOf", "(internal/reflectlite.Value).Type", "(internal/reflectlite.Value).IsNil", "internal/reflectlite.TypeOf", "(internal/reflectlite.Value).Elem", "(internal/reflectlite.Value).Set"], unfollowed := true, recurses := true, named := ["unicode/utf8.first", "unicode/utf8.acceptRanges", "errors.errorType"], apart := false, laid := [("unicode/utf8.acceptRanges", laid_unicode_utf8_acceptRanges), ("errors.errorType", laid_errors_errorType), ("unicode/utf8.first", laid_unicode_utf8_first)] }
def EnvelopeVersionsSaid : Prop := envelopeVersionsRow.holds Tryz.pinned (OpenSpec.ofChange envelopeVersionsSpec)

/-- ITS FALSE NEIGHBOUR: 'it returns false'. Refute it at one input. -/
def envelopeVersionsWrong : ChangeSpec := { name := "envelopeVersions", fn := fun _ => fun
  | [d1, d2, d3] => { results := [.lit (.bool false)], args := [d1, d2, d3] }
  | _ => none }
def EnvelopeVersionsWrongFalsely : Prop := envelopeVersionsRow.holds Tryz.pinned (OpenSpec.ofChange envelopeVersionsWrong)

/-- 'pawllaw10.EnvelopeLengths': WHATEVER THE INPUT: true; the input reads as it did. -/
def envelopeLengthsSpec : ChangeSpec := { name := "envelopeLengths", fn := fun _ => fun
  | [d1, d2, d3, d4, d5] => { results := [.lit (.bool true)], args := [d1, d2, d3, d4, d5] }
  | _ => none }
def envelopeLengthsRow : OpenClaim := { program := "ytehfoddnlecmjaagreatdoor", sum := "a3827d81d4beeb59fed9fc752c6edb92194c949839355cf401a38d036f7b0171", func := "pawl/pawllaw10.EnvelopeLengths", spec := "envelopeLengths", inPlace := ["math.Float64frombits", "math.Float64bits", "internal/reflectlite.ValueOf", "(internal/reflectlite.Value).Type", "(internal/reflectlite.Value).IsNil", "internal/reflectlite.TypeOf", "(internal/reflectlite.Value).Elem", "(internal/reflectlite.Value).Set"], unfollowed := true, recurses := true, named := ["unicode/utf8.first", "unicode/utf8.acceptRanges", "errors.errorType"], apart := false, laid := [("unicode/utf8.acceptRanges", laid_unicode_utf8_acceptRanges), ("errors.errorType", laid_errors_errorType), ("unicode/utf8.first", laid_unicode_utf8_first)] }
def EnvelopeLengthsSaid : Prop := envelopeLengthsRow.holds Tryz.pinned (OpenSpec.ofChange envelopeLengthsSpec)

/-- ITS FALSE NEIGHBOUR: 'it returns false'. Refute it at one input. -/
def envelopeLengthsWrong : ChangeSpec := { name := "envelopeLengths", fn := fun _ => fun
  | [d1, d2, d3, d4, d5] => { results := [.lit (.bool false)], args := [d1, d2, d3, d4, d5] }
  | _ => none }
def EnvelopeLengthsWrongFalsely : Prop := envelopeLengthsRow.holds Tryz.pinned (OpenSpec.ofChange envelopeLengthsWrong)

/-- 'pawllaw10.EnvelopeHeaded': WHATEVER THE INPUT: true; the input reads as it did. -/
def envelopeHeadedSpec : ChangeSpec := { name := "envelopeHeaded", fn := fun _ => fun
  | [d] => { results := [.lit (.bool true)], args := [d] }
  | _ => none }
def envelopeHeadedRow : OpenClaim := { program := "ytehfoddnlecmjaagreatdoor", sum := "a3827d81d4beeb59fed9fc752c6edb92194c949839355cf401a38d036f7b0171", func := "pawl/pawllaw10.EnvelopeHeaded", spec := "envelopeHeaded", inPlace := ["math.Float64frombits", "math.Float64bits", "internal/reflectlite.ValueOf", "(internal/reflectlite.Value).Type", "(internal/reflectlite.Value).IsNil", "internal/reflectlite.TypeOf", "(internal/reflectlite.Value).Elem", "(internal/reflectlite.Value).Set"], unfollowed := true, recurses := true, named := ["unicode/utf8.first", "unicode/utf8.acceptRanges", "errors.errorType"], apart := false, laid := [("unicode/utf8.acceptRanges", laid_unicode_utf8_acceptRanges), ("errors.errorType", laid_errors_errorType), ("unicode/utf8.first", laid_unicode_utf8_first)] }
def EnvelopeHeadedSaid : Prop := envelopeHeadedRow.holds Tryz.pinned (OpenSpec.ofChange envelopeHeadedSpec)

/-- ITS FALSE NEIGHBOUR: 'it returns false'. Refute it at one input. -/
def envelopeHeadedWrong : ChangeSpec := { name := "envelopeHeaded", fn := fun _ => fun
  | [d] => { results := [.lit (.bool false)], args := [d] }
  | _ => none }
def EnvelopeHeadedWrongFalsely : Prop := envelopeHeadedRow.holds Tryz.pinned (OpenSpec.ofChange envelopeHeadedWrong)

/-- 'pawllaw10.EnvelopeHeadOnly': WHATEVER THE INPUT: true; the input reads as it did. -/
def envelopeHeadOnlySpec : ChangeSpec := { name := "envelopeHeadOnly", fn := fun _ => fun
  | [d] => { results := [.lit (.bool true)], args := [d] }
  | _ => none }
def envelopeHeadOnlyRow : OpenClaim := { program := "ytehfoddnlecmjaagreatdoor", sum := "a3827d81d4beeb59fed9fc752c6edb92194c949839355cf401a38d036f7b0171", func := "pawl/pawllaw10.EnvelopeHeadOnly", spec := "envelopeHeadOnly", inPlace := ["math.Float64frombits", "math.Float64bits", "internal/reflectlite.ValueOf", "(internal/reflectlite.Value).Type", "(internal/reflectlite.Value).IsNil", "internal/reflectlite.TypeOf", "(internal/reflectlite.Value).Elem", "(internal/reflectlite.Value).Set"], unfollowed := true, recurses := true, named := ["unicode/utf8.first", "unicode/utf8.acceptRanges", "errors.errorType"], apart := false, laid := [("unicode/utf8.acceptRanges", laid_unicode_utf8_acceptRanges), ("errors.errorType", laid_errors_errorType), ("unicode/utf8.first", laid_unicode_utf8_first)] }
def EnvelopeHeadOnlySaid : Prop := envelopeHeadOnlyRow.holds Tryz.pinned (OpenSpec.ofChange envelopeHeadOnlySpec)

/-- ITS FALSE NEIGHBOUR: 'it returns false'. Refute it at one input. -/
def envelopeHeadOnlyWrong : ChangeSpec := { name := "envelopeHeadOnly", fn := fun _ => fun
  | [d] => { results := [.lit (.bool false)], args := [d] }
  | _ => none }
def EnvelopeHeadOnlyWrongFalsely : Prop := envelopeHeadOnlyRow.holds Tryz.pinned (OpenSpec.ofChange envelopeHeadOnlyWrong)

/- THE SECOND FORM. 'bulk': how many values and letters a reading holds, each counted each time it is reached (what is shared counts as often as it is met; a slice's spare places count too). A statement '..UptoSaid' is the law's where the arguments, and the package variables that the reading takes, are together of bulk at most 1048576: NARROWER than '..Said'. Prove '..Said' where nothing that the law and all that it calls make is longer than what came in: it says more and counts as full. Else prove '..UptoSaid'. A law counts once. -/
mutual
def uptoBulk {H : Type} : DataW H → Nat
  | .lit (.string bytes) => bytes.length + 1
  | .lit _ => 1
  | .nil => 1
  | .ptr d => uptoBulk d + 1
  | .slice elems spare => uptoBulkAll elems + uptoBulkAll spare + 1
  | .agg parts => uptoBulkAll parts + 1
  | .iface _ d => uptoBulk d + 1
  | .map entries => uptoBulkEntries entries + 1
  | .held _ => 1
def uptoBulkAll {H : Type} : List (DataW H) → Nat
  | [] => 0
  | d :: r => uptoBulk d + uptoBulkAll r
def uptoBulkEntries {H : Type} : List (Lit × DataW H) → Nat
  | [] => 0
  | x :: r => uptoBulkEntry x + uptoBulkEntries r
def uptoBulkEntry {H : Type} : Lit × DataW H → Nat
  | (.string bytes, d) => bytes.length + uptoBulk d + 1
  | (_, d) => uptoBulk d + 1
 end
def uptoSmall : (H : Type) → List (DataW H) → Bool := fun _ ds => decide (uptoBulkAll ds ≤ 1048576)
def OpenSpec.upto (s : _root_.Go.ChangeSpec) : _root_.Go.OpenSpec := { _root_.Go.OpenSpec.ofChange s with cond := some uptoSmall }

/-- 'pawllaw10.EnvelopeParses', WHERE WHAT IT READS IS OF BULK AT MOST 1048576: true; the input reads as it did. -/
def envelopeParsesUptoRow : OpenClaim := { program := "ytehfoddnlecmjaagreatdoor", sum := "a3827d81d4beeb59fed9fc752c6edb92194c949839355cf401a38d036f7b0171", func := "pawl/pawllaw10.EnvelopeParses", spec := "envelopeParses", inPlace := ["math.Float64frombits", "math.Float64bits", "internal/reflectlite.ValueOf", "(internal/reflectlite.Value).Type", "(internal/reflectlite.Value).IsNil", "internal/reflectlite.TypeOf", "(internal/reflectlite.Value).Elem", "(internal/reflectlite.Value).Set"], unfollowed := true, recurses := true, named := ["unicode/utf8.first", "unicode/utf8.acceptRanges", "errors.errorType"], apart := false, laid := [("unicode/utf8.acceptRanges", laid_unicode_utf8_acceptRanges), ("errors.errorType", laid_errors_errorType), ("unicode/utf8.first", laid_unicode_utf8_first)], narrowed := true }
def EnvelopeParsesUptoSaid : Prop := envelopeParsesUptoRow.holds Tryz.pinned (OpenSpec.upto envelopeParsesSpec)

/-- 'pawllaw10.EnvelopePadded', WHERE WHAT IT READS IS OF BULK AT MOST 1048576: true; the input reads as it did. -/
def envelopePaddedUptoRow : OpenClaim := { program := "ytehfoddnlecmjaagreatdoor", sum := "a3827d81d4beeb59fed9fc752c6edb92194c949839355cf401a38d036f7b0171", func := "pawl/pawllaw10.EnvelopePadded", spec := "envelopePadded", inPlace := ["math.Float64frombits", "math.Float64bits", "internal/reflectlite.ValueOf", "(internal/reflectlite.Value).Type", "(internal/reflectlite.Value).IsNil", "internal/reflectlite.TypeOf", "(internal/reflectlite.Value).Elem", "(internal/reflectlite.Value).Set"], unfollowed := true, recurses := true, named := ["unicode/utf8.first", "unicode/utf8.acceptRanges", "errors.errorType"], apart := false, laid := [("unicode/utf8.acceptRanges", laid_unicode_utf8_acceptRanges), ("errors.errorType", laid_errors_errorType), ("unicode/utf8.first", laid_unicode_utf8_first)], narrowed := true }
def EnvelopePaddedUptoSaid : Prop := envelopePaddedUptoRow.holds Tryz.pinned (OpenSpec.upto envelopePaddedSpec)

/-- 'pawllaw10.EnvelopeUnpadded', WHERE WHAT IT READS IS OF BULK AT MOST 1048576: true; the input reads as it did. -/
def envelopeUnpaddedUptoRow : OpenClaim := { program := "ytehfoddnlecmjaagreatdoor", sum := "a3827d81d4beeb59fed9fc752c6edb92194c949839355cf401a38d036f7b0171", func := "pawl/pawllaw10.EnvelopeUnpadded", spec := "envelopeUnpadded", inPlace := ["math.Float64frombits", "math.Float64bits", "internal/reflectlite.ValueOf", "(internal/reflectlite.Value).Type", "(internal/reflectlite.Value).IsNil", "internal/reflectlite.TypeOf", "(internal/reflectlite.Value).Elem", "(internal/reflectlite.Value).Set"], unfollowed := true, recurses := true, named := ["unicode/utf8.first", "unicode/utf8.acceptRanges", "errors.errorType"], apart := false, laid := [("unicode/utf8.acceptRanges", laid_unicode_utf8_acceptRanges), ("errors.errorType", laid_errors_errorType), ("unicode/utf8.first", laid_unicode_utf8_first)], narrowed := true }
def EnvelopeUnpaddedUptoSaid : Prop := envelopeUnpaddedUptoRow.holds Tryz.pinned (OpenSpec.upto envelopeUnpaddedSpec)

/-- 'pawllaw10.EnvelopeFills', WHERE WHAT IT READS IS OF BULK AT MOST 1048576: true; the input reads as it did. -/
def envelopeFillsUptoRow : OpenClaim := { program := "ytehfoddnlecmjaagreatdoor", sum := "a3827d81d4beeb59fed9fc752c6edb92194c949839355cf401a38d036f7b0171", func := "pawl/pawllaw10.EnvelopeFills", spec := "envelopeFills", inPlace := ["math.Float64frombits", "math.Float64bits", "internal/reflectlite.ValueOf", "(internal/reflectlite.Value).Type", "(internal/reflectlite.Value).IsNil", "internal/reflectlite.TypeOf", "(internal/reflectlite.Value).Elem", "(internal/reflectlite.Value).Set"], unfollowed := true, recurses := true, named := ["unicode/utf8.first", "unicode/utf8.acceptRanges", "errors.errorType"], apart := false, laid := [("unicode/utf8.acceptRanges", laid_unicode_utf8_acceptRanges), ("errors.errorType", laid_errors_errorType), ("unicode/utf8.first", laid_unicode_utf8_first)], narrowed := true }
def EnvelopeFillsUptoSaid : Prop := envelopeFillsUptoRow.holds Tryz.pinned (OpenSpec.upto envelopeFillsSpec)

/-- 'pawllaw10.EnvelopeSteps', WHERE WHAT IT READS IS OF BULK AT MOST 1048576: true; the input reads as it did. -/
def envelopeStepsUptoRow : OpenClaim := { program := "ytehfoddnlecmjaagreatdoor", sum := "a3827d81d4beeb59fed9fc752c6edb92194c949839355cf401a38d036f7b0171", func := "pawl/pawllaw10.EnvelopeSteps", spec := "envelopeSteps", inPlace := ["math.Float64frombits", "math.Float64bits", "internal/reflectlite.ValueOf", "(internal/reflectlite.Value).Type", "(internal/reflectlite.Value).IsNil", "internal/reflectlite.TypeOf", "(internal/reflectlite.Value).Elem", "(internal/reflectlite.Value).Set"], unfollowed := true, recurses := true, named := ["unicode/utf8.first", "unicode/utf8.acceptRanges", "errors.errorType"], apart := false, laid := [("unicode/utf8.acceptRanges", laid_unicode_utf8_acceptRanges), ("errors.errorType", laid_errors_errorType), ("unicode/utf8.first", laid_unicode_utf8_first)], narrowed := true }
def EnvelopeStepsUptoSaid : Prop := envelopeStepsUptoRow.holds Tryz.pinned (OpenSpec.upto envelopeStepsSpec)

/-- 'pawllaw10.EnvelopeThere', WHERE WHAT IT READS IS OF BULK AT MOST 1048576: true; the input reads as it did. -/
def envelopeThereUptoRow : OpenClaim := { program := "ytehfoddnlecmjaagreatdoor", sum := "a3827d81d4beeb59fed9fc752c6edb92194c949839355cf401a38d036f7b0171", func := "pawl/pawllaw10.EnvelopeThere", spec := "envelopeThere", inPlace := ["math.Float64frombits", "math.Float64bits", "internal/reflectlite.ValueOf", "(internal/reflectlite.Value).Type", "(internal/reflectlite.Value).IsNil", "internal/reflectlite.TypeOf", "(internal/reflectlite.Value).Elem", "(internal/reflectlite.Value).Set"], unfollowed := true, recurses := true, named := ["unicode/utf8.first", "unicode/utf8.acceptRanges", "errors.errorType"], apart := false, laid := [("unicode/utf8.acceptRanges", laid_unicode_utf8_acceptRanges), ("errors.errorType", laid_errors_errorType), ("unicode/utf8.first", laid_unicode_utf8_first)], narrowed := true }
def EnvelopeThereUptoSaid : Prop := envelopeThereUptoRow.holds Tryz.pinned (OpenSpec.upto envelopeThereSpec)

/-- 'pawllaw10.EnvelopeBack', WHERE WHAT IT READS IS OF BULK AT MOST 1048576: true; the input reads as it did. -/
def envelopeBackUptoRow : OpenClaim := { program := "ytehfoddnlecmjaagreatdoor", sum := "a3827d81d4beeb59fed9fc752c6edb92194c949839355cf401a38d036f7b0171", func := "pawl/pawllaw10.EnvelopeBack", spec := "envelopeBack", inPlace := ["math.Float64frombits", "math.Float64bits", "internal/reflectlite.ValueOf", "(internal/reflectlite.Value).Type", "(internal/reflectlite.Value).IsNil", "internal/reflectlite.TypeOf", "(internal/reflectlite.Value).Elem", "(internal/reflectlite.Value).Set"], unfollowed := true, recurses := true, named := ["unicode/utf8.first", "unicode/utf8.acceptRanges", "errors.errorType"], apart := false, laid := [("unicode/utf8.acceptRanges", laid_unicode_utf8_acceptRanges), ("errors.errorType", laid_errors_errorType), ("unicode/utf8.first", laid_unicode_utf8_first)], narrowed := true }
def EnvelopeBackUptoSaid : Prop := envelopeBackUptoRow.holds Tryz.pinned (OpenSpec.upto envelopeBackSpec)

/-- 'pawllaw10.EnvelopeVersions', WHERE WHAT IT READS IS OF BULK AT MOST 1048576: true; the input reads as it did. -/
def envelopeVersionsUptoRow : OpenClaim := { program := "ytehfoddnlecmjaagreatdoor", sum := "a3827d81d4beeb59fed9fc752c6edb92194c949839355cf401a38d036f7b0171", func := "pawl/pawllaw10.EnvelopeVersions", spec := "envelopeVersions", inPlace := ["math.Float64frombits", "math.Float64bits", "internal/reflectlite.ValueOf", "(internal/reflectlite.Value).Type", "(internal/reflectlite.Value).IsNil", "internal/reflectlite.TypeOf", "(internal/reflectlite.Value).Elem", "(internal/reflectlite.Value).Set"], unfollowed := true, recurses := true, named := ["unicode/utf8.first", "unicode/utf8.acceptRanges", "errors.errorType"], apart := false, laid := [("unicode/utf8.acceptRanges", laid_unicode_utf8_acceptRanges), ("errors.errorType", laid_errors_errorType), ("unicode/utf8.first", laid_unicode_utf8_first)], narrowed := true }
def EnvelopeVersionsUptoSaid : Prop := envelopeVersionsUptoRow.holds Tryz.pinned (OpenSpec.upto envelopeVersionsSpec)

/-- 'pawllaw10.EnvelopeLengths', WHERE WHAT IT READS IS OF BULK AT MOST 1048576: true; the input reads as it did. -/
def envelopeLengthsUptoRow : OpenClaim := { program := "ytehfoddnlecmjaagreatdoor", sum := "a3827d81d4beeb59fed9fc752c6edb92194c949839355cf401a38d036f7b0171", func := "pawl/pawllaw10.EnvelopeLengths", spec := "envelopeLengths", inPlace := ["math.Float64frombits", "math.Float64bits", "internal/reflectlite.ValueOf", "(internal/reflectlite.Value).Type", "(internal/reflectlite.Value).IsNil", "internal/reflectlite.TypeOf", "(internal/reflectlite.Value).Elem", "(internal/reflectlite.Value).Set"], unfollowed := true, recurses := true, named := ["unicode/utf8.first", "unicode/utf8.acceptRanges", "errors.errorType"], apart := false, laid := [("unicode/utf8.acceptRanges", laid_unicode_utf8_acceptRanges), ("errors.errorType", laid_errors_errorType), ("unicode/utf8.first", laid_unicode_utf8_first)], narrowed := true }
def EnvelopeLengthsUptoSaid : Prop := envelopeLengthsUptoRow.holds Tryz.pinned (OpenSpec.upto envelopeLengthsSpec)

/-- 'pawllaw10.EnvelopeHeaded', WHERE WHAT IT READS IS OF BULK AT MOST 1048576: true; the input reads as it did. -/
def envelopeHeadedUptoRow : OpenClaim := { program := "ytehfoddnlecmjaagreatdoor", sum := "a3827d81d4beeb59fed9fc752c6edb92194c949839355cf401a38d036f7b0171", func := "pawl/pawllaw10.EnvelopeHeaded", spec := "envelopeHeaded", inPlace := ["math.Float64frombits", "math.Float64bits", "internal/reflectlite.ValueOf", "(internal/reflectlite.Value).Type", "(internal/reflectlite.Value).IsNil", "internal/reflectlite.TypeOf", "(internal/reflectlite.Value).Elem", "(internal/reflectlite.Value).Set"], unfollowed := true, recurses := true, named := ["unicode/utf8.first", "unicode/utf8.acceptRanges", "errors.errorType"], apart := false, laid := [("unicode/utf8.acceptRanges", laid_unicode_utf8_acceptRanges), ("errors.errorType", laid_errors_errorType), ("unicode/utf8.first", laid_unicode_utf8_first)], narrowed := true }
def EnvelopeHeadedUptoSaid : Prop := envelopeHeadedUptoRow.holds Tryz.pinned (OpenSpec.upto envelopeHeadedSpec)

/-- 'pawllaw10.EnvelopeHeadOnly', WHERE WHAT IT READS IS OF BULK AT MOST 1048576: true; the input reads as it did. -/
def envelopeHeadOnlyUptoRow : OpenClaim := { program := "ytehfoddnlecmjaagreatdoor", sum := "a3827d81d4beeb59fed9fc752c6edb92194c949839355cf401a38d036f7b0171", func := "pawl/pawllaw10.EnvelopeHeadOnly", spec := "envelopeHeadOnly", inPlace := ["math.Float64frombits", "math.Float64bits", "internal/reflectlite.ValueOf", "(internal/reflectlite.Value).Type", "(internal/reflectlite.Value).IsNil", "internal/reflectlite.TypeOf", "(internal/reflectlite.Value).Elem", "(internal/reflectlite.Value).Set"], unfollowed := true, recurses := true, named := ["unicode/utf8.first", "unicode/utf8.acceptRanges", "errors.errorType"], apart := false, laid := [("unicode/utf8.acceptRanges", laid_unicode_utf8_acceptRanges), ("errors.errorType", laid_errors_errorType), ("unicode/utf8.first", laid_unicode_utf8_first)], narrowed := true }
def EnvelopeHeadOnlyUptoSaid : Prop := envelopeHeadOnlyUptoRow.holds Tryz.pinned (OpenSpec.upto envelopeHeadOnlySpec)

end Rows
end Go.Proofs.YtehfoddnlecmjaaGreatDoor
