/-
  NARROWER THAN 'FOR EVERY INPUT', by the rows' own cells (each row's printed sentence says how): PackNames: laid · PackTwo: laid · DifferOne: laid · SinceFew: laid · SinceNothing: laid · DifferNone: laid · DifferGone: laid · DifferAll: laid · PackHoles: laid · PackBack: laid · PackSafe: laid.
  DERIVED. THE GIVEN ROWS OF THIS SEAT. 11 by the template 'for every input the law returns true; each argument reads behind the call as it read before'; 0 by the template 'total and deterministic' (their statements: YtipajekehbpghaaGreatDoorTotals.lean).
  GIVEN WITH THE SEED: the statements are not yours to turn. If you find one false, say at which input.
  Laid BY PROGRAM, IN A SANDBOX (cutbox-rows.mjs): the forced cells as the released guide's own fill.sh prints them over the translation 215c3480458aa0dc… (all of the seat's roots in one cut). By AI agents, Wed Nov 11 2026. No macro, syntax, notation, axiom, sorry.
-/
import Derived.Test.YtipajekehbpghaaGreatDoorChecked
import GoSem.PinnedTables
import GoSem.Claim
import GoSem.ClaimJoined
import GoSem.ClaimMapViews
import Derived.JoinedTies
import Derived.KernelRfl
namespace Go.Proofs.YtipajekehbpghaaGreatDoor
/- THE CELL 'sum', in the pinned program and in every row, IS THE sha256 OF THE DUMP (.gsa) THAT YtipajekehbpghaaGreatDoorProg.lean LOADS. Nothing in Lean hashes anything: it is a label: what it is worth is what the hold of that sum in a sandbox is worth. -/
noncomputable def Tryz.pinned : Pinned := { name := "ytipajekehbpghaagreatdoor", sum := "215c3480458aa0dcb022ce9173c3a1b76b70677808f133aed42ed18705cbc967", checked := Tryz.checked }
namespace Rows
def none {H : Type} : Left H := { results := [], args := [] }

/- WHAT THE LISTED PACKAGE-LEVEL VARIABLES READ AS WHEN THE CALL BEGINS. Each datum BY PROGRAM (the guide's laid-datum.mjs) off the statement by which the dump's own 'gosem.cut.vars' lays the variable. In a bare row this is a premise. The card (YtipajekehbpghaaGreatDoorCards.lean) ties it to the program's text. -/
def laid_unicode_utf8_acceptRanges {H : Type} : DataW H := .agg [.agg [.lit (.int .u8 128), .lit (.int .u8 191)], .agg [.lit (.int .u8 160), .lit (.int .u8 191)], .agg [.lit (.int .u8 128), .lit (.int .u8 159)], .agg [.lit (.int .u8 144), .lit (.int .u8 191)], .agg [.lit (.int .u8 128), .lit (.int .u8 143)], .agg [.lit (.int .u8 0), .lit (.int .u8 0)], .agg [.lit (.int .u8 0), .lit (.int .u8 0)], .agg [.lit (.int .u8 0), .lit (.int .u8 0)], .agg [.lit (.int .u8 0), .lit (.int .u8 0)], .agg [.lit (.int .u8 0), .lit (.int .u8 0)], .agg [.lit (.int .u8 0), .lit (.int .u8 0)], .agg [.lit (.int .u8 0), .lit (.int .u8 0)], .agg [.lit (.int .u8 0), .lit (.int .u8 0)], .agg [.lit (.int .u8 0), .lit (.int .u8 0)], .agg [.lit (.int .u8 0), .lit (.int .u8 0)], .agg [.lit (.int .u8 0), .lit (.int .u8 0)]]
/-- One of Go's own tables, pinned by name: the form's constant. -/
def laid_unicode_utf8_first : DataW Unit := Go.Pinned.utf8First
def laid_errors_errorType {H : Type} : DataW H := .iface "internal/reflectlite.rtype" (.agg [.ptr (.lit (.string [101, 114, 114, 111, 114]))])

/-- 'revetmentkeep.PackNames': WHATEVER THE INPUT: true; the input reads as it did. -/
def packNamesSpec : ChangeSpec := { name := "packNames", fn := fun _ => fun
  | [d1, d2] => { results := [.lit (.bool true)], args := [d1, d2] }
  | _ => none }
def packNamesRow : OpenClaim := { program := "ytipajekehbpghaagreatdoor", sum := "215c3480458aa0dcb022ce9173c3a1b76b70677808f133aed42ed18705cbc967", func := "revetment/revetmentkeep.PackNames", spec := "packNames", inPlace := ["maps.clone", "internal/bytealg.IndexByteString", "internal/bytealg.CountString", "internal/bytealg.IndexString", "internal/abi.NoEscape", "internal/bytealg.MakeNoZero"], unfollowed := true, recurses := true, named := ["unicode/utf8.first", "unicode/utf8.acceptRanges", "internal/bytealg.MaxLen"], apart := false, laid := [("unicode/utf8.acceptRanges", laid_unicode_utf8_acceptRanges), ("unicode/utf8.first", laid_unicode_utf8_first)] }
def PackNamesSaid : Prop := packNamesRow.holds Tryz.pinned (OpenSpec.ofChange packNamesSpec)

/-- ITS FALSE NEIGHBOUR: 'it returns false'. Refute it at one input. -/
def packNamesWrong : ChangeSpec := { name := "packNames", fn := fun _ => fun
  | [d1, d2] => { results := [.lit (.bool false)], args := [d1, d2] }
  | _ => none }
def PackNamesWrongFalsely : Prop := packNamesRow.holds Tryz.pinned (OpenSpec.ofChange packNamesWrong)

/-- 'revetmentkeep.PackTwo': WHATEVER THE INPUT: true; the input reads as it did. -/
def packTwoSpec : ChangeSpec := { name := "packTwo", fn := fun _ => fun
  | [d1, d2, d3] => { results := [.lit (.bool true)], args := [d1, d2, d3] }
  | _ => none }
def packTwoRow : OpenClaim := { program := "ytipajekehbpghaagreatdoor", sum := "215c3480458aa0dcb022ce9173c3a1b76b70677808f133aed42ed18705cbc967", func := "revetment/revetmentkeep.PackTwo", spec := "packTwo", inPlace := ["maps.clone", "internal/bytealg.IndexByteString", "internal/bytealg.CountString", "internal/bytealg.IndexString", "internal/abi.NoEscape", "internal/bytealg.MakeNoZero"], unfollowed := true, recurses := true, named := ["unicode/utf8.first", "unicode/utf8.acceptRanges", "internal/bytealg.MaxLen"], apart := false, laid := [("unicode/utf8.acceptRanges", laid_unicode_utf8_acceptRanges), ("unicode/utf8.first", laid_unicode_utf8_first)] }
def PackTwoSaid : Prop := packTwoRow.holds Tryz.pinned (OpenSpec.ofChange packTwoSpec)

/-- ITS FALSE NEIGHBOUR: 'it returns false'. Refute it at one input. -/
def packTwoWrong : ChangeSpec := { name := "packTwo", fn := fun _ => fun
  | [d1, d2, d3] => { results := [.lit (.bool false)], args := [d1, d2, d3] }
  | _ => none }
def PackTwoWrongFalsely : Prop := packTwoRow.holds Tryz.pinned (OpenSpec.ofChange packTwoWrong)

/-- 'revetmentkeep.DifferOne': WHATEVER THE INPUT: true; the input reads as it did. -/
def differOneSpec : ChangeSpec := { name := "differOne", fn := fun _ => fun
  | [d1, d2, d3] => { results := [.lit (.bool true)], args := [d1, d2, d3] }
  | _ => none }
def differOneRow : OpenClaim := { program := "ytipajekehbpghaagreatdoor", sum := "215c3480458aa0dcb022ce9173c3a1b76b70677808f133aed42ed18705cbc967", func := "revetment/revetmentkeep.DifferOne", spec := "differOne", inPlace := ["maps.clone", "internal/bytealg.IndexByteString", "internal/bytealg.CountString", "internal/bytealg.IndexString", "internal/abi.NoEscape", "internal/bytealg.MakeNoZero"], unfollowed := true, recurses := true, named := ["unicode/utf8.first", "unicode/utf8.acceptRanges", "internal/bytealg.MaxLen"], apart := false, laid := [("unicode/utf8.acceptRanges", laid_unicode_utf8_acceptRanges), ("unicode/utf8.first", laid_unicode_utf8_first)] }
def DifferOneSaid : Prop := differOneRow.holds Tryz.pinned (OpenSpec.ofChange differOneSpec)

/-- ITS FALSE NEIGHBOUR: 'it returns false'. Refute it at one input. -/
def differOneWrong : ChangeSpec := { name := "differOne", fn := fun _ => fun
  | [d1, d2, d3] => { results := [.lit (.bool false)], args := [d1, d2, d3] }
  | _ => none }
def DifferOneWrongFalsely : Prop := differOneRow.holds Tryz.pinned (OpenSpec.ofChange differOneWrong)

/-- 'revetmentkeep.SinceFew': WHATEVER THE INPUT: true; the input reads as it did. -/
def sinceFewSpec : ChangeSpec := { name := "sinceFew", fn := fun _ => fun
  | [d1, d2, d3] => { results := [.lit (.bool true)], args := [d1, d2, d3] }
  | _ => none }
def sinceFewRow : OpenClaim := { program := "ytipajekehbpghaagreatdoor", sum := "215c3480458aa0dcb022ce9173c3a1b76b70677808f133aed42ed18705cbc967", func := "revetment/revetmentkeep.SinceFew", spec := "sinceFew", inPlace := ["internal/bytealg.IndexByteString", "internal/bytealg.CountString", "internal/bytealg.IndexString", "internal/abi.NoEscape", "internal/bytealg.MakeNoZero", "maps.clone"], unfollowed := true, recurses := true, named := ["unicode/utf8.first", "unicode/utf8.acceptRanges", "internal/bytealg.MaxLen"], apart := false, laid := [("unicode/utf8.acceptRanges", laid_unicode_utf8_acceptRanges), ("unicode/utf8.first", laid_unicode_utf8_first)] }
def SinceFewSaid : Prop := sinceFewRow.holds Tryz.pinned (OpenSpec.ofChange sinceFewSpec)

/-- ITS FALSE NEIGHBOUR: 'it returns false'. Refute it at one input. -/
def sinceFewWrong : ChangeSpec := { name := "sinceFew", fn := fun _ => fun
  | [d1, d2, d3] => { results := [.lit (.bool false)], args := [d1, d2, d3] }
  | _ => none }
def SinceFewWrongFalsely : Prop := sinceFewRow.holds Tryz.pinned (OpenSpec.ofChange sinceFewWrong)

/-- 'revetmentkeep.SinceNothing': WHATEVER THE INPUT: true; the input reads as it did. -/
def sinceNothingSpec : ChangeSpec := { name := "sinceNothing", fn := fun _ => fun
  | [d1, d2] => { results := [.lit (.bool true)], args := [d1, d2] }
  | _ => none }
def sinceNothingRow : OpenClaim := { program := "ytipajekehbpghaagreatdoor", sum := "215c3480458aa0dcb022ce9173c3a1b76b70677808f133aed42ed18705cbc967", func := "revetment/revetmentkeep.SinceNothing", spec := "sinceNothing", inPlace := ["internal/bytealg.IndexByteString", "internal/bytealg.CountString", "internal/bytealg.IndexString", "internal/abi.NoEscape", "internal/bytealg.MakeNoZero", "maps.clone"], unfollowed := true, recurses := true, named := ["unicode/utf8.first", "unicode/utf8.acceptRanges", "internal/bytealg.MaxLen"], apart := false, laid := [("unicode/utf8.acceptRanges", laid_unicode_utf8_acceptRanges), ("unicode/utf8.first", laid_unicode_utf8_first)] }
def SinceNothingSaid : Prop := sinceNothingRow.holds Tryz.pinned (OpenSpec.ofChange sinceNothingSpec)

/-- ITS FALSE NEIGHBOUR: 'it returns false'. Refute it at one input. -/
def sinceNothingWrong : ChangeSpec := { name := "sinceNothing", fn := fun _ => fun
  | [d1, d2] => { results := [.lit (.bool false)], args := [d1, d2] }
  | _ => none }
def SinceNothingWrongFalsely : Prop := sinceNothingRow.holds Tryz.pinned (OpenSpec.ofChange sinceNothingWrong)

/-- 'revetmentkeep.DifferNone': WHATEVER THE INPUT: true; the input reads as it did. -/
def differNoneSpec : ChangeSpec := { name := "differNone", fn := fun _ => fun
  | [d1, d2] => { results := [.lit (.bool true)], args := [d1, d2] }
  | _ => none }
def differNoneRow : OpenClaim := { program := "ytipajekehbpghaagreatdoor", sum := "215c3480458aa0dcb022ce9173c3a1b76b70677808f133aed42ed18705cbc967", func := "revetment/revetmentkeep.DifferNone", spec := "differNone", inPlace := ["maps.clone", "internal/bytealg.IndexByteString", "internal/bytealg.CountString", "internal/bytealg.IndexString", "internal/abi.NoEscape", "internal/bytealg.MakeNoZero"], unfollowed := true, recurses := true, named := ["unicode/utf8.first", "unicode/utf8.acceptRanges", "internal/bytealg.MaxLen"], apart := false, laid := [("unicode/utf8.acceptRanges", laid_unicode_utf8_acceptRanges), ("unicode/utf8.first", laid_unicode_utf8_first)] }
def DifferNoneSaid : Prop := differNoneRow.holds Tryz.pinned (OpenSpec.ofChange differNoneSpec)

/-- ITS FALSE NEIGHBOUR: 'it returns false'. Refute it at one input. -/
def differNoneWrong : ChangeSpec := { name := "differNone", fn := fun _ => fun
  | [d1, d2] => { results := [.lit (.bool false)], args := [d1, d2] }
  | _ => none }
def DifferNoneWrongFalsely : Prop := differNoneRow.holds Tryz.pinned (OpenSpec.ofChange differNoneWrong)

/-- 'revetmentkeep.DifferGone': WHATEVER THE INPUT: true; the input reads as it did. -/
def differGoneSpec : ChangeSpec := { name := "differGone", fn := fun _ => fun
  | [d1, d2, d3] => { results := [.lit (.bool true)], args := [d1, d2, d3] }
  | _ => none }
def differGoneRow : OpenClaim := { program := "ytipajekehbpghaagreatdoor", sum := "215c3480458aa0dcb022ce9173c3a1b76b70677808f133aed42ed18705cbc967", func := "revetment/revetmentkeep.DifferGone", spec := "differGone", inPlace := ["maps.clone", "internal/bytealg.IndexByteString", "internal/bytealg.CountString", "internal/bytealg.IndexString", "internal/abi.NoEscape", "internal/bytealg.MakeNoZero"], unfollowed := true, recurses := true, named := ["unicode/utf8.first", "unicode/utf8.acceptRanges", "internal/bytealg.MaxLen"], apart := false, laid := [("unicode/utf8.acceptRanges", laid_unicode_utf8_acceptRanges), ("unicode/utf8.first", laid_unicode_utf8_first)] }
def DifferGoneSaid : Prop := differGoneRow.holds Tryz.pinned (OpenSpec.ofChange differGoneSpec)

/-- ITS FALSE NEIGHBOUR: 'it returns false'. Refute it at one input. -/
def differGoneWrong : ChangeSpec := { name := "differGone", fn := fun _ => fun
  | [d1, d2, d3] => { results := [.lit (.bool false)], args := [d1, d2, d3] }
  | _ => none }
def DifferGoneWrongFalsely : Prop := differGoneRow.holds Tryz.pinned (OpenSpec.ofChange differGoneWrong)

/-- 'revetmentkeep.DifferAll': WHATEVER THE INPUT: true; the input reads as it did. -/
def differAllSpec : ChangeSpec := { name := "differAll", fn := fun _ => fun
  | [d1, d2] => { results := [.lit (.bool true)], args := [d1, d2] }
  | _ => none }
def differAllRow : OpenClaim := { program := "ytipajekehbpghaagreatdoor", sum := "215c3480458aa0dcb022ce9173c3a1b76b70677808f133aed42ed18705cbc967", func := "revetment/revetmentkeep.DifferAll", spec := "differAll", inPlace := ["maps.clone", "internal/bytealg.IndexByteString", "internal/bytealg.CountString", "internal/bytealg.IndexString", "internal/abi.NoEscape", "internal/bytealg.MakeNoZero"], unfollowed := true, recurses := true, named := ["unicode/utf8.first", "unicode/utf8.acceptRanges", "internal/bytealg.MaxLen"], apart := false, laid := [("unicode/utf8.acceptRanges", laid_unicode_utf8_acceptRanges), ("unicode/utf8.first", laid_unicode_utf8_first)] }
def DifferAllSaid : Prop := differAllRow.holds Tryz.pinned (OpenSpec.ofChange differAllSpec)

/-- ITS FALSE NEIGHBOUR: 'it returns false'. Refute it at one input. -/
def differAllWrong : ChangeSpec := { name := "differAll", fn := fun _ => fun
  | [d1, d2] => { results := [.lit (.bool false)], args := [d1, d2] }
  | _ => none }
def DifferAllWrongFalsely : Prop := differAllRow.holds Tryz.pinned (OpenSpec.ofChange differAllWrong)

/-- 'revetmentkeep.PackHoles': WHATEVER THE INPUT: true; the input reads as it did. -/
def packHolesSpec : ChangeSpec := { name := "packHoles", fn := fun _ => fun
  | [d] => { results := [.lit (.bool true)], args := [d] }
  | _ => none }
def packHolesRow : OpenClaim := { program := "ytipajekehbpghaagreatdoor", sum := "215c3480458aa0dcb022ce9173c3a1b76b70677808f133aed42ed18705cbc967", func := "revetment/revetmentkeep.PackHoles", spec := "packHoles", inPlace := ["maps.clone", "internal/bytealg.IndexByteString", "internal/bytealg.CountString", "internal/bytealg.IndexString", "internal/abi.NoEscape", "internal/bytealg.MakeNoZero", "internal/reflectlite.ValueOf", "(internal/reflectlite.Value).Type", "(internal/reflectlite.Value).IsNil", "internal/reflectlite.TypeOf", "(internal/reflectlite.Value).Elem", "(internal/reflectlite.Value).Set"], unfollowed := true, recurses := true, named := ["unicode/utf8.first", "unicode/utf8.acceptRanges", "internal/bytealg.MaxLen", "errors.errorType"], apart := false, laid := [("unicode/utf8.acceptRanges", laid_unicode_utf8_acceptRanges), ("errors.errorType", laid_errors_errorType), ("unicode/utf8.first", laid_unicode_utf8_first)] }
def PackHolesSaid : Prop := packHolesRow.holds Tryz.pinned (OpenSpec.ofChange packHolesSpec)

/-- ITS FALSE NEIGHBOUR: 'it returns false'. Refute it at one input. -/
def packHolesWrong : ChangeSpec := { name := "packHoles", fn := fun _ => fun
  | [d] => { results := [.lit (.bool false)], args := [d] }
  | _ => none }
def PackHolesWrongFalsely : Prop := packHolesRow.holds Tryz.pinned (OpenSpec.ofChange packHolesWrong)

/-- 'revetmentkeep.PackBack': WHATEVER THE INPUT: true; the input reads as it did. -/
def packBackSpec : ChangeSpec := { name := "packBack", fn := fun _ => fun
  | [d1, d2] => { results := [.lit (.bool true)], args := [d1, d2] }
  | _ => none }
def packBackRow : OpenClaim := { program := "ytipajekehbpghaagreatdoor", sum := "215c3480458aa0dcb022ce9173c3a1b76b70677808f133aed42ed18705cbc967", func := "revetment/revetmentkeep.PackBack", spec := "packBack", inPlace := ["maps.clone", "internal/bytealg.IndexByteString", "internal/bytealg.CountString", "internal/bytealg.IndexString", "internal/abi.NoEscape", "internal/bytealg.MakeNoZero", "internal/reflectlite.ValueOf", "(internal/reflectlite.Value).Type", "(internal/reflectlite.Value).IsNil", "internal/reflectlite.TypeOf", "(internal/reflectlite.Value).Elem", "(internal/reflectlite.Value).Set"], unfollowed := true, recurses := true, named := ["unicode/utf8.first", "unicode/utf8.acceptRanges", "internal/bytealg.MaxLen", "errors.errorType"], apart := false, laid := [("unicode/utf8.acceptRanges", laid_unicode_utf8_acceptRanges), ("errors.errorType", laid_errors_errorType), ("unicode/utf8.first", laid_unicode_utf8_first)] }
def PackBackSaid : Prop := packBackRow.holds Tryz.pinned (OpenSpec.ofChange packBackSpec)

/-- ITS FALSE NEIGHBOUR: 'it returns false'. Refute it at one input. -/
def packBackWrong : ChangeSpec := { name := "packBack", fn := fun _ => fun
  | [d1, d2] => { results := [.lit (.bool false)], args := [d1, d2] }
  | _ => none }
def PackBackWrongFalsely : Prop := packBackRow.holds Tryz.pinned (OpenSpec.ofChange packBackWrong)

/-- 'revetmentkeep.PackSafe': WHATEVER THE INPUT: true; the input reads as it did. -/
def packSafeSpec : ChangeSpec := { name := "packSafe", fn := fun _ => fun
  | [d1, d2, d3] => { results := [.lit (.bool true)], args := [d1, d2, d3] }
  | _ => none }
def packSafeRow : OpenClaim := { program := "ytipajekehbpghaagreatdoor", sum := "215c3480458aa0dcb022ce9173c3a1b76b70677808f133aed42ed18705cbc967", func := "revetment/revetmentkeep.PackSafe", spec := "packSafe", inPlace := ["maps.clone", "internal/bytealg.IndexByteString", "internal/bytealg.CountString", "internal/bytealg.IndexString", "internal/abi.NoEscape", "internal/bytealg.MakeNoZero", "internal/reflectlite.ValueOf", "(internal/reflectlite.Value).Type", "(internal/reflectlite.Value).IsNil", "internal/reflectlite.TypeOf", "(internal/reflectlite.Value).Elem", "(internal/reflectlite.Value).Set"], unfollowed := true, recurses := true, named := ["unicode/utf8.first", "unicode/utf8.acceptRanges", "internal/bytealg.MaxLen", "errors.errorType"], apart := false, laid := [("unicode/utf8.acceptRanges", laid_unicode_utf8_acceptRanges), ("errors.errorType", laid_errors_errorType), ("unicode/utf8.first", laid_unicode_utf8_first)] }
def PackSafeSaid : Prop := packSafeRow.holds Tryz.pinned (OpenSpec.ofChange packSafeSpec)

/-- ITS FALSE NEIGHBOUR: 'it returns false'. Refute it at one input. -/
def packSafeWrong : ChangeSpec := { name := "packSafe", fn := fun _ => fun
  | [d1, d2, d3] => { results := [.lit (.bool false)], args := [d1, d2, d3] }
  | _ => none }
def PackSafeWrongFalsely : Prop := packSafeRow.holds Tryz.pinned (OpenSpec.ofChange packSafeWrong)

/- THE SECOND FORM. 'bulk': how many values and letters a reading holds, each counted each time it is reached (what is shared counts as often as it is met; a slice's spare places count too). A statement '..UptoSaid' is the law's where the arguments, and the package variables that the reading takes, are together of bulk at most 1048576: NARROWER than '..Said'. Prove '..Said' where nothing that the law and all that it calls make is longer than what came in: it says more and counts as full. Else prove '..UptoSaid'. A law counts once. -/
mutual
def uptoBulk {H : Type} : DataW H → Nat
  | .lit (.string bytes) => bytes.length + 1
  | .lit _ => 1
  | .nil => 1
  | .ptr d => uptoBulk d + 1
  | .slice elems spare => uptoBulkAll elems + uptoBulkAll spare + 1
  | .agg parts => uptoBulkAll parts + 1
  | .iface _ d => uptoBulk d + 1
  | .map entries => uptoBulkEntries entries + 1
  | .held _ => 1
def uptoBulkAll {H : Type} : List (DataW H) → Nat
  | [] => 0
  | d :: r => uptoBulk d + uptoBulkAll r
def uptoBulkEntries {H : Type} : List (Lit × DataW H) → Nat
  | [] => 0
  | x :: r => uptoBulkEntry x + uptoBulkEntries r
def uptoBulkEntry {H : Type} : Lit × DataW H → Nat
  | (.string bytes, d) => bytes.length + uptoBulk d + 1
  | (_, d) => uptoBulk d + 1
 end
def uptoSmall : (H : Type) → List (DataW H) → Bool := fun _ ds => decide (uptoBulkAll ds ≤ 1048576)
def OpenSpec.upto (s : _root_.Go.ChangeSpec) : _root_.Go.OpenSpec := { _root_.Go.OpenSpec.ofChange s with cond := some uptoSmall }

/-- 'revetmentkeep.PackNames', WHERE WHAT IT READS IS OF BULK AT MOST 1048576: true; the input reads as it did. -/
def packNamesUptoRow : OpenClaim := { program := "ytipajekehbpghaagreatdoor", sum := "215c3480458aa0dcb022ce9173c3a1b76b70677808f133aed42ed18705cbc967", func := "revetment/revetmentkeep.PackNames", spec := "packNames", inPlace := ["maps.clone", "internal/bytealg.IndexByteString", "internal/bytealg.CountString", "internal/bytealg.IndexString", "internal/abi.NoEscape", "internal/bytealg.MakeNoZero"], unfollowed := true, recurses := true, named := ["unicode/utf8.first", "unicode/utf8.acceptRanges", "internal/bytealg.MaxLen"], apart := false, laid := [("unicode/utf8.acceptRanges", laid_unicode_utf8_acceptRanges), ("unicode/utf8.first", laid_unicode_utf8_first)], narrowed := true }
def PackNamesUptoSaid : Prop := packNamesUptoRow.holds Tryz.pinned (OpenSpec.upto packNamesSpec)

/-- 'revetmentkeep.PackTwo', WHERE WHAT IT READS IS OF BULK AT MOST 1048576: true; the input reads as it did. -/
def packTwoUptoRow : OpenClaim := { program := "ytipajekehbpghaagreatdoor", sum := "215c3480458aa0dcb022ce9173c3a1b76b70677808f133aed42ed18705cbc967", func := "revetment/revetmentkeep.PackTwo", spec := "packTwo", inPlace := ["maps.clone", "internal/bytealg.IndexByteString", "internal/bytealg.CountString", "internal/bytealg.IndexString", "internal/abi.NoEscape", "internal/bytealg.MakeNoZero"], unfollowed := true, recurses := true, named := ["unicode/utf8.first", "unicode/utf8.acceptRanges", "internal/bytealg.MaxLen"], apart := false, laid := [("unicode/utf8.acceptRanges", laid_unicode_utf8_acceptRanges), ("unicode/utf8.first", laid_unicode_utf8_first)], narrowed := true }
def PackTwoUptoSaid : Prop := packTwoUptoRow.holds Tryz.pinned (OpenSpec.upto packTwoSpec)

/-- 'revetmentkeep.DifferOne', WHERE WHAT IT READS IS OF BULK AT MOST 1048576: true; the input reads as it did. -/
def differOneUptoRow : OpenClaim := { program := "ytipajekehbpghaagreatdoor", sum := "215c3480458aa0dcb022ce9173c3a1b76b70677808f133aed42ed18705cbc967", func := "revetment/revetmentkeep.DifferOne", spec := "differOne", inPlace := ["maps.clone", "internal/bytealg.IndexByteString", "internal/bytealg.CountString", "internal/bytealg.IndexString", "internal/abi.NoEscape", "internal/bytealg.MakeNoZero"], unfollowed := true, recurses := true, named := ["unicode/utf8.first", "unicode/utf8.acceptRanges", "internal/bytealg.MaxLen"], apart := false, laid := [("unicode/utf8.acceptRanges", laid_unicode_utf8_acceptRanges), ("unicode/utf8.first", laid_unicode_utf8_first)], narrowed := true }
def DifferOneUptoSaid : Prop := differOneUptoRow.holds Tryz.pinned (OpenSpec.upto differOneSpec)

/-- 'revetmentkeep.SinceFew', WHERE WHAT IT READS IS OF BULK AT MOST 1048576: true; the input reads as it did. -/
def sinceFewUptoRow : OpenClaim := { program := "ytipajekehbpghaagreatdoor", sum := "215c3480458aa0dcb022ce9173c3a1b76b70677808f133aed42ed18705cbc967", func := "revetment/revetmentkeep.SinceFew", spec := "sinceFew", inPlace := ["internal/bytealg.IndexByteString", "internal/bytealg.CountString", "internal/bytealg.IndexString", "internal/abi.NoEscape", "internal/bytealg.MakeNoZero", "maps.clone"], unfollowed := true, recurses := true, named := ["unicode/utf8.first", "unicode/utf8.acceptRanges", "internal/bytealg.MaxLen"], apart := false, laid := [("unicode/utf8.acceptRanges", laid_unicode_utf8_acceptRanges), ("unicode/utf8.first", laid_unicode_utf8_first)], narrowed := true }
def SinceFewUptoSaid : Prop := sinceFewUptoRow.holds Tryz.pinned (OpenSpec.upto sinceFewSpec)

/-- 'revetmentkeep.SinceNothing', WHERE WHAT IT READS IS OF BULK AT MOST 1048576: true; the input reads as it did. -/
def sinceNothingUptoRow : OpenClaim := { program := "ytipajekehbpghaagreatdoor", sum := "215c3480458aa0dcb022ce9173c3a1b76b70677808f133aed42ed18705cbc967", func := "revetment/revetmentkeep.SinceNothing", spec := "sinceNothing", inPlace := ["internal/bytealg.IndexByteString", "internal/bytealg.CountString", "internal/bytealg.IndexString", "internal/abi.NoEscape", "internal/bytealg.MakeNoZero", "maps.clone"], unfollowed := true, recurses := true, named := ["unicode/utf8.first", "unicode/utf8.acceptRanges", "internal/bytealg.MaxLen"], apart := false, laid := [("unicode/utf8.acceptRanges", laid_unicode_utf8_acceptRanges), ("unicode/utf8.first", laid_unicode_utf8_first)], narrowed := true }
def SinceNothingUptoSaid : Prop := sinceNothingUptoRow.holds Tryz.pinned (OpenSpec.upto sinceNothingSpec)

/-- 'revetmentkeep.DifferNone', WHERE WHAT IT READS IS OF BULK AT MOST 1048576: true; the input reads as it did. -/
def differNoneUptoRow : OpenClaim := { program := "ytipajekehbpghaagreatdoor", sum := "215c3480458aa0dcb022ce9173c3a1b76b70677808f133aed42ed18705cbc967", func := "revetment/revetmentkeep.DifferNone", spec := "differNone", inPlace := ["maps.clone", "internal/bytealg.IndexByteString", "internal/bytealg.CountString", "internal/bytealg.IndexString", "internal/abi.NoEscape", "internal/bytealg.MakeNoZero"], unfollowed := true, recurses := true, named := ["unicode/utf8.first", "unicode/utf8.acceptRanges", "internal/bytealg.MaxLen"], apart := false, laid := [("unicode/utf8.acceptRanges", laid_unicode_utf8_acceptRanges), ("unicode/utf8.first", laid_unicode_utf8_first)], narrowed := true }
def DifferNoneUptoSaid : Prop := differNoneUptoRow.holds Tryz.pinned (OpenSpec.upto differNoneSpec)

/-- 'revetmentkeep.DifferGone', WHERE WHAT IT READS IS OF BULK AT MOST 1048576: true; the input reads as it did. -/
def differGoneUptoRow : OpenClaim := { program := "ytipajekehbpghaagreatdoor", sum := "215c3480458aa0dcb022ce9173c3a1b76b70677808f133aed42ed18705cbc967", func := "revetment/revetmentkeep.DifferGone", spec := "differGone", inPlace := ["maps.clone", "internal/bytealg.IndexByteString", "internal/bytealg.CountString", "internal/bytealg.IndexString", "internal/abi.NoEscape", "internal/bytealg.MakeNoZero"], unfollowed := true, recurses := true, named := ["unicode/utf8.first", "unicode/utf8.acceptRanges", "internal/bytealg.MaxLen"], apart := false, laid := [("unicode/utf8.acceptRanges", laid_unicode_utf8_acceptRanges), ("unicode/utf8.first", laid_unicode_utf8_first)], narrowed := true }
def DifferGoneUptoSaid : Prop := differGoneUptoRow.holds Tryz.pinned (OpenSpec.upto differGoneSpec)

/-- 'revetmentkeep.DifferAll', WHERE WHAT IT READS IS OF BULK AT MOST 1048576: true; the input reads as it did. -/
def differAllUptoRow : OpenClaim := { program := "ytipajekehbpghaagreatdoor", sum := "215c3480458aa0dcb022ce9173c3a1b76b70677808f133aed42ed18705cbc967", func := "revetment/revetmentkeep.DifferAll", spec := "differAll", inPlace := ["maps.clone", "internal/bytealg.IndexByteString", "internal/bytealg.CountString", "internal/bytealg.IndexString", "internal/abi.NoEscape", "internal/bytealg.MakeNoZero"], unfollowed := true, recurses := true, named := ["unicode/utf8.first", "unicode/utf8.acceptRanges", "internal/bytealg.MaxLen"], apart := false, laid := [("unicode/utf8.acceptRanges", laid_unicode_utf8_acceptRanges), ("unicode/utf8.first", laid_unicode_utf8_first)], narrowed := true }
def DifferAllUptoSaid : Prop := differAllUptoRow.holds Tryz.pinned (OpenSpec.upto differAllSpec)

/-- 'revetmentkeep.PackHoles', WHERE WHAT IT READS IS OF BULK AT MOST 1048576: true; the input reads as it did. -/
def packHolesUptoRow : OpenClaim := { program := "ytipajekehbpghaagreatdoor", sum := "215c3480458aa0dcb022ce9173c3a1b76b70677808f133aed42ed18705cbc967", func := "revetment/revetmentkeep.PackHoles", spec := "packHoles", inPlace := ["maps.clone", "internal/bytealg.IndexByteString", "internal/bytealg.CountString", "internal/bytealg.IndexString", "internal/abi.NoEscape", "internal/bytealg.MakeNoZero", "internal/reflectlite.ValueOf", "(internal/reflectlite.Value).Type", "(internal/reflectlite.Value).IsNil", "internal/reflectlite.TypeOf", "(internal/reflectlite.Value).Elem", "(internal/reflectlite.Value).Set"], unfollowed := true, recurses := true, named := ["unicode/utf8.first", "unicode/utf8.acceptRanges", "internal/bytealg.MaxLen", "errors.errorType"], apart := false, laid := [("unicode/utf8.acceptRanges", laid_unicode_utf8_acceptRanges), ("errors.errorType", laid_errors_errorType), ("unicode/utf8.first", laid_unicode_utf8_first)], narrowed := true }
def PackHolesUptoSaid : Prop := packHolesUptoRow.holds Tryz.pinned (OpenSpec.upto packHolesSpec)

/-- 'revetmentkeep.PackBack', WHERE WHAT IT READS IS OF BULK AT MOST 1048576: true; the input reads as it did. -/
def packBackUptoRow : OpenClaim := { program := "ytipajekehbpghaagreatdoor", sum := "215c3480458aa0dcb022ce9173c3a1b76b70677808f133aed42ed18705cbc967", func := "revetment/revetmentkeep.PackBack", spec := "packBack", inPlace := ["maps.clone", "internal/bytealg.IndexByteString", "internal/bytealg.CountString", "internal/bytealg.IndexString", "internal/abi.NoEscape", "internal/bytealg.MakeNoZero", "internal/reflectlite.ValueOf", "(internal/reflectlite.Value).Type", "(internal/reflectlite.Value).IsNil", "internal/reflectlite.TypeOf", "(internal/reflectlite.Value).Elem", "(internal/reflectlite.Value).Set"], unfollowed := true, recurses := true, named := ["unicode/utf8.first", "unicode/utf8.acceptRanges", "internal/bytealg.MaxLen", "errors.errorType"], apart := false, laid := [("unicode/utf8.acceptRanges", laid_unicode_utf8_acceptRanges), ("errors.errorType", laid_errors_errorType), ("unicode/utf8.first", laid_unicode_utf8_first)], narrowed := true }
def PackBackUptoSaid : Prop := packBackUptoRow.holds Tryz.pinned (OpenSpec.upto packBackSpec)

/-- 'revetmentkeep.PackSafe', WHERE WHAT IT READS IS OF BULK AT MOST 1048576: true; the input reads as it did. -/
def packSafeUptoRow : OpenClaim := { program := "ytipajekehbpghaagreatdoor", sum := "215c3480458aa0dcb022ce9173c3a1b76b70677808f133aed42ed18705cbc967", func := "revetment/revetmentkeep.PackSafe", spec := "packSafe", inPlace := ["maps.clone", "internal/bytealg.IndexByteString", "internal/bytealg.CountString", "internal/bytealg.IndexString", "internal/abi.NoEscape", "internal/bytealg.MakeNoZero", "internal/reflectlite.ValueOf", "(internal/reflectlite.Value).Type", "(internal/reflectlite.Value).IsNil", "internal/reflectlite.TypeOf", "(internal/reflectlite.Value).Elem", "(internal/reflectlite.Value).Set"], unfollowed := true, recurses := true, named := ["unicode/utf8.first", "unicode/utf8.acceptRanges", "internal/bytealg.MaxLen", "errors.errorType"], apart := false, laid := [("unicode/utf8.acceptRanges", laid_unicode_utf8_acceptRanges), ("errors.errorType", laid_errors_errorType), ("unicode/utf8.first", laid_unicode_utf8_first)], narrowed := true }
def PackSafeUptoSaid : Prop := packSafeUptoRow.holds Tryz.pinned (OpenSpec.upto packSafeSpec)

end Rows
end Go.Proofs.YtipajekehbpghaaGreatDoor
