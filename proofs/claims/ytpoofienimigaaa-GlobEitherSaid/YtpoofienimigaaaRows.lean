/-
  No cell of these rows narrows 'for every input' (looked for: loops, veiled, ifaces, maps, wideKeys, modest, calm, conditions, laid).
  DERIVED. THE GIVEN ROWS OF THIS SEAT. 5 by the template 'for every input the law returns true; each argument reads behind the call as it read before'; 0 by the template 'total and deterministic' (their statements: YtpoofienimigaaaTotals.lean).
  GIVEN WITH THE SEED: the statements are not yours to turn. If you find one false, say at which input.
  Laid BY PROGRAM, IN A SANDBOX (cutbox-rows.mjs): the forced cells as the released guide's own fill.sh prints them over the translation 3565cba5bd445b37… (all of the seat's roots in one cut). By AI agents, Wed Nov 11 2026. No macro, syntax, notation, axiom, sorry.
-/
import Derived.Test.YtpoofienimigaaaChecked
import GoSem.Claim
import GoSem.ClaimJoined
import GoSem.ClaimMapViews
import Derived.JoinedTies
import Derived.KernelRfl
namespace Go.Proofs.Ytpoofienimigaaa
/- THE CELL 'sum', in the pinned program and in every row, IS THE sha256 OF THE DUMP (.gsa) THAT YtpoofienimigaaaProg.lean LOADS. Nothing in Lean hashes anything: it is a label: what it is worth is what the hold of that sum in a sandbox is worth. -/
noncomputable def Try.pinned : Pinned := { name := "ytpoofienimigaaa", sum := "3565cba5bd445b373854b95e69ca3724830b1151207062bb7b68bddf1b34b8ce", checked := Try.checked }
namespace Rows
def none {H : Type} : Left H := { results := [], args := [] }

/-- 'revetmentkeep.GlobQuote': WHATEVER THE INPUT: true; the input reads as it did. -/
def globQuoteSpec : ChangeSpec := { name := "globQuote", fn := fun _ => fun
  | [d1, d2] => { results := [.lit (.bool true)], args := [d1, d2] }
  | _ => none }
def globQuoteRow : OpenClaim := { program := "ytpoofienimigaaa", sum := "3565cba5bd445b373854b95e69ca3724830b1151207062bb7b68bddf1b34b8ce", func := "revetment/revetmentkeep.GlobQuote", spec := "globQuote", inPlace := ["internal/bytealg.IndexByteString", "internal/abi.NoEscape"], apart := false }
def GlobQuoteSaid : Prop := globQuoteRow.holds Try.pinned (OpenSpec.ofChange globQuoteSpec)

/-- ITS FALSE NEIGHBOUR: 'it returns false'. Refute it at one input. -/
def globQuoteWrong : ChangeSpec := { name := "globQuote", fn := fun _ => fun
  | [d1, d2] => { results := [.lit (.bool false)], args := [d1, d2] }
  | _ => none }
def GlobQuoteWrongFalsely : Prop := globQuoteRow.holds Try.pinned (OpenSpec.ofChange globQuoteWrong)

/-- 'revetmentkeep.GlobWide': WHATEVER THE INPUT: true; the input reads as it did. -/
def globWideSpec : ChangeSpec := { name := "globWide", fn := fun _ => fun
  | [d1, d2] => { results := [.lit (.bool true)], args := [d1, d2] }
  | _ => none }
def globWideRow : OpenClaim := { program := "ytpoofienimigaaa", sum := "3565cba5bd445b373854b95e69ca3724830b1151207062bb7b68bddf1b34b8ce", func := "revetment/revetmentkeep.GlobWide", spec := "globWide", inPlace := ["internal/bytealg.IndexByteString", "internal/abi.NoEscape"], apart := false }
def GlobWideSaid : Prop := globWideRow.holds Try.pinned (OpenSpec.ofChange globWideSpec)

/-- ITS FALSE NEIGHBOUR: 'it returns false'. Refute it at one input. -/
def globWideWrong : ChangeSpec := { name := "globWide", fn := fun _ => fun
  | [d1, d2] => { results := [.lit (.bool false)], args := [d1, d2] }
  | _ => none }
def GlobWideWrongFalsely : Prop := globWideRow.holds Try.pinned (OpenSpec.ofChange globWideWrong)

/-- 'revetmentkeep.GlobPieces': WHATEVER THE INPUT: true; the input reads as it did. -/
def globPiecesSpec : ChangeSpec := { name := "globPieces", fn := fun _ => fun
  | [d1, d2, d3, d4] => { results := [.lit (.bool true)], args := [d1, d2, d3, d4] }
  | _ => none }
def globPiecesRow : OpenClaim := { program := "ytpoofienimigaaa", sum := "3565cba5bd445b373854b95e69ca3724830b1151207062bb7b68bddf1b34b8ce", func := "revetment/revetmentkeep.GlobPieces", spec := "globPieces", inPlace := ["internal/bytealg.IndexByteString", "internal/bytealg.IndexString"], named := ["internal/bytealg.MaxLen"], apart := false }
def GlobPiecesSaid : Prop := globPiecesRow.holds Try.pinned (OpenSpec.ofChange globPiecesSpec)

/-- ITS FALSE NEIGHBOUR: 'it returns false'. Refute it at one input. -/
def globPiecesWrong : ChangeSpec := { name := "globPieces", fn := fun _ => fun
  | [d1, d2, d3, d4] => { results := [.lit (.bool false)], args := [d1, d2, d3, d4] }
  | _ => none }
def GlobPiecesWrongFalsely : Prop := globPiecesRow.holds Try.pinned (OpenSpec.ofChange globPiecesWrong)

/-- 'revetmentkeep.GlobEither': WHATEVER THE INPUT: true; the input reads as it did. -/
def globEitherSpec : ChangeSpec := { name := "globEither", fn := fun _ => fun
  | [d1, d2] => { results := [.lit (.bool true)], args := [d1, d2] }
  | _ => none }
def globEitherRow : OpenClaim := { program := "ytpoofienimigaaa", sum := "3565cba5bd445b373854b95e69ca3724830b1151207062bb7b68bddf1b34b8ce", func := "revetment/revetmentkeep.GlobEither", spec := "globEither", inPlace := ["internal/bytealg.IndexByteString", "internal/bytealg.IndexString"], named := ["internal/bytealg.MaxLen"], apart := false }
def GlobEitherSaid : Prop := globEitherRow.holds Try.pinned (OpenSpec.ofChange globEitherSpec)

/-- ITS FALSE NEIGHBOUR: 'it returns false'. Refute it at one input. -/
def globEitherWrong : ChangeSpec := { name := "globEither", fn := fun _ => fun
  | [d1, d2] => { results := [.lit (.bool false)], args := [d1, d2] }
  | _ => none }
def GlobEitherWrongFalsely : Prop := globEitherRow.holds Try.pinned (OpenSpec.ofChange globEitherWrong)

/-- 'revetmentkeep.GlobMany': WHATEVER THE INPUT: true; the input reads as it did. -/
def globManySpec : ChangeSpec := { name := "globMany", fn := fun _ => fun
  | [d1, d2] => { results := [.lit (.bool true)], args := [d1, d2] }
  | _ => none }
def globManyRow : OpenClaim := { program := "ytpoofienimigaaa", sum := "3565cba5bd445b373854b95e69ca3724830b1151207062bb7b68bddf1b34b8ce", func := "revetment/revetmentkeep.GlobMany", spec := "globMany", inPlace := ["internal/abi.NoEscape", "internal/bytealg.MakeNoZero", "internal/bytealg.IndexByteString", "internal/bytealg.IndexString"], named := ["internal/bytealg.MaxLen"], apart := false }
def GlobManySaid : Prop := globManyRow.holds Try.pinned (OpenSpec.ofChange globManySpec)

/-- ITS FALSE NEIGHBOUR: 'it returns false'. Refute it at one input. -/
def globManyWrong : ChangeSpec := { name := "globMany", fn := fun _ => fun
  | [d1, d2] => { results := [.lit (.bool false)], args := [d1, d2] }
  | _ => none }
def GlobManyWrongFalsely : Prop := globManyRow.holds Try.pinned (OpenSpec.ofChange globManyWrong)

/- THE SECOND FORM. 'bulk': how many values and letters a reading holds, each counted each time it is reached (what is shared counts as often as it is met; a slice's spare places count too). A statement '..UptoSaid' is the law's where the arguments, and the package variables that the reading takes, are together of bulk at most 1048576: NARROWER than '..Said'. Prove '..Said' where nothing that the law and all that it calls make is longer than what came in: it says more and counts as full. Else prove '..UptoSaid'. A law counts once. -/
mutual
def uptoBulk {H : Type} : DataW H → Nat
  | .lit (.string bytes) => bytes.length + 1
  | .lit _ => 1
  | .nil => 1
  | .ptr d => uptoBulk d + 1
  | .slice elems spare => uptoBulkAll elems + uptoBulkAll spare + 1
  | .agg parts => uptoBulkAll parts + 1
  | .iface _ d => uptoBulk d + 1
  | .map entries => uptoBulkEntries entries + 1
  | .held _ => 1
def uptoBulkAll {H : Type} : List (DataW H) → Nat
  | [] => 0
  | d :: r => uptoBulk d + uptoBulkAll r
def uptoBulkEntries {H : Type} : List (Lit × DataW H) → Nat
  | [] => 0
  | x :: r => uptoBulkEntry x + uptoBulkEntries r
def uptoBulkEntry {H : Type} : Lit × DataW H → Nat
  | (.string bytes, d) => bytes.length + uptoBulk d + 1
  | (_, d) => uptoBulk d + 1
 end
def uptoSmall : (H : Type) → List (DataW H) → Bool := fun _ ds => decide (uptoBulkAll ds ≤ 1048576)
def OpenSpec.upto (s : _root_.Go.ChangeSpec) : _root_.Go.OpenSpec := { _root_.Go.OpenSpec.ofChange s with cond := some uptoSmall }

/-- 'revetmentkeep.GlobQuote', WHERE WHAT IT READS IS OF BULK AT MOST 1048576: true; the input reads as it did. -/
def globQuoteUptoRow : OpenClaim := { program := "ytpoofienimigaaa", sum := "3565cba5bd445b373854b95e69ca3724830b1151207062bb7b68bddf1b34b8ce", func := "revetment/revetmentkeep.GlobQuote", spec := "globQuote", inPlace := ["internal/bytealg.IndexByteString", "internal/abi.NoEscape"], apart := false, narrowed := true }
def GlobQuoteUptoSaid : Prop := globQuoteUptoRow.holds Try.pinned (OpenSpec.upto globQuoteSpec)

/-- 'revetmentkeep.GlobWide', WHERE WHAT IT READS IS OF BULK AT MOST 1048576: true; the input reads as it did. -/
def globWideUptoRow : OpenClaim := { program := "ytpoofienimigaaa", sum := "3565cba5bd445b373854b95e69ca3724830b1151207062bb7b68bddf1b34b8ce", func := "revetment/revetmentkeep.GlobWide", spec := "globWide", inPlace := ["internal/bytealg.IndexByteString", "internal/abi.NoEscape"], apart := false, narrowed := true }
def GlobWideUptoSaid : Prop := globWideUptoRow.holds Try.pinned (OpenSpec.upto globWideSpec)

/-- 'revetmentkeep.GlobPieces', WHERE WHAT IT READS IS OF BULK AT MOST 1048576: true; the input reads as it did. -/
def globPiecesUptoRow : OpenClaim := { program := "ytpoofienimigaaa", sum := "3565cba5bd445b373854b95e69ca3724830b1151207062bb7b68bddf1b34b8ce", func := "revetment/revetmentkeep.GlobPieces", spec := "globPieces", inPlace := ["internal/bytealg.IndexByteString", "internal/bytealg.IndexString"], named := ["internal/bytealg.MaxLen"], apart := false, narrowed := true }
def GlobPiecesUptoSaid : Prop := globPiecesUptoRow.holds Try.pinned (OpenSpec.upto globPiecesSpec)

/-- 'revetmentkeep.GlobEither', WHERE WHAT IT READS IS OF BULK AT MOST 1048576: true; the input reads as it did. -/
def globEitherUptoRow : OpenClaim := { program := "ytpoofienimigaaa", sum := "3565cba5bd445b373854b95e69ca3724830b1151207062bb7b68bddf1b34b8ce", func := "revetment/revetmentkeep.GlobEither", spec := "globEither", inPlace := ["internal/bytealg.IndexByteString", "internal/bytealg.IndexString"], named := ["internal/bytealg.MaxLen"], apart := false, narrowed := true }
def GlobEitherUptoSaid : Prop := globEitherUptoRow.holds Try.pinned (OpenSpec.upto globEitherSpec)

/-- 'revetmentkeep.GlobMany', WHERE WHAT IT READS IS OF BULK AT MOST 1048576: true; the input reads as it did. -/
def globManyUptoRow : OpenClaim := { program := "ytpoofienimigaaa", sum := "3565cba5bd445b373854b95e69ca3724830b1151207062bb7b68bddf1b34b8ce", func := "revetment/revetmentkeep.GlobMany", spec := "globMany", inPlace := ["internal/abi.NoEscape", "internal/bytealg.MakeNoZero", "internal/bytealg.IndexByteString", "internal/bytealg.IndexString"], named := ["internal/bytealg.MaxLen"], apart := false, narrowed := true }
def GlobManyUptoSaid : Prop := globManyUptoRow.holds Try.pinned (OpenSpec.upto globManySpec)

end Rows
end Go.Proofs.Ytpoofienimigaaa
