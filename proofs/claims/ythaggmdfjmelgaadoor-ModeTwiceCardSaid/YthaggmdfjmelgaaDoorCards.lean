/-
  DERIVED. GIVEN WITH THE SEED: THE CARDS: each row of YthaggmdfjmelgaaDoorRows.lean that lists a variable, with what it lists TIED to the program's text (the seventh form; the later family's looks); each row that meets fmt, with fmt's text TOLD by the authors' own Lean function (tested against real Go, not proved from fmt's source: count such statements apart). THE CARD IS WHAT COUNTS. Prove the row's statement (the work); the ties are given (YthaggmdfjmelgaaDoorTie.lean); close each card by the builder's one call (the guide's Derived/Test/ToyasCard.lean, 'card_holds'). Laid BY PROGRAM, IN A SANDBOX (cutbox-door.mjs). By AI agents, Wed Nov 11 2026. No macro, syntax, notation, axiom, sorry.
-/
import Derived.Test.YthaggmdfjmelgaaDoorRows
import GoSem.ClaimSeven
namespace Go.Proofs.YthaggmdfjmelgaaDoor
namespace Rows

/-- THE TIED CARD OF 'revetmentkeep.ModeBack'. -/
def modeBackCard : Claim7 := { stood := { row := modeBackRow, standIns := [], harness := (true, "ccec668400fd4fb5c7ba088af913a6f50fa65253d1a3bb0c3385faa0f6b1e0aa"), looks := true }, kinds := [], alts := [], laidByText := true, laidKinds := [.data, .pinned], laidTests := true, laidLooks := .later }
def ModeBackCardSaid : Prop := Claim7.holds Tryd.pinned (.plain (OpenSpec.ofChange modeBackSpec)) modeBackCard

/-- THE TIED CARD OF 'revetmentkeep.ModeTurns'. -/
def modeTurnsCard : Claim7 := { stood := { row := modeTurnsRow, standIns := [], harness := (true, "ccec668400fd4fb5c7ba088af913a6f50fa65253d1a3bb0c3385faa0f6b1e0aa"), looks := true }, kinds := [], alts := [], laidByText := true, laidKinds := [.data, .pinned], laidTests := true, laidLooks := .later }
def ModeTurnsCardSaid : Prop := Claim7.holds Tryd.pinned (.plain (OpenSpec.ofChange modeTurnsSpec)) modeTurnsCard

/-- THE TIED CARD OF 'revetmentkeep.ModeSets'. -/
def modeSetsCard : Claim7 := { stood := { row := modeSetsRow, standIns := [], harness := (true, "ccec668400fd4fb5c7ba088af913a6f50fa65253d1a3bb0c3385faa0f6b1e0aa"), looks := true }, kinds := [], alts := [], laidByText := true, laidKinds := [.data, .pinned], laidTests := true, laidLooks := .later }
def ModeSetsCardSaid : Prop := Claim7.holds Tryd.pinned (.plain (OpenSpec.ofChange modeSetsSpec)) modeSetsCard

/-- THE TIED CARD OF 'revetmentkeep.ModeTwice'. -/
def modeTwiceCard : Claim7 := { stood := { row := modeTwiceRow, standIns := [], harness := (true, "ccec668400fd4fb5c7ba088af913a6f50fa65253d1a3bb0c3385faa0f6b1e0aa"), looks := true }, kinds := [], alts := [], laidByText := true, laidKinds := [.data, .handle, .pinned], laidTests := true, laidLooks := .later }
def ModeTwiceCardSaid : Prop := Claim7.holds Tryd.pinned (.plain (OpenSpec.ofChange modeTwiceSpec)) modeTwiceCard

/-- THE SECOND FORM's CARD OF 'revetmentkeep.ModeBack'. -/
def modeBackUptoCard : Claim7 := { stood := { row := modeBackUptoRow, standIns := [], harness := (true, "ccec668400fd4fb5c7ba088af913a6f50fa65253d1a3bb0c3385faa0f6b1e0aa"), looks := true }, kinds := [], alts := [], laidByText := true, laidKinds := [.data, .pinned], laidTests := true, laidLooks := .later }
def ModeBackUptoCardSaid : Prop := Claim7.holds Tryd.pinned (.plain (OpenSpec.upto modeBackSpec)) modeBackUptoCard

/-- THE SECOND FORM's CARD OF 'revetmentkeep.ModeTurns'. -/
def modeTurnsUptoCard : Claim7 := { stood := { row := modeTurnsUptoRow, standIns := [], harness := (true, "ccec668400fd4fb5c7ba088af913a6f50fa65253d1a3bb0c3385faa0f6b1e0aa"), looks := true }, kinds := [], alts := [], laidByText := true, laidKinds := [.data, .pinned], laidTests := true, laidLooks := .later }
def ModeTurnsUptoCardSaid : Prop := Claim7.holds Tryd.pinned (.plain (OpenSpec.upto modeTurnsSpec)) modeTurnsUptoCard

/-- THE SECOND FORM's CARD OF 'revetmentkeep.ModeSets'. -/
def modeSetsUptoCard : Claim7 := { stood := { row := modeSetsUptoRow, standIns := [], harness := (true, "ccec668400fd4fb5c7ba088af913a6f50fa65253d1a3bb0c3385faa0f6b1e0aa"), looks := true }, kinds := [], alts := [], laidByText := true, laidKinds := [.data, .pinned], laidTests := true, laidLooks := .later }
def ModeSetsUptoCardSaid : Prop := Claim7.holds Tryd.pinned (.plain (OpenSpec.upto modeSetsSpec)) modeSetsUptoCard

/-- THE SECOND FORM's CARD OF 'revetmentkeep.ModeTwice'. -/
def modeTwiceUptoCard : Claim7 := { stood := { row := modeTwiceUptoRow, standIns := [], harness := (true, "ccec668400fd4fb5c7ba088af913a6f50fa65253d1a3bb0c3385faa0f6b1e0aa"), looks := true }, kinds := [], alts := [], laidByText := true, laidKinds := [.data, .handle, .pinned], laidTests := true, laidLooks := .later }
def ModeTwiceUptoCardSaid : Prop := Claim7.holds Tryd.pinned (.plain (OpenSpec.upto modeTwiceSpec)) modeTwiceUptoCard
end Rows
end Go.Proofs.YthaggmdfjmelgaaDoor
