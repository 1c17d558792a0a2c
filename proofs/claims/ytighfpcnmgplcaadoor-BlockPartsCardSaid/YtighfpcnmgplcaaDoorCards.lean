/-
  DERIVED. GIVEN WITH THE SEED: THE CARDS: each row of YtighfpcnmgplcaaDoorRows.lean that lists a variable, with what it lists TIED to the program's text (the seventh form; the later family's looks); each row that meets fmt, with fmt's text TOLD by the authors' own Lean function (tested against real Go, not proved from fmt's source: count such statements apart). THE CARD IS WHAT COUNTS. Prove the row's statement (the work); the ties are given (YtighfpcnmgplcaaDoorTie.lean); close each card by the builder's one call (the guide's Derived/Test/ToyasCard.lean, 'card_holds'). Laid BY PROGRAM, IN A SANDBOX (cutbox-door.mjs). By AI agents, Wed Nov 11 2026. No macro, syntax, notation, axiom, sorry.
-/
import Derived.Test.YtighfpcnmgplcaaDoorRows
import GoSem.ClaimSeven
namespace Go.Proofs.YtighfpcnmgplcaaDoor
namespace Rows

/-- THE TIED CARD OF 'revetmentkeep.BlockBent'. -/
def blockBentCard : Claim7 := { stood := { row := blockBentRow, standIns := [], harness := (true, "4a85540ad6ba56b4013037af47a20c294b077f08e8b8989939fddb1e70386791"), looks := false }, kinds := [], alts := [], laidByText := true, laidKinds := [.data, .pinned], laidTests := true, laidLooks := .later }
def BlockBentCardSaid : Prop := Claim7.holds Tryd.pinned (.plain (OpenSpec.ofChange blockBentSpec)) blockBentCard

/-- THE TIED CARD OF 'revetmentkeep.BlockSwap'. -/
def blockSwapCard : Claim7 := { stood := { row := blockSwapRow, standIns := [], harness := (true, "4a85540ad6ba56b4013037af47a20c294b077f08e8b8989939fddb1e70386791"), looks := false }, kinds := [], alts := [], laidByText := true, laidKinds := [.data, .pinned], laidTests := true, laidLooks := .later }
def BlockSwapCardSaid : Prop := Claim7.holds Tryd.pinned (.plain (OpenSpec.ofChange blockSwapSpec)) blockSwapCard

/-- THE TIED CARD OF 'revetmentkeep.BlockParts'. -/
def blockPartsCard : Claim7 := { stood := { row := blockPartsRow, standIns := [], harness := (true, "4a85540ad6ba56b4013037af47a20c294b077f08e8b8989939fddb1e70386791"), looks := false }, kinds := [], alts := [], laidByText := true, laidKinds := [.data, .pinned], laidTests := true, laidLooks := .later }
def BlockPartsCardSaid : Prop := Claim7.holds Tryd.pinned (.plain (OpenSpec.ofChange blockPartsSpec)) blockPartsCard

/-- THE TIED CARD OF 'revetmentkeep.BlockTwo'. -/
def blockTwoCard : Claim7 := { stood := { row := blockTwoRow, standIns := [], harness := (true, "4a85540ad6ba56b4013037af47a20c294b077f08e8b8989939fddb1e70386791"), looks := false }, kinds := [], alts := [], laidByText := true, laidKinds := [.data, .pinned], laidTests := true, laidLooks := .later }
def BlockTwoCardSaid : Prop := Claim7.holds Tryd.pinned (.plain (OpenSpec.ofChange blockTwoSpec)) blockTwoCard

/-- THE TIED CARD OF 'revetmentkeep.BlockFills'. -/
def blockFillsCard : Claim7 := { stood := { row := blockFillsRow, standIns := [], harness := (true, "4a85540ad6ba56b4013037af47a20c294b077f08e8b8989939fddb1e70386791"), looks := false }, kinds := [], alts := [], laidByText := true, laidKinds := [.data, .pinned], laidTests := true, laidLooks := .later }
def BlockFillsCardSaid : Prop := Claim7.holds Tryd.pinned (.plain (OpenSpec.ofChange blockFillsSpec)) blockFillsCard

/-- THE SECOND FORM's CARD OF 'revetmentkeep.BlockBent'. -/
def blockBentUptoCard : Claim7 := { stood := { row := blockBentUptoRow, standIns := [], harness := (true, "4a85540ad6ba56b4013037af47a20c294b077f08e8b8989939fddb1e70386791"), looks := false }, kinds := [], alts := [], laidByText := true, laidKinds := [.data, .pinned], laidTests := true, laidLooks := .later }
def BlockBentUptoCardSaid : Prop := Claim7.holds Tryd.pinned (.plain (OpenSpec.upto blockBentSpec)) blockBentUptoCard

/-- THE SECOND FORM's CARD OF 'revetmentkeep.BlockSwap'. -/
def blockSwapUptoCard : Claim7 := { stood := { row := blockSwapUptoRow, standIns := [], harness := (true, "4a85540ad6ba56b4013037af47a20c294b077f08e8b8989939fddb1e70386791"), looks := false }, kinds := [], alts := [], laidByText := true, laidKinds := [.data, .pinned], laidTests := true, laidLooks := .later }
def BlockSwapUptoCardSaid : Prop := Claim7.holds Tryd.pinned (.plain (OpenSpec.upto blockSwapSpec)) blockSwapUptoCard

/-- THE SECOND FORM's CARD OF 'revetmentkeep.BlockParts'. -/
def blockPartsUptoCard : Claim7 := { stood := { row := blockPartsUptoRow, standIns := [], harness := (true, "4a85540ad6ba56b4013037af47a20c294b077f08e8b8989939fddb1e70386791"), looks := false }, kinds := [], alts := [], laidByText := true, laidKinds := [.data, .pinned], laidTests := true, laidLooks := .later }
def BlockPartsUptoCardSaid : Prop := Claim7.holds Tryd.pinned (.plain (OpenSpec.upto blockPartsSpec)) blockPartsUptoCard

/-- THE SECOND FORM's CARD OF 'revetmentkeep.BlockTwo'. -/
def blockTwoUptoCard : Claim7 := { stood := { row := blockTwoUptoRow, standIns := [], harness := (true, "4a85540ad6ba56b4013037af47a20c294b077f08e8b8989939fddb1e70386791"), looks := false }, kinds := [], alts := [], laidByText := true, laidKinds := [.data, .pinned], laidTests := true, laidLooks := .later }
def BlockTwoUptoCardSaid : Prop := Claim7.holds Tryd.pinned (.plain (OpenSpec.upto blockTwoSpec)) blockTwoUptoCard

/-- THE SECOND FORM's CARD OF 'revetmentkeep.BlockFills'. -/
def blockFillsUptoCard : Claim7 := { stood := { row := blockFillsUptoRow, standIns := [], harness := (true, "4a85540ad6ba56b4013037af47a20c294b077f08e8b8989939fddb1e70386791"), looks := false }, kinds := [], alts := [], laidByText := true, laidKinds := [.data, .pinned], laidTests := true, laidLooks := .later }
def BlockFillsUptoCardSaid : Prop := Claim7.holds Tryd.pinned (.plain (OpenSpec.upto blockFillsSpec)) blockFillsUptoCard
end Rows
end Go.Proofs.YtighfpcnmgplcaaDoor
