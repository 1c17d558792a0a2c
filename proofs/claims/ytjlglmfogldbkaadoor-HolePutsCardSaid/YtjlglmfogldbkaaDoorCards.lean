/-
  DERIVED. GIVEN WITH THE SEED: THE CARDS: each row of YtjlglmfogldbkaaDoorRows.lean that lists a variable, with what it lists TIED to the program's text (the seventh form; the later family's looks); each row that meets fmt, with fmt's text TOLD by the authors' own Lean function (tested against real Go, not proved from fmt's source: count such statements apart). THE CARD IS WHAT COUNTS. Prove the row's statement (the work); the ties are given (YtjlglmfogldbkaaDoorTie.lean); close each card by the builder's one call (the guide's Derived/Test/ToyasCard.lean, 'card_holds'). Laid BY PROGRAM, IN A SANDBOX (cutbox-door.mjs). By AI agents, Wed Nov 11 2026. No macro, syntax, notation, axiom, sorry.
-/
import Derived.Test.YtjlglmfogldbkaaDoorRows
import GoSem.ClaimSeven
namespace Go.Proofs.YtjlglmfogldbkaaDoor
namespace Rows

/-- THE TIED CARD OF 'revetmentkeep.HolePieces'. -/
def holePiecesCard : Claim7 := { stood := { row := holePiecesRow, standIns := [], harness := (true, "4b7948d8549b8275a4abe4a2a7d49e38770bc6486f38575b6e22be8a02483297"), looks := true }, kinds := [], alts := [], laidByText := true, laidKinds := [.data, .pinned], laidTests := true, laidLooks := .later }
def HolePiecesCardSaid : Prop := Claim7.holds Tryd.pinned (.plain (OpenSpec.ofChange holePiecesSpec)) holePiecesCard

/-- THE TIED CARD OF 'revetmentkeep.HolePuts'. -/
def holePutsCard : Claim7 := { stood := { row := holePutsRow, standIns := [], harness := (true, "4b7948d8549b8275a4abe4a2a7d49e38770bc6486f38575b6e22be8a02483297"), looks := true }, kinds := [], alts := [], laidByText := true, laidKinds := [.data, .pinned], laidTests := true, laidLooks := .later }
def HolePutsCardSaid : Prop := Claim7.holds Tryd.pinned (.plain (OpenSpec.ofChange holePutsSpec)) holePutsCard

/-- THE TIED CARD OF 'revetmentkeep.HoleBack'. -/
def holeBackCard : Claim7 := { stood := { row := holeBackRow, standIns := [], harness := (true, "4b7948d8549b8275a4abe4a2a7d49e38770bc6486f38575b6e22be8a02483297"), looks := true }, kinds := [], alts := [], laidByText := true, laidKinds := [.data, .handle, .pinned], laidTests := true, laidLooks := .later }
def HoleBackCardSaid : Prop := Claim7.holds Tryd.pinned (.plain (OpenSpec.ofChange holeBackSpec)) holeBackCard

/-- THE SECOND FORM's CARD OF 'revetmentkeep.HolePieces'. -/
def holePiecesUptoCard : Claim7 := { stood := { row := holePiecesUptoRow, standIns := [], harness := (true, "4b7948d8549b8275a4abe4a2a7d49e38770bc6486f38575b6e22be8a02483297"), looks := true }, kinds := [], alts := [], laidByText := true, laidKinds := [.data, .pinned], laidTests := true, laidLooks := .later }
def HolePiecesUptoCardSaid : Prop := Claim7.holds Tryd.pinned (.plain (OpenSpec.upto holePiecesSpec)) holePiecesUptoCard

/-- THE SECOND FORM's CARD OF 'revetmentkeep.HolePuts'. -/
def holePutsUptoCard : Claim7 := { stood := { row := holePutsUptoRow, standIns := [], harness := (true, "4b7948d8549b8275a4abe4a2a7d49e38770bc6486f38575b6e22be8a02483297"), looks := true }, kinds := [], alts := [], laidByText := true, laidKinds := [.data, .pinned], laidTests := true, laidLooks := .later }
def HolePutsUptoCardSaid : Prop := Claim7.holds Tryd.pinned (.plain (OpenSpec.upto holePutsSpec)) holePutsUptoCard

/-- THE SECOND FORM's CARD OF 'revetmentkeep.HoleBack'. -/
def holeBackUptoCard : Claim7 := { stood := { row := holeBackUptoRow, standIns := [], harness := (true, "4b7948d8549b8275a4abe4a2a7d49e38770bc6486f38575b6e22be8a02483297"), looks := true }, kinds := [], alts := [], laidByText := true, laidKinds := [.data, .handle, .pinned], laidTests := true, laidLooks := .later }
def HoleBackUptoCardSaid : Prop := Claim7.holds Tryd.pinned (.plain (OpenSpec.upto holeBackSpec)) holeBackUptoCard
end Rows
end Go.Proofs.YtjlglmfogldbkaaDoor
