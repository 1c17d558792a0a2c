/-
  DERIVED. GIVEN WITH THE SEED: THE CARDS: each row of YtehooifcgfkngaaGreatDoorRows.lean that lists a variable, with what it lists TIED to the program's text (the seventh form; the later family's looks); each row that meets fmt, with fmt's text TOLD by the authors' own Lean function (tested against real Go, not proved from fmt's source: count such statements apart). THE CARD IS WHAT COUNTS. Prove the row's statement (the work); the ties are given (YtehooifcgfkngaaGreatDoorTie.lean); close each card by the builder's one call (the guide's Derived/Test/ToyasCard.lean, 'card_holds'). Laid BY PROGRAM, IN A SANDBOX (cutbox-door.mjs). By AI agents, Wed Nov 11 2026. No macro, syntax, notation, axiom, sorry.
-/
import Derived.Test.YtehooifcgfkngaaGreatDoorRows
import GoSem.ClaimSeven
namespace Go.Proofs.YtehooifcgfkngaaGreatDoor
namespace Rows

/-- THE TIED CARD OF 'revetmentkeep.TreeLeaves'. -/
def treeLeavesCard : Claim7 := { stood := { row := treeLeavesRow, standIns := [], harness := (true, "2e0b44b9158a815a2c060efacb6e7375bcdc523ff24b51615963ec9a4b33f088"), looks := true }, kinds := [], alts := [], laidByText := true, laidKinds := [.data, .handle, .pinned], laidTests := true, laidLooks := .later }
def TreeLeavesCardSaid : Prop := Claim7.holds Tryz.pinned (.plain (OpenSpec.ofChange treeLeavesSpec)) treeLeavesCard

/-- THE SECOND FORM's CARD OF 'revetmentkeep.TreeLeaves'. -/
def treeLeavesUptoCard : Claim7 := { stood := { row := treeLeavesUptoRow, standIns := [], harness := (true, "2e0b44b9158a815a2c060efacb6e7375bcdc523ff24b51615963ec9a4b33f088"), looks := true }, kinds := [], alts := [], laidByText := true, laidKinds := [.data, .handle, .pinned], laidTests := true, laidLooks := .later }
def TreeLeavesUptoCardSaid : Prop := Claim7.holds Tryz.pinned (.plain (OpenSpec.upto treeLeavesSpec)) treeLeavesUptoCard
end Rows
end Go.Proofs.YtehooifcgfkngaaGreatDoor
