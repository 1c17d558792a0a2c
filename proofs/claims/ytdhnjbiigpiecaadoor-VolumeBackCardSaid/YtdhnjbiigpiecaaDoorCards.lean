/-
  DERIVED. GIVEN WITH THE SEED: THE CARDS: each row of YtdhnjbiigpiecaaDoorRows.lean that lists a variable, with what it lists TIED to the program's text (the seventh form; the later family's looks); each row that meets fmt, with fmt's text TOLD by the authors' own Lean function (tested against real Go, not proved from fmt's source: count such statements apart). THE CARD IS WHAT COUNTS. Prove the row's statement (the work); the ties are given (YtdhnjbiigpiecaaDoorTie.lean); close each card by the builder's one call (the guide's Derived/Test/ToyasCard.lean, 'card_holds'). Laid BY PROGRAM, IN A SANDBOX (cutbox-door.mjs). By AI agents, Wed Nov 11 2026. No macro, syntax, notation, axiom, sorry.
-/
import Derived.Test.YtdhnjbiigpiecaaDoorRows
import GoSem.ClaimSeven
namespace Go.Proofs.YtdhnjbiigpiecaaDoor
namespace Rows

/-- THE TIED CARD OF 'revetmentkeep.VolumeBent'. -/
def volumeBentCard : Claim7 := { stood := { row := volumeBentRow, standIns := [], harness := (true, "c24ec1050ced27b685d0c80c227fbecd1237d66b93e1794ac8eb5eead49a8e9c"), looks := true }, kinds := [], alts := [], laidByText := true, laidKinds := [.data, .handle, .pinned], laidTests := true, laidLooks := .later }
def VolumeBentCardSaid : Prop := Claim7.holds Tryd.pinned (.plain (OpenSpec.ofChange volumeBentSpec)) volumeBentCard

/-- THE TIED CARD OF 'revetmentkeep.VolumeBack'. -/
def volumeBackCard : Claim7 := { stood := { row := volumeBackRow, standIns := [], harness := (true, "c24ec1050ced27b685d0c80c227fbecd1237d66b93e1794ac8eb5eead49a8e9c"), looks := true }, kinds := [], alts := [], laidByText := true, laidKinds := [.data, .handle, .pinned], laidTests := true, laidLooks := .later }
def VolumeBackCardSaid : Prop := Claim7.holds Tryd.pinned (.plain (OpenSpec.ofChange volumeBackSpec)) volumeBackCard

/-- THE SECOND FORM's CARD OF 'revetmentkeep.VolumeBent'. -/
def volumeBentUptoCard : Claim7 := { stood := { row := volumeBentUptoRow, standIns := [], harness := (true, "c24ec1050ced27b685d0c80c227fbecd1237d66b93e1794ac8eb5eead49a8e9c"), looks := true }, kinds := [], alts := [], laidByText := true, laidKinds := [.data, .handle, .pinned], laidTests := true, laidLooks := .later }
def VolumeBentUptoCardSaid : Prop := Claim7.holds Tryd.pinned (.plain (OpenSpec.upto volumeBentSpec)) volumeBentUptoCard

/-- THE SECOND FORM's CARD OF 'revetmentkeep.VolumeBack'. -/
def volumeBackUptoCard : Claim7 := { stood := { row := volumeBackUptoRow, standIns := [], harness := (true, "c24ec1050ced27b685d0c80c227fbecd1237d66b93e1794ac8eb5eead49a8e9c"), looks := true }, kinds := [], alts := [], laidByText := true, laidKinds := [.data, .handle, .pinned], laidTests := true, laidLooks := .later }
def VolumeBackUptoCardSaid : Prop := Claim7.holds Tryd.pinned (.plain (OpenSpec.upto volumeBackSpec)) volumeBackUptoCard
end Rows
end Go.Proofs.YtdhnjbiigpiecaaDoor
