/-
  DERIVED. GIVEN WITH THE SEED: THE CARDS: each row of YtjafjhhmjfpmoaaDoorRows.lean that lists a variable, with what it lists TIED to the program's text (the seventh form; the later family's looks); each row that meets fmt, with fmt's text TOLD by the authors' own Lean function (tested against real Go, not proved from fmt's source: count such statements apart). THE CARD IS WHAT COUNTS. Prove the row's statement (the work); the ties are given (YtjafjhhmjfpmoaaDoorTie.lean); close each card by the builder's one call (the guide's Derived/Test/ToyasCard.lean, 'card_holds'). Laid BY PROGRAM, IN A SANDBOX (cutbox-door.mjs). By AI agents, Wed Nov 11 2026. No macro, syntax, notation, axiom, sorry.
-/
import Derived.Test.YtjafjhhmjfpmoaaDoorRows
import GoSem.ClaimSeven
namespace Go.Proofs.YtjafjhhmjfpmoaaDoor
namespace Rows

/-- THE TIED CARD OF 'revetmentkeep.PaxOne'. -/
def paxOneCard : Claim7 := { stood := { row := paxOneRow, standIns := [], harness := (true, "a1cc1ee3388e9ce6169940322c0494575f9950e414d207ff097d9b3f74d1e893"), looks := true }, kinds := [], alts := [], laidByText := true, laidKinds := [.data, .data, .data, .sentinel, .sentinel], laidTests := true, laidLooks := .later }
def PaxOneCardSaid : Prop := Claim7.holds Tryd.pinned (.plain (OpenSpec.ofChange paxOneSpec)) paxOneCard

/-- THE TIED CARD OF 'revetmentkeep.PaxBack'. -/
def paxBackCard : Claim7 := { stood := { row := paxBackRow, standIns := [], harness := (true, "a1cc1ee3388e9ce6169940322c0494575f9950e414d207ff097d9b3f74d1e893"), looks := true }, kinds := [], alts := [], laidByText := true, laidKinds := [.data, .data, .data, .sentinel, .sentinel], laidTests := true, laidLooks := .later }
def PaxBackCardSaid : Prop := Claim7.holds Tryd.pinned (.plain (OpenSpec.ofChange paxBackSpec)) paxBackCard

/-- THE TIED CARD OF 'revetmentkeep.PaxApart'. -/
def paxApartCard : Claim7 := { stood := { row := paxApartRow, standIns := [], harness := (true, "a1cc1ee3388e9ce6169940322c0494575f9950e414d207ff097d9b3f74d1e893"), looks := true }, kinds := [], alts := [], laidByText := true, laidKinds := [.data, .data, .data, .sentinel, .sentinel], laidTests := true, laidLooks := .later }
def PaxApartCardSaid : Prop := Claim7.holds Tryd.pinned (.plain (OpenSpec.ofChange paxApartSpec)) paxApartCard

/-- THE TIED CARD OF 'revetmentkeep.PaxOver'. -/
def paxOverCard : Claim7 := { stood := { row := paxOverRow, standIns := [], harness := (true, "a1cc1ee3388e9ce6169940322c0494575f9950e414d207ff097d9b3f74d1e893"), looks := true }, kinds := [], alts := [], laidByText := true, laidKinds := [.data, .data, .data, .sentinel, .sentinel], laidTests := true, laidLooks := .later }
def PaxOverCardSaid : Prop := Claim7.holds Tryd.pinned (.plain (OpenSpec.ofChange paxOverSpec)) paxOverCard

/-- THE TIED CARD OF 'revetmentkeep.PaxMerges'. -/
def paxMergesCard : Claim7 := { stood := { row := paxMergesRow, standIns := [], harness := (true, "a1cc1ee3388e9ce6169940322c0494575f9950e414d207ff097d9b3f74d1e893"), looks := true }, kinds := [], alts := [], laidByText := true, laidKinds := [.data, .data, .data, .sentinel, .sentinel], laidTests := true, laidLooks := .later }
def PaxMergesCardSaid : Prop := Claim7.holds Tryd.pinned (.plain (OpenSpec.ofChange paxMergesSpec)) paxMergesCard

/-- THE SECOND FORM's CARD OF 'revetmentkeep.PaxOne'. -/
def paxOneUptoCard : Claim7 := { stood := { row := paxOneUptoRow, standIns := [], harness := (true, "a1cc1ee3388e9ce6169940322c0494575f9950e414d207ff097d9b3f74d1e893"), looks := true }, kinds := [], alts := [], laidByText := true, laidKinds := [.data, .data, .data, .sentinel, .sentinel], laidTests := true, laidLooks := .later }
def PaxOneUptoCardSaid : Prop := Claim7.holds Tryd.pinned (.plain (OpenSpec.upto paxOneSpec)) paxOneUptoCard

/-- THE SECOND FORM's CARD OF 'revetmentkeep.PaxBack'. -/
def paxBackUptoCard : Claim7 := { stood := { row := paxBackUptoRow, standIns := [], harness := (true, "a1cc1ee3388e9ce6169940322c0494575f9950e414d207ff097d9b3f74d1e893"), looks := true }, kinds := [], alts := [], laidByText := true, laidKinds := [.data, .data, .data, .sentinel, .sentinel], laidTests := true, laidLooks := .later }
def PaxBackUptoCardSaid : Prop := Claim7.holds Tryd.pinned (.plain (OpenSpec.upto paxBackSpec)) paxBackUptoCard

/-- THE SECOND FORM's CARD OF 'revetmentkeep.PaxApart'. -/
def paxApartUptoCard : Claim7 := { stood := { row := paxApartUptoRow, standIns := [], harness := (true, "a1cc1ee3388e9ce6169940322c0494575f9950e414d207ff097d9b3f74d1e893"), looks := true }, kinds := [], alts := [], laidByText := true, laidKinds := [.data, .data, .data, .sentinel, .sentinel], laidTests := true, laidLooks := .later }
def PaxApartUptoCardSaid : Prop := Claim7.holds Tryd.pinned (.plain (OpenSpec.upto paxApartSpec)) paxApartUptoCard

/-- THE SECOND FORM's CARD OF 'revetmentkeep.PaxOver'. -/
def paxOverUptoCard : Claim7 := { stood := { row := paxOverUptoRow, standIns := [], harness := (true, "a1cc1ee3388e9ce6169940322c0494575f9950e414d207ff097d9b3f74d1e893"), looks := true }, kinds := [], alts := [], laidByText := true, laidKinds := [.data, .data, .data, .sentinel, .sentinel], laidTests := true, laidLooks := .later }
def PaxOverUptoCardSaid : Prop := Claim7.holds Tryd.pinned (.plain (OpenSpec.upto paxOverSpec)) paxOverUptoCard

/-- THE SECOND FORM's CARD OF 'revetmentkeep.PaxMerges'. -/
def paxMergesUptoCard : Claim7 := { stood := { row := paxMergesUptoRow, standIns := [], harness := (true, "a1cc1ee3388e9ce6169940322c0494575f9950e414d207ff097d9b3f74d1e893"), looks := true }, kinds := [], alts := [], laidByText := true, laidKinds := [.data, .data, .data, .sentinel, .sentinel], laidTests := true, laidLooks := .later }
def PaxMergesUptoCardSaid : Prop := Claim7.holds Tryd.pinned (.plain (OpenSpec.upto paxMergesSpec)) paxMergesUptoCard
end Rows
end Go.Proofs.YtjafjhhmjfpmoaaDoor
