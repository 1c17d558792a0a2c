/-
  DERIVED. GIVEN WITH THE SEED: THE CARDS: each row of YtipajekehbpghaaGreatDoorRows.lean that lists a variable, with what it lists TIED to the program's text (the seventh form; the later family's looks); each row that meets fmt, with fmt's text TOLD by the authors' own Lean function (tested against real Go, not proved from fmt's source: count such statements apart). THE CARD IS WHAT COUNTS. Prove the row's statement (the work); the ties are given (YtipajekehbpghaaGreatDoorTie.lean); close each card by the builder's one call (the guide's Derived/Test/ToyasCard.lean, 'card_holds'). Laid BY PROGRAM, IN A SANDBOX (cutbox-door.mjs). By AI agents, Wed Nov 11 2026. No macro, syntax, notation, axiom, sorry.
-/
import Derived.Test.YtipajekehbpghaaGreatDoorRows
import GoSem.ClaimSeven
namespace Go.Proofs.YtipajekehbpghaaGreatDoor
namespace Rows

/-- THE TIED CARD OF 'revetmentkeep.PackNames'. -/
def packNamesCard : Claim7 := { stood := { row := packNamesRow, standIns := [], harness := (true, "09a28901a7f07a3449573dd65a52d582f97a957fb9f27a74c7aa156aac0dd789"), looks := true }, kinds := [], alts := [], laidByText := true, laidKinds := [.data, .pinned], laidTests := true, laidLooks := .later }
def PackNamesCardSaid : Prop := Claim7.holds Tryz.pinned (.plain (OpenSpec.ofChange packNamesSpec)) packNamesCard

/-- THE TIED CARD OF 'revetmentkeep.PackTwo'. -/
def packTwoCard : Claim7 := { stood := { row := packTwoRow, standIns := [], harness := (true, "09a28901a7f07a3449573dd65a52d582f97a957fb9f27a74c7aa156aac0dd789"), looks := true }, kinds := [], alts := [], laidByText := true, laidKinds := [.data, .pinned], laidTests := true, laidLooks := .later }
def PackTwoCardSaid : Prop := Claim7.holds Tryz.pinned (.plain (OpenSpec.ofChange packTwoSpec)) packTwoCard

/-- THE TIED CARD OF 'revetmentkeep.DifferOne'. -/
def differOneCard : Claim7 := { stood := { row := differOneRow, standIns := [], harness := (true, "09a28901a7f07a3449573dd65a52d582f97a957fb9f27a74c7aa156aac0dd789"), looks := true }, kinds := [], alts := [], laidByText := true, laidKinds := [.data, .pinned], laidTests := true, laidLooks := .later }
def DifferOneCardSaid : Prop := Claim7.holds Tryz.pinned (.plain (OpenSpec.ofChange differOneSpec)) differOneCard

/-- THE TIED CARD OF 'revetmentkeep.SinceFew'. -/
def sinceFewCard : Claim7 := { stood := { row := sinceFewRow, standIns := [], harness := (true, "09a28901a7f07a3449573dd65a52d582f97a957fb9f27a74c7aa156aac0dd789"), looks := true }, kinds := [], alts := [], laidByText := true, laidKinds := [.data, .pinned], laidTests := true, laidLooks := .later }
def SinceFewCardSaid : Prop := Claim7.holds Tryz.pinned (.plain (OpenSpec.ofChange sinceFewSpec)) sinceFewCard

/-- THE TIED CARD OF 'revetmentkeep.SinceNothing'. -/
def sinceNothingCard : Claim7 := { stood := { row := sinceNothingRow, standIns := [], harness := (true, "09a28901a7f07a3449573dd65a52d582f97a957fb9f27a74c7aa156aac0dd789"), looks := true }, kinds := [], alts := [], laidByText := true, laidKinds := [.data, .pinned], laidTests := true, laidLooks := .later }
def SinceNothingCardSaid : Prop := Claim7.holds Tryz.pinned (.plain (OpenSpec.ofChange sinceNothingSpec)) sinceNothingCard

/-- THE TIED CARD OF 'revetmentkeep.DifferNone'. -/
def differNoneCard : Claim7 := { stood := { row := differNoneRow, standIns := [], harness := (true, "09a28901a7f07a3449573dd65a52d582f97a957fb9f27a74c7aa156aac0dd789"), looks := true }, kinds := [], alts := [], laidByText := true, laidKinds := [.data, .pinned], laidTests := true, laidLooks := .later }
def DifferNoneCardSaid : Prop := Claim7.holds Tryz.pinned (.plain (OpenSpec.ofChange differNoneSpec)) differNoneCard

/-- THE TIED CARD OF 'revetmentkeep.DifferGone'. -/
def differGoneCard : Claim7 := { stood := { row := differGoneRow, standIns := [], harness := (true, "09a28901a7f07a3449573dd65a52d582f97a957fb9f27a74c7aa156aac0dd789"), looks := true }, kinds := [], alts := [], laidByText := true, laidKinds := [.data, .pinned], laidTests := true, laidLooks := .later }
def DifferGoneCardSaid : Prop := Claim7.holds Tryz.pinned (.plain (OpenSpec.ofChange differGoneSpec)) differGoneCard

/-- THE TIED CARD OF 'revetmentkeep.DifferAll'. -/
def differAllCard : Claim7 := { stood := { row := differAllRow, standIns := [], harness := (true, "09a28901a7f07a3449573dd65a52d582f97a957fb9f27a74c7aa156aac0dd789"), looks := true }, kinds := [], alts := [], laidByText := true, laidKinds := [.data, .pinned], laidTests := true, laidLooks := .later }
def DifferAllCardSaid : Prop := Claim7.holds Tryz.pinned (.plain (OpenSpec.ofChange differAllSpec)) differAllCard

/-- THE TIED CARD OF 'revetmentkeep.PackHoles'. -/
def packHolesCard : Claim7 := { stood := { row := packHolesRow, standIns := [], harness := (true, "09a28901a7f07a3449573dd65a52d582f97a957fb9f27a74c7aa156aac0dd789"), looks := true }, kinds := [], alts := [], laidByText := true, laidKinds := [.data, .handle, .pinned], laidTests := true, laidLooks := .later }
def PackHolesCardSaid : Prop := Claim7.holds Tryz.pinned (.plain (OpenSpec.ofChange packHolesSpec)) packHolesCard

/-- THE TIED CARD OF 'revetmentkeep.PackBack'. -/
def packBackCard : Claim7 := { stood := { row := packBackRow, standIns := [], harness := (true, "09a28901a7f07a3449573dd65a52d582f97a957fb9f27a74c7aa156aac0dd789"), looks := true }, kinds := [], alts := [], laidByText := true, laidKinds := [.data, .handle, .pinned], laidTests := true, laidLooks := .later }
def PackBackCardSaid : Prop := Claim7.holds Tryz.pinned (.plain (OpenSpec.ofChange packBackSpec)) packBackCard

/-- THE TIED CARD OF 'revetmentkeep.PackSafe'. -/
def packSafeCard : Claim7 := { stood := { row := packSafeRow, standIns := [], harness := (true, "09a28901a7f07a3449573dd65a52d582f97a957fb9f27a74c7aa156aac0dd789"), looks := true }, kinds := [], alts := [], laidByText := true, laidKinds := [.data, .handle, .pinned], laidTests := true, laidLooks := .later }
def PackSafeCardSaid : Prop := Claim7.holds Tryz.pinned (.plain (OpenSpec.ofChange packSafeSpec)) packSafeCard

/-- THE SECOND FORM's CARD OF 'revetmentkeep.PackNames'. -/
def packNamesUptoCard : Claim7 := { stood := { row := packNamesUptoRow, standIns := [], harness := (true, "09a28901a7f07a3449573dd65a52d582f97a957fb9f27a74c7aa156aac0dd789"), looks := true }, kinds := [], alts := [], laidByText := true, laidKinds := [.data, .pinned], laidTests := true, laidLooks := .later }
def PackNamesUptoCardSaid : Prop := Claim7.holds Tryz.pinned (.plain (OpenSpec.upto packNamesSpec)) packNamesUptoCard

/-- THE SECOND FORM's CARD OF 'revetmentkeep.PackTwo'. -/
def packTwoUptoCard : Claim7 := { stood := { row := packTwoUptoRow, standIns := [], harness := (true, "09a28901a7f07a3449573dd65a52d582f97a957fb9f27a74c7aa156aac0dd789"), looks := true }, kinds := [], alts := [], laidByText := true, laidKinds := [.data, .pinned], laidTests := true, laidLooks := .later }
def PackTwoUptoCardSaid : Prop := Claim7.holds Tryz.pinned (.plain (OpenSpec.upto packTwoSpec)) packTwoUptoCard

/-- THE SECOND FORM's CARD OF 'revetmentkeep.DifferOne'. -/
def differOneUptoCard : Claim7 := { stood := { row := differOneUptoRow, standIns := [], harness := (true, "09a28901a7f07a3449573dd65a52d582f97a957fb9f27a74c7aa156aac0dd789"), looks := true }, kinds := [], alts := [], laidByText := true, laidKinds := [.data, .pinned], laidTests := true, laidLooks := .later }
def DifferOneUptoCardSaid : Prop := Claim7.holds Tryz.pinned (.plain (OpenSpec.upto differOneSpec)) differOneUptoCard

/-- THE SECOND FORM's CARD OF 'revetmentkeep.SinceFew'. -/
def sinceFewUptoCard : Claim7 := { stood := { row := sinceFewUptoRow, standIns := [], harness := (true, "09a28901a7f07a3449573dd65a52d582f97a957fb9f27a74c7aa156aac0dd789"), looks := true }, kinds := [], alts := [], laidByText := true, laidKinds := [.data, .pinned], laidTests := true, laidLooks := .later }
def SinceFewUptoCardSaid : Prop := Claim7.holds Tryz.pinned (.plain (OpenSpec.upto sinceFewSpec)) sinceFewUptoCard

/-- THE SECOND FORM's CARD OF 'revetmentkeep.SinceNothing'. -/
def sinceNothingUptoCard : Claim7 := { stood := { row := sinceNothingUptoRow, standIns := [], harness := (true, "09a28901a7f07a3449573dd65a52d582f97a957fb9f27a74c7aa156aac0dd789"), looks := true }, kinds := [], alts := [], laidByText := true, laidKinds := [.data, .pinned], laidTests := true, laidLooks := .later }
def SinceNothingUptoCardSaid : Prop := Claim7.holds Tryz.pinned (.plain (OpenSpec.upto sinceNothingSpec)) sinceNothingUptoCard

/-- THE SECOND FORM's CARD OF 'revetmentkeep.DifferNone'. -/
def differNoneUptoCard : Claim7 := { stood := { row := differNoneUptoRow, standIns := [], harness := (true, "09a28901a7f07a3449573dd65a52d582f97a957fb9f27a74c7aa156aac0dd789"), looks := true }, kinds := [], alts := [], laidByText := true, laidKinds := [.data, .pinned], laidTests := true, laidLooks := .later }
def DifferNoneUptoCardSaid : Prop := Claim7.holds Tryz.pinned (.plain (OpenSpec.upto differNoneSpec)) differNoneUptoCard

/-- THE SECOND FORM's CARD OF 'revetmentkeep.DifferGone'. -/
def differGoneUptoCard : Claim7 := { stood := { row := differGoneUptoRow, standIns := [], harness := (true, "09a28901a7f07a3449573dd65a52d582f97a957fb9f27a74c7aa156aac0dd789"), looks := true }, kinds := [], alts := [], laidByText := true, laidKinds := [.data, .pinned], laidTests := true, laidLooks := .later }
def DifferGoneUptoCardSaid : Prop := Claim7.holds Tryz.pinned (.plain (OpenSpec.upto differGoneSpec)) differGoneUptoCard

/-- THE SECOND FORM's CARD OF 'revetmentkeep.DifferAll'. -/
def differAllUptoCard : Claim7 := { stood := { row := differAllUptoRow, standIns := [], harness := (true, "09a28901a7f07a3449573dd65a52d582f97a957fb9f27a74c7aa156aac0dd789"), looks := true }, kinds := [], alts := [], laidByText := true, laidKinds := [.data, .pinned], laidTests := true, laidLooks := .later }
def DifferAllUptoCardSaid : Prop := Claim7.holds Tryz.pinned (.plain (OpenSpec.upto differAllSpec)) differAllUptoCard

/-- THE SECOND FORM's CARD OF 'revetmentkeep.PackHoles'. -/
def packHolesUptoCard : Claim7 := { stood := { row := packHolesUptoRow, standIns := [], harness := (true, "09a28901a7f07a3449573dd65a52d582f97a957fb9f27a74c7aa156aac0dd789"), looks := true }, kinds := [], alts := [], laidByText := true, laidKinds := [.data, .handle, .pinned], laidTests := true, laidLooks := .later }
def PackHolesUptoCardSaid : Prop := Claim7.holds Tryz.pinned (.plain (OpenSpec.upto packHolesSpec)) packHolesUptoCard

/-- THE SECOND FORM's CARD OF 'revetmentkeep.PackBack'. -/
def packBackUptoCard : Claim7 := { stood := { row := packBackUptoRow, standIns := [], harness := (true, "09a28901a7f07a3449573dd65a52d582f97a957fb9f27a74c7aa156aac0dd789"), looks := true }, kinds := [], alts := [], laidByText := true, laidKinds := [.data, .handle, .pinned], laidTests := true, laidLooks := .later }
def PackBackUptoCardSaid : Prop := Claim7.holds Tryz.pinned (.plain (OpenSpec.upto packBackSpec)) packBackUptoCard

/-- THE SECOND FORM's CARD OF 'revetmentkeep.PackSafe'. -/
def packSafeUptoCard : Claim7 := { stood := { row := packSafeUptoRow, standIns := [], harness := (true, "09a28901a7f07a3449573dd65a52d582f97a957fb9f27a74c7aa156aac0dd789"), looks := true }, kinds := [], alts := [], laidByText := true, laidKinds := [.data, .handle, .pinned], laidTests := true, laidLooks := .later }
def PackSafeUptoCardSaid : Prop := Claim7.holds Tryz.pinned (.plain (OpenSpec.upto packSafeSpec)) packSafeUptoCard
end Rows
end Go.Proofs.YtipajekehbpghaaGreatDoor
