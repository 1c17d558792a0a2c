/-
  DERIVED. GIVEN WITH THE SEED: THE CARDS: each row of YtkhkjacnoiopcaaGreatDoorRows.lean that lists a variable, with what it lists TIED to the program's text (the seventh form; the later family's looks); each row that meets fmt, with fmt's text TOLD by the authors' own Lean function (tested against real Go, not proved from fmt's source: count such statements apart). THE CARD IS WHAT COUNTS. Prove the row's statement (the work); the ties are given (YtkhkjacnoiopcaaGreatDoorTie.lean); close each card by the builder's one call (the guide's Derived/Test/ToyasCard.lean, 'card_holds'). Laid BY PROGRAM, IN A SANDBOX (cutbox-door.mjs). By AI agents, Wed Nov 11 2026. No macro, syntax, notation, axiom, sorry.
-/
import Derived.Test.YtkhkjacnoiopcaaGreatDoorRows
import GoSem.ClaimSeven
namespace Go.Proofs.YtkhkjacnoiopcaaGreatDoor
namespace Rows

/-- THE TIED CARD OF 'revetmentkeep.MemberOne'. -/
def memberOneCard : Claim7 := { stood := { row := memberOneRow, standIns := [], harness := (true, "a2d2e5175605f93ed20aa7491c9105e3af3f3eaae888e742836180b1e4e6d2b1"), looks := true }, kinds := [], alts := [], laidByText := true, laidKinds := [.data, .data, .data, .data, .handle, .sentinel, .sentinel, .pinned], laidTests := true, laidLooks := .later }
def MemberOneCardSaid : Prop := Claim7.holds Tryz.pinned (.plain (OpenSpec.ofChange memberOneSpec)) memberOneCard

/-- THE TIED CARD OF 'revetmentkeep.MemberAlike'. -/
def memberAlikeCard : Claim7 := { stood := { row := memberAlikeRow, standIns := [], harness := (true, "a2d2e5175605f93ed20aa7491c9105e3af3f3eaae888e742836180b1e4e6d2b1"), looks := true }, kinds := [], alts := [], laidByText := true, laidKinds := [.data, .data, .data, .data, .handle, .sentinel, .sentinel, .pinned], laidTests := true, laidLooks := .later }
def MemberAlikeCardSaid : Prop := Claim7.holds Tryz.pinned (.plain (OpenSpec.ofChange memberAlikeSpec)) memberAlikeCard

/-- THE TIED CARD OF 'revetmentkeep.MemberAt'. -/
def memberAtCard : Claim7 := { stood := { row := memberAtRow, standIns := [], harness := (true, "a2d2e5175605f93ed20aa7491c9105e3af3f3eaae888e742836180b1e4e6d2b1"), looks := true }, kinds := [], alts := [], laidByText := true, laidKinds := [.data, .data, .data, .data, .handle, .sentinel, .sentinel, .pinned], laidTests := true, laidLooks := .later }
def MemberAtCardSaid : Prop := Claim7.holds Tryz.pinned (.plain (OpenSpec.ofChange memberAtSpec)) memberAtCard

/-- THE TIED CARD OF 'revetmentkeep.MemberBack'. -/
def memberBackCard : Claim7 := { stood := { row := memberBackRow, standIns := [], harness := (true, "a2d2e5175605f93ed20aa7491c9105e3af3f3eaae888e742836180b1e4e6d2b1"), looks := true }, kinds := [], alts := [], laidByText := true, laidKinds := [.data, .data, .data, .data, .handle, .sentinel, .sentinel, .pinned], laidTests := true, laidLooks := .later }
def MemberBackCardSaid : Prop := Claim7.holds Tryz.pinned (.plain (OpenSpec.ofChange memberBackSpec)) memberBackCard

/-- THE TIED CARD OF 'revetmentkeep.MemberRoom'. -/
def memberRoomCard : Claim7 := { stood := { row := memberRoomRow, standIns := [], harness := (true, "a2d2e5175605f93ed20aa7491c9105e3af3f3eaae888e742836180b1e4e6d2b1"), looks := true }, kinds := [], alts := [], laidByText := true, laidKinds := [.data, .data, .data, .data, .handle, .sentinel, .sentinel, .pinned], laidTests := true, laidLooks := .later }
def MemberRoomCardSaid : Prop := Claim7.holds Tryz.pinned (.plain (OpenSpec.ofChange memberRoomSpec)) memberRoomCard

/-- THE TIED CARD OF 'revetmentkeep.MemberOver'. -/
def memberOverCard : Claim7 := { stood := { row := memberOverRow, standIns := [], harness := (true, "a2d2e5175605f93ed20aa7491c9105e3af3f3eaae888e742836180b1e4e6d2b1"), looks := true }, kinds := [], alts := [], laidByText := true, laidKinds := [.data, .data, .data, .data, .handle, .sentinel, .sentinel, .pinned], laidTests := true, laidLooks := .later }
def MemberOverCardSaid : Prop := Claim7.holds Tryz.pinned (.plain (OpenSpec.ofChange memberOverSpec)) memberOverCard

/-- THE TIED CARD OF 'revetmentkeep.StreamOne'. -/
def streamOneCard : Claim7 := { stood := { row := streamOneRow, standIns := [], harness := (true, "a2d2e5175605f93ed20aa7491c9105e3af3f3eaae888e742836180b1e4e6d2b1"), looks := true }, kinds := [], alts := [], laidByText := true, laidKinds := [.data, .data, .data, .data, .handle, .sentinel, .sentinel, .pinned], laidTests := true, laidLooks := .later }
def StreamOneCardSaid : Prop := Claim7.holds Tryz.pinned (.plain (OpenSpec.ofChange streamOneSpec)) streamOneCard

/-- THE TIED CARD OF 'revetmentkeep.StreamMore'. -/
def streamMoreCard : Claim7 := { stood := { row := streamMoreRow, standIns := [], harness := (true, "a2d2e5175605f93ed20aa7491c9105e3af3f3eaae888e742836180b1e4e6d2b1"), looks := true }, kinds := [], alts := [], laidByText := true, laidKinds := [.data, .data, .data, .data, .handle, .sentinel, .sentinel, .pinned], laidTests := true, laidLooks := .later }
def StreamMoreCardSaid : Prop := Claim7.holds Tryz.pinned (.plain (OpenSpec.ofChange streamMoreSpec)) streamMoreCard

/-- THE TIED CARD OF 'revetmentkeep.StreamGlobal'. -/
def streamGlobalCard : Claim7 := { stood := { row := streamGlobalRow, standIns := [], harness := (true, "a2d2e5175605f93ed20aa7491c9105e3af3f3eaae888e742836180b1e4e6d2b1"), looks := true }, kinds := [], alts := [], laidByText := true, laidKinds := [.data, .data, .data, .data, .handle, .sentinel, .sentinel, .pinned], laidTests := true, laidLooks := .later }
def StreamGlobalCardSaid : Prop := Claim7.holds Tryz.pinned (.plain (OpenSpec.ofChange streamGlobalSpec)) streamGlobalCard

/-- THE TIED CARD OF 'revetmentkeep.StreamCut'. -/
def streamCutCard : Claim7 := { stood := { row := streamCutRow, standIns := [], harness := (true, "a2d2e5175605f93ed20aa7491c9105e3af3f3eaae888e742836180b1e4e6d2b1"), looks := true }, kinds := [], alts := [], laidByText := true, laidKinds := [.data, .data, .data, .data, .handle, .sentinel, .sentinel, .pinned], laidTests := true, laidLooks := .later }
def StreamCutCardSaid : Prop := Claim7.holds Tryz.pinned (.plain (OpenSpec.ofChange streamCutSpec)) streamCutCard

/-- THE TIED CARD OF 'revetmentkeep.StreamBent'. -/
def streamBentCard : Claim7 := { stood := { row := streamBentRow, standIns := [], harness := (true, "a2d2e5175605f93ed20aa7491c9105e3af3f3eaae888e742836180b1e4e6d2b1"), looks := true }, kinds := [], alts := [], laidByText := true, laidKinds := [.data, .data, .data, .data, .handle, .sentinel, .sentinel, .pinned], laidTests := true, laidLooks := .later }
def StreamBentCardSaid : Prop := Claim7.holds Tryz.pinned (.plain (OpenSpec.ofChange streamBentSpec)) streamBentCard

/-- THE TIED CARD OF 'revetmentkeep.StreamBack'. -/
def streamBackCard : Claim7 := { stood := { row := streamBackRow, standIns := [], harness := (true, "a2d2e5175605f93ed20aa7491c9105e3af3f3eaae888e742836180b1e4e6d2b1"), looks := true }, kinds := [], alts := [], laidByText := true, laidKinds := [.data, .data, .data, .data, .handle, .sentinel, .sentinel, .pinned], laidTests := true, laidLooks := .later }
def StreamBackCardSaid : Prop := Claim7.holds Tryz.pinned (.plain (OpenSpec.ofChange streamBackSpec)) streamBackCard

/-- THE SECOND FORM's CARD OF 'revetmentkeep.MemberOne'. -/
def memberOneUptoCard : Claim7 := { stood := { row := memberOneUptoRow, standIns := [], harness := (true, "a2d2e5175605f93ed20aa7491c9105e3af3f3eaae888e742836180b1e4e6d2b1"), looks := true }, kinds := [], alts := [], laidByText := true, laidKinds := [.data, .data, .data, .data, .handle, .sentinel, .sentinel, .pinned], laidTests := true, laidLooks := .later }
def MemberOneUptoCardSaid : Prop := Claim7.holds Tryz.pinned (.plain (OpenSpec.upto memberOneSpec)) memberOneUptoCard

/-- THE SECOND FORM's CARD OF 'revetmentkeep.MemberAlike'. -/
def memberAlikeUptoCard : Claim7 := { stood := { row := memberAlikeUptoRow, standIns := [], harness := (true, "a2d2e5175605f93ed20aa7491c9105e3af3f3eaae888e742836180b1e4e6d2b1"), looks := true }, kinds := [], alts := [], laidByText := true, laidKinds := [.data, .data, .data, .data, .handle, .sentinel, .sentinel, .pinned], laidTests := true, laidLooks := .later }
def MemberAlikeUptoCardSaid : Prop := Claim7.holds Tryz.pinned (.plain (OpenSpec.upto memberAlikeSpec)) memberAlikeUptoCard

/-- THE SECOND FORM's CARD OF 'revetmentkeep.MemberAt'. -/
def memberAtUptoCard : Claim7 := { stood := { row := memberAtUptoRow, standIns := [], harness := (true, "a2d2e5175605f93ed20aa7491c9105e3af3f3eaae888e742836180b1e4e6d2b1"), looks := true }, kinds := [], alts := [], laidByText := true, laidKinds := [.data, .data, .data, .data, .handle, .sentinel, .sentinel, .pinned], laidTests := true, laidLooks := .later }
def MemberAtUptoCardSaid : Prop := Claim7.holds Tryz.pinned (.plain (OpenSpec.upto memberAtSpec)) memberAtUptoCard

/-- THE SECOND FORM's CARD OF 'revetmentkeep.MemberBack'. -/
def memberBackUptoCard : Claim7 := { stood := { row := memberBackUptoRow, standIns := [], harness := (true, "a2d2e5175605f93ed20aa7491c9105e3af3f3eaae888e742836180b1e4e6d2b1"), looks := true }, kinds := [], alts := [], laidByText := true, laidKinds := [.data, .data, .data, .data, .handle, .sentinel, .sentinel, .pinned], laidTests := true, laidLooks := .later }
def MemberBackUptoCardSaid : Prop := Claim7.holds Tryz.pinned (.plain (OpenSpec.upto memberBackSpec)) memberBackUptoCard

/-- THE SECOND FORM's CARD OF 'revetmentkeep.MemberRoom'. -/
def memberRoomUptoCard : Claim7 := { stood := { row := memberRoomUptoRow, standIns := [], harness := (true, "a2d2e5175605f93ed20aa7491c9105e3af3f3eaae888e742836180b1e4e6d2b1"), looks := true }, kinds := [], alts := [], laidByText := true, laidKinds := [.data, .data, .data, .data, .handle, .sentinel, .sentinel, .pinned], laidTests := true, laidLooks := .later }
def MemberRoomUptoCardSaid : Prop := Claim7.holds Tryz.pinned (.plain (OpenSpec.upto memberRoomSpec)) memberRoomUptoCard

/-- THE SECOND FORM's CARD OF 'revetmentkeep.MemberOver'. -/
def memberOverUptoCard : Claim7 := { stood := { row := memberOverUptoRow, standIns := [], harness := (true, "a2d2e5175605f93ed20aa7491c9105e3af3f3eaae888e742836180b1e4e6d2b1"), looks := true }, kinds := [], alts := [], laidByText := true, laidKinds := [.data, .data, .data, .data, .handle, .sentinel, .sentinel, .pinned], laidTests := true, laidLooks := .later }
def MemberOverUptoCardSaid : Prop := Claim7.holds Tryz.pinned (.plain (OpenSpec.upto memberOverSpec)) memberOverUptoCard

/-- THE SECOND FORM's CARD OF 'revetmentkeep.StreamOne'. -/
def streamOneUptoCard : Claim7 := { stood := { row := streamOneUptoRow, standIns := [], harness := (true, "a2d2e5175605f93ed20aa7491c9105e3af3f3eaae888e742836180b1e4e6d2b1"), looks := true }, kinds := [], alts := [], laidByText := true, laidKinds := [.data, .data, .data, .data, .handle, .sentinel, .sentinel, .pinned], laidTests := true, laidLooks := .later }
def StreamOneUptoCardSaid : Prop := Claim7.holds Tryz.pinned (.plain (OpenSpec.upto streamOneSpec)) streamOneUptoCard

/-- THE SECOND FORM's CARD OF 'revetmentkeep.StreamMore'. -/
def streamMoreUptoCard : Claim7 := { stood := { row := streamMoreUptoRow, standIns := [], harness := (true, "a2d2e5175605f93ed20aa7491c9105e3af3f3eaae888e742836180b1e4e6d2b1"), looks := true }, kinds := [], alts := [], laidByText := true, laidKinds := [.data, .data, .data, .data, .handle, .sentinel, .sentinel, .pinned], laidTests := true, laidLooks := .later }
def StreamMoreUptoCardSaid : Prop := Claim7.holds Tryz.pinned (.plain (OpenSpec.upto streamMoreSpec)) streamMoreUptoCard

/-- THE SECOND FORM's CARD OF 'revetmentkeep.StreamGlobal'. -/
def streamGlobalUptoCard : Claim7 := { stood := { row := streamGlobalUptoRow, standIns := [], harness := (true, "a2d2e5175605f93ed20aa7491c9105e3af3f3eaae888e742836180b1e4e6d2b1"), looks := true }, kinds := [], alts := [], laidByText := true, laidKinds := [.data, .data, .data, .data, .handle, .sentinel, .sentinel, .pinned], laidTests := true, laidLooks := .later }
def StreamGlobalUptoCardSaid : Prop := Claim7.holds Tryz.pinned (.plain (OpenSpec.upto streamGlobalSpec)) streamGlobalUptoCard

/-- THE SECOND FORM's CARD OF 'revetmentkeep.StreamCut'. -/
def streamCutUptoCard : Claim7 := { stood := { row := streamCutUptoRow, standIns := [], harness := (true, "a2d2e5175605f93ed20aa7491c9105e3af3f3eaae888e742836180b1e4e6d2b1"), looks := true }, kinds := [], alts := [], laidByText := true, laidKinds := [.data, .data, .data, .data, .handle, .sentinel, .sentinel, .pinned], laidTests := true, laidLooks := .later }
def StreamCutUptoCardSaid : Prop := Claim7.holds Tryz.pinned (.plain (OpenSpec.upto streamCutSpec)) streamCutUptoCard

/-- THE SECOND FORM's CARD OF 'revetmentkeep.StreamBent'. -/
def streamBentUptoCard : Claim7 := { stood := { row := streamBentUptoRow, standIns := [], harness := (true, "a2d2e5175605f93ed20aa7491c9105e3af3f3eaae888e742836180b1e4e6d2b1"), looks := true }, kinds := [], alts := [], laidByText := true, laidKinds := [.data, .data, .data, .data, .handle, .sentinel, .sentinel, .pinned], laidTests := true, laidLooks := .later }
def StreamBentUptoCardSaid : Prop := Claim7.holds Tryz.pinned (.plain (OpenSpec.upto streamBentSpec)) streamBentUptoCard

/-- THE SECOND FORM's CARD OF 'revetmentkeep.StreamBack'. -/
def streamBackUptoCard : Claim7 := { stood := { row := streamBackUptoRow, standIns := [], harness := (true, "a2d2e5175605f93ed20aa7491c9105e3af3f3eaae888e742836180b1e4e6d2b1"), looks := true }, kinds := [], alts := [], laidByText := true, laidKinds := [.data, .data, .data, .data, .handle, .sentinel, .sentinel, .pinned], laidTests := true, laidLooks := .later }
def StreamBackUptoCardSaid : Prop := Claim7.holds Tryz.pinned (.plain (OpenSpec.upto streamBackSpec)) streamBackUptoCard
end Rows
end Go.Proofs.YtkhkjacnoiopcaaGreatDoor
