/-
  DERIVED. GIVEN WITH THE SEED: THE CARDS: each row of YtfcpieffecinfaaDoorRows.lean that lists a variable, with what it lists TIED to the program's text (the seventh form; the later family's looks); each row that meets fmt, with fmt's text TOLD by the authors' own Lean function (tested against real Go, not proved from fmt's source: count such statements apart). THE CARD IS WHAT COUNTS. Prove the row's statement (the work); the ties are given (YtfcpieffecinfaaDoorTie.lean); close each card by the builder's one call (the guide's Derived/Test/ToyasCard.lean, 'card_holds'). Laid BY PROGRAM, IN A SANDBOX (cutbox-door.mjs). By AI agents, Wed Nov 11 2026. No macro, syntax, notation, axiom, sorry.
-/
import Derived.Test.YtfcpieffecinfaaDoorRows
import GoSem.ClaimSeven
namespace Go.Proofs.YtfcpieffecinfaaDoor
namespace Rows

/-- THE TIED CARD OF 'revetmentkeep.PathUnder'. -/
def pathUnderCard : Claim7 := { stood := { row := pathUnderRow, standIns := [], harness := (true, "fae38aefa1d7fcf09785f4141eb20b20e927e228e7c6ca42a3839fc8fb8c7519"), looks := false }, kinds := [], alts := [], laidByText := true, laidKinds := [.data, .pinned], laidTests := true, laidLooks := .later }
def PathUnderCardSaid : Prop := Claim7.holds Tryd.pinned (.plain (OpenSpec.ofChange pathUnderSpec)) pathUnderCard

/-- THE TIED CARD OF 'revetmentkeep.PathUp'. -/
def pathUpCard : Claim7 := { stood := { row := pathUpRow, standIns := [], harness := (true, "fae38aefa1d7fcf09785f4141eb20b20e927e228e7c6ca42a3839fc8fb8c7519"), looks := false }, kinds := [], alts := [], laidByText := true, laidKinds := [.data, .pinned], laidTests := true, laidLooks := .later }
def PathUpCardSaid : Prop := Claim7.holds Tryd.pinned (.plain (OpenSpec.ofChange pathUpSpec)) pathUpCard

/-- THE TIED CARD OF 'revetmentkeep.PathAway'. -/
def pathAwayCard : Claim7 := { stood := { row := pathAwayRow, standIns := [], harness := (true, "fae38aefa1d7fcf09785f4141eb20b20e927e228e7c6ca42a3839fc8fb8c7519"), looks := false }, kinds := [], alts := [], laidByText := true, laidKinds := [.data, .pinned], laidTests := true, laidLooks := .later }
def PathAwayCardSaid : Prop := Claim7.holds Tryd.pinned (.plain (OpenSpec.ofChange pathAwaySpec)) pathAwayCard

/-- THE TIED CARD OF 'revetmentkeep.PathOnce'. -/
def pathOnceCard : Claim7 := { stood := { row := pathOnceRow, standIns := [], harness := (true, "fae38aefa1d7fcf09785f4141eb20b20e927e228e7c6ca42a3839fc8fb8c7519"), looks := false }, kinds := [], alts := [], laidByText := true, laidKinds := [.data, .pinned], laidTests := true, laidLooks := .later }
def PathOnceCardSaid : Prop := Claim7.holds Tryd.pinned (.plain (OpenSpec.ofChange pathOnceSpec)) pathOnceCard

/-- THE TIED CARD OF 'revetmentkeep.PathSplit'. -/
def pathSplitCard : Claim7 := { stood := { row := pathSplitRow, standIns := [], harness := (true, "fae38aefa1d7fcf09785f4141eb20b20e927e228e7c6ca42a3839fc8fb8c7519"), looks := false }, kinds := [], alts := [], laidByText := true, laidKinds := [.data, .pinned], laidTests := true, laidLooks := .later }
def PathSplitCardSaid : Prop := Claim7.holds Tryd.pinned (.plain (OpenSpec.ofChange pathSplitSpec)) pathSplitCard

/-- THE TIED CARD OF 'revetmentkeep.PathAdds'. -/
def pathAddsCard : Claim7 := { stood := { row := pathAddsRow, standIns := [], harness := (true, "fae38aefa1d7fcf09785f4141eb20b20e927e228e7c6ca42a3839fc8fb8c7519"), looks := false }, kinds := [], alts := [], laidByText := true, laidKinds := [.data, .pinned], laidTests := true, laidLooks := .later }
def PathAddsCardSaid : Prop := Claim7.holds Tryd.pinned (.plain (OpenSpec.ofChange pathAddsSpec)) pathAddsCard

/-- THE TIED CARD OF 'revetmentkeep.PathOrder'. -/
def pathOrderCard : Claim7 := { stood := { row := pathOrderRow, standIns := [], harness := (true, "fae38aefa1d7fcf09785f4141eb20b20e927e228e7c6ca42a3839fc8fb8c7519"), looks := false }, kinds := [], alts := [], laidByText := true, laidKinds := [.data, .pinned], laidTests := true, laidLooks := .later }
def PathOrderCardSaid : Prop := Claim7.holds Tryd.pinned (.plain (OpenSpec.ofChange pathOrderSpec)) pathOrderCard

/-- THE SECOND FORM's CARD OF 'revetmentkeep.PathUnder'. -/
def pathUnderUptoCard : Claim7 := { stood := { row := pathUnderUptoRow, standIns := [], harness := (true, "fae38aefa1d7fcf09785f4141eb20b20e927e228e7c6ca42a3839fc8fb8c7519"), looks := false }, kinds := [], alts := [], laidByText := true, laidKinds := [.data, .pinned], laidTests := true, laidLooks := .later }
def PathUnderUptoCardSaid : Prop := Claim7.holds Tryd.pinned (.plain (OpenSpec.upto pathUnderSpec)) pathUnderUptoCard

/-- THE SECOND FORM's CARD OF 'revetmentkeep.PathUp'. -/
def pathUpUptoCard : Claim7 := { stood := { row := pathUpUptoRow, standIns := [], harness := (true, "fae38aefa1d7fcf09785f4141eb20b20e927e228e7c6ca42a3839fc8fb8c7519"), looks := false }, kinds := [], alts := [], laidByText := true, laidKinds := [.data, .pinned], laidTests := true, laidLooks := .later }
def PathUpUptoCardSaid : Prop := Claim7.holds Tryd.pinned (.plain (OpenSpec.upto pathUpSpec)) pathUpUptoCard

/-- THE SECOND FORM's CARD OF 'revetmentkeep.PathAway'. -/
def pathAwayUptoCard : Claim7 := { stood := { row := pathAwayUptoRow, standIns := [], harness := (true, "fae38aefa1d7fcf09785f4141eb20b20e927e228e7c6ca42a3839fc8fb8c7519"), looks := false }, kinds := [], alts := [], laidByText := true, laidKinds := [.data, .pinned], laidTests := true, laidLooks := .later }
def PathAwayUptoCardSaid : Prop := Claim7.holds Tryd.pinned (.plain (OpenSpec.upto pathAwaySpec)) pathAwayUptoCard

/-- THE SECOND FORM's CARD OF 'revetmentkeep.PathOnce'. -/
def pathOnceUptoCard : Claim7 := { stood := { row := pathOnceUptoRow, standIns := [], harness := (true, "fae38aefa1d7fcf09785f4141eb20b20e927e228e7c6ca42a3839fc8fb8c7519"), looks := false }, kinds := [], alts := [], laidByText := true, laidKinds := [.data, .pinned], laidTests := true, laidLooks := .later }
def PathOnceUptoCardSaid : Prop := Claim7.holds Tryd.pinned (.plain (OpenSpec.upto pathOnceSpec)) pathOnceUptoCard

/-- THE SECOND FORM's CARD OF 'revetmentkeep.PathSplit'. -/
def pathSplitUptoCard : Claim7 := { stood := { row := pathSplitUptoRow, standIns := [], harness := (true, "fae38aefa1d7fcf09785f4141eb20b20e927e228e7c6ca42a3839fc8fb8c7519"), looks := false }, kinds := [], alts := [], laidByText := true, laidKinds := [.data, .pinned], laidTests := true, laidLooks := .later }
def PathSplitUptoCardSaid : Prop := Claim7.holds Tryd.pinned (.plain (OpenSpec.upto pathSplitSpec)) pathSplitUptoCard

/-- THE SECOND FORM's CARD OF 'revetmentkeep.PathAdds'. -/
def pathAddsUptoCard : Claim7 := { stood := { row := pathAddsUptoRow, standIns := [], harness := (true, "fae38aefa1d7fcf09785f4141eb20b20e927e228e7c6ca42a3839fc8fb8c7519"), looks := false }, kinds := [], alts := [], laidByText := true, laidKinds := [.data, .pinned], laidTests := true, laidLooks := .later }
def PathAddsUptoCardSaid : Prop := Claim7.holds Tryd.pinned (.plain (OpenSpec.upto pathAddsSpec)) pathAddsUptoCard

/-- THE SECOND FORM's CARD OF 'revetmentkeep.PathOrder'. -/
def pathOrderUptoCard : Claim7 := { stood := { row := pathOrderUptoRow, standIns := [], harness := (true, "fae38aefa1d7fcf09785f4141eb20b20e927e228e7c6ca42a3839fc8fb8c7519"), looks := false }, kinds := [], alts := [], laidByText := true, laidKinds := [.data, .pinned], laidTests := true, laidLooks := .later }
def PathOrderUptoCardSaid : Prop := Claim7.holds Tryd.pinned (.plain (OpenSpec.upto pathOrderSpec)) pathOrderUptoCard
end Rows
end Go.Proofs.YtfcpieffecinfaaDoor
