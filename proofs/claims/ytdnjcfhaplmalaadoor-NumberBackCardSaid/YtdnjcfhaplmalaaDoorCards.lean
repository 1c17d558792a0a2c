/-
  DERIVED. GIVEN WITH THE SEED: THE CARDS: each row of YtdnjcfhaplmalaaDoorRows.lean that lists a variable, with what it lists TIED to the program's text (the seventh form; the later family's looks); each row that meets fmt, with fmt's text TOLD by the authors' own Lean function (tested against real Go, not proved from fmt's source: count such statements apart). THE CARD IS WHAT COUNTS. Prove the row's statement (the work); the ties are given (YtdnjcfhaplmalaaDoorTie.lean); close each card by the builder's one call (the guide's Derived/Test/ToyasCard.lean, 'card_holds'). Laid BY PROGRAM, IN A SANDBOX (cutbox-door.mjs). By AI agents, Wed Nov 11 2026. No macro, syntax, notation, axiom, sorry.
-/
import Derived.Test.YtdnjcfhaplmalaaDoorRows
import GoSem.ClaimSeven
namespace Go.Proofs.YtdnjcfhaplmalaaDoor
namespace Rows

/-- THE TIED CARD OF 'revetmentkeep.NumberOrder'. -/
def numberOrderCard : Claim7 := { stood := { row := numberOrderRow, standIns := [], harness := (true, "c348cc028c5d5e6309a2d7534ac31764823036cb058a61cb6cb86fccb80c9184"), looks := true }, kinds := [], alts := [], laidByText := true, laidKinds := [.data, .pinned], laidTests := true, laidLooks := .later }
def NumberOrderCardSaid : Prop := Claim7.holds Tryd.pinned (.plain (OpenSpec.ofChange numberOrderSpec)) numberOrderCard

/-- THE TIED CARD OF 'revetmentkeep.NumberOne'. -/
def numberOneCard : Claim7 := { stood := { row := numberOneRow, standIns := [], harness := (true, "c348cc028c5d5e6309a2d7534ac31764823036cb058a61cb6cb86fccb80c9184"), looks := true }, kinds := [], alts := [], laidByText := true, laidKinds := [.data, .pinned], laidTests := true, laidLooks := .later }
def NumberOneCardSaid : Prop := Claim7.holds Tryd.pinned (.plain (OpenSpec.ofChange numberOneSpec)) numberOneCard

/-- THE TIED CARD OF 'revetmentkeep.NumberBlind'. -/
def numberBlindCard : Claim7 := { stood := { row := numberBlindRow, standIns := [], harness := (true, "c348cc028c5d5e6309a2d7534ac31764823036cb058a61cb6cb86fccb80c9184"), looks := true }, kinds := [], alts := [], laidByText := true, laidKinds := [.data, .pinned], laidTests := true, laidLooks := .later }
def NumberBlindCardSaid : Prop := Claim7.holds Tryd.pinned (.plain (OpenSpec.ofChange numberBlindSpec)) numberBlindCard

/-- THE TIED CARD OF 'revetmentkeep.NumberBack'. -/
def numberBackCard : Claim7 := { stood := { row := numberBackRow, standIns := [], harness := (true, "c348cc028c5d5e6309a2d7534ac31764823036cb058a61cb6cb86fccb80c9184"), looks := true }, kinds := [], alts := [], laidByText := true, laidKinds := [.data, .handle, .pinned], laidTests := true, laidLooks := .later }
def NumberBackCardSaid : Prop := Claim7.holds Tryd.pinned (.plain (OpenSpec.ofChange numberBackSpec)) numberBackCard

/-- THE SECOND FORM's CARD OF 'revetmentkeep.NumberOrder'. -/
def numberOrderUptoCard : Claim7 := { stood := { row := numberOrderUptoRow, standIns := [], harness := (true, "c348cc028c5d5e6309a2d7534ac31764823036cb058a61cb6cb86fccb80c9184"), looks := true }, kinds := [], alts := [], laidByText := true, laidKinds := [.data, .pinned], laidTests := true, laidLooks := .later }
def NumberOrderUptoCardSaid : Prop := Claim7.holds Tryd.pinned (.plain (OpenSpec.upto numberOrderSpec)) numberOrderUptoCard

/-- THE SECOND FORM's CARD OF 'revetmentkeep.NumberOne'. -/
def numberOneUptoCard : Claim7 := { stood := { row := numberOneUptoRow, standIns := [], harness := (true, "c348cc028c5d5e6309a2d7534ac31764823036cb058a61cb6cb86fccb80c9184"), looks := true }, kinds := [], alts := [], laidByText := true, laidKinds := [.data, .pinned], laidTests := true, laidLooks := .later }
def NumberOneUptoCardSaid : Prop := Claim7.holds Tryd.pinned (.plain (OpenSpec.upto numberOneSpec)) numberOneUptoCard

/-- THE SECOND FORM's CARD OF 'revetmentkeep.NumberBlind'. -/
def numberBlindUptoCard : Claim7 := { stood := { row := numberBlindUptoRow, standIns := [], harness := (true, "c348cc028c5d5e6309a2d7534ac31764823036cb058a61cb6cb86fccb80c9184"), looks := true }, kinds := [], alts := [], laidByText := true, laidKinds := [.data, .pinned], laidTests := true, laidLooks := .later }
def NumberBlindUptoCardSaid : Prop := Claim7.holds Tryd.pinned (.plain (OpenSpec.upto numberBlindSpec)) numberBlindUptoCard

/-- THE SECOND FORM's CARD OF 'revetmentkeep.NumberBack'. -/
def numberBackUptoCard : Claim7 := { stood := { row := numberBackUptoRow, standIns := [], harness := (true, "c348cc028c5d5e6309a2d7534ac31764823036cb058a61cb6cb86fccb80c9184"), looks := true }, kinds := [], alts := [], laidByText := true, laidKinds := [.data, .handle, .pinned], laidTests := true, laidLooks := .later }
def NumberBackUptoCardSaid : Prop := Claim7.holds Tryd.pinned (.plain (OpenSpec.upto numberBackSpec)) numberBackUptoCard
end Rows
end Go.Proofs.YtdnjcfhaplmalaaDoor
