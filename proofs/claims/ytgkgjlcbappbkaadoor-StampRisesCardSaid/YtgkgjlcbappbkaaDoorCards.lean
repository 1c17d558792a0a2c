/-
  DERIVED. GIVEN WITH THE SEED: THE CARDS: each row of YtgkgjlcbappbkaaDoorRows.lean that lists a variable, with what it lists TIED to the program's text (the seventh form; the later family's looks); each row that meets fmt, with fmt's text TOLD by the authors' own Lean function (tested against real Go, not proved from fmt's source: count such statements apart). THE CARD IS WHAT COUNTS. Prove the row's statement (the work); the ties are given (YtgkgjlcbappbkaaDoorTie.lean); close each card by the builder's one call (the guide's Derived/Test/ToyasCard.lean, 'card_holds'). Laid BY PROGRAM, IN A SANDBOX (cutbox-door.mjs). By AI agents, Wed Nov 11 2026. No macro, syntax, notation, axiom, sorry.
-/
import Derived.Test.YtgkgjlcbappbkaaDoorRows
import GoSem.ClaimSeven
namespace Go.Proofs.YtgkgjlcbappbkaaDoor
namespace Rows

/-- THE TIED CARD OF 'revetmentkeep.StampDays'. -/
def stampDaysCard : Claim7 := { stood := { row := stampDaysRow, standIns := [], harness := (true, "1f45fca1909d4035b8566f29f2d8a434213b5bc95e3072cb280ac8dc51365816"), looks := true }, kinds := [], alts := [], laidByText := true, laidKinds := [.data, .data, .data, .data, .sentinel, .sentinel, .pinned], laidTests := true, laidLooks := .later }
def StampDaysCardSaid : Prop := Claim7.holds Tryd.pinned (.plain (OpenSpec.ofChange stampDaysSpec)) stampDaysCard

/-- THE TIED CARD OF 'revetmentkeep.StampOne'. -/
def stampOneCard : Claim7 := { stood := { row := stampOneRow, standIns := [], harness := (true, "1f45fca1909d4035b8566f29f2d8a434213b5bc95e3072cb280ac8dc51365816"), looks := true }, kinds := [], alts := [], laidByText := true, laidKinds := [.data, .data, .data, .data, .sentinel, .sentinel, .pinned], laidTests := true, laidLooks := .later }
def StampOneCardSaid : Prop := Claim7.holds Tryd.pinned (.plain (OpenSpec.ofChange stampOneSpec)) stampOneCard

/-- THE TIED CARD OF 'revetmentkeep.StampOrder'. -/
def stampOrderCard : Claim7 := { stood := { row := stampOrderRow, standIns := [], harness := (true, "1f45fca1909d4035b8566f29f2d8a434213b5bc95e3072cb280ac8dc51365816"), looks := true }, kinds := [], alts := [], laidByText := true, laidKinds := [.data, .data, .data, .data, .sentinel, .sentinel, .pinned], laidTests := true, laidLooks := .later }
def StampOrderCardSaid : Prop := Claim7.holds Tryd.pinned (.plain (OpenSpec.ofChange stampOrderSpec)) stampOrderCard

/-- THE TIED CARD OF 'revetmentkeep.StampRises'. -/
def stampRisesCard : Claim7 := { stood := { row := stampRisesRow, standIns := [], harness := (true, "1f45fca1909d4035b8566f29f2d8a434213b5bc95e3072cb280ac8dc51365816"), looks := true }, kinds := [], alts := [], laidByText := true, laidKinds := [.data, .data, .data, .data, .sentinel, .sentinel, .pinned], laidTests := true, laidLooks := .later }
def StampRisesCardSaid : Prop := Claim7.holds Tryd.pinned (.plain (OpenSpec.ofChange stampRisesSpec)) stampRisesCard

/-- THE TIED CARD OF 'revetmentkeep.StampBack'. -/
def stampBackCard : Claim7 := { stood := { row := stampBackRow, standIns := [], harness := (true, "1f45fca1909d4035b8566f29f2d8a434213b5bc95e3072cb280ac8dc51365816"), looks := true }, kinds := [], alts := [], laidByText := true, laidKinds := [.data, .data, .data, .data, .sentinel, .sentinel, .pinned], laidTests := true, laidLooks := .later }
def StampBackCardSaid : Prop := Claim7.holds Tryd.pinned (.plain (OpenSpec.ofChange stampBackSpec)) stampBackCard

/-- THE SECOND FORM's CARD OF 'revetmentkeep.StampDays'. -/
def stampDaysUptoCard : Claim7 := { stood := { row := stampDaysUptoRow, standIns := [], harness := (true, "1f45fca1909d4035b8566f29f2d8a434213b5bc95e3072cb280ac8dc51365816"), looks := true }, kinds := [], alts := [], laidByText := true, laidKinds := [.data, .data, .data, .data, .sentinel, .sentinel, .pinned], laidTests := true, laidLooks := .later }
def StampDaysUptoCardSaid : Prop := Claim7.holds Tryd.pinned (.plain (OpenSpec.upto stampDaysSpec)) stampDaysUptoCard

/-- THE SECOND FORM's CARD OF 'revetmentkeep.StampOne'. -/
def stampOneUptoCard : Claim7 := { stood := { row := stampOneUptoRow, standIns := [], harness := (true, "1f45fca1909d4035b8566f29f2d8a434213b5bc95e3072cb280ac8dc51365816"), looks := true }, kinds := [], alts := [], laidByText := true, laidKinds := [.data, .data, .data, .data, .sentinel, .sentinel, .pinned], laidTests := true, laidLooks := .later }
def StampOneUptoCardSaid : Prop := Claim7.holds Tryd.pinned (.plain (OpenSpec.upto stampOneSpec)) stampOneUptoCard

/-- THE SECOND FORM's CARD OF 'revetmentkeep.StampOrder'. -/
def stampOrderUptoCard : Claim7 := { stood := { row := stampOrderUptoRow, standIns := [], harness := (true, "1f45fca1909d4035b8566f29f2d8a434213b5bc95e3072cb280ac8dc51365816"), looks := true }, kinds := [], alts := [], laidByText := true, laidKinds := [.data, .data, .data, .data, .sentinel, .sentinel, .pinned], laidTests := true, laidLooks := .later }
def StampOrderUptoCardSaid : Prop := Claim7.holds Tryd.pinned (.plain (OpenSpec.upto stampOrderSpec)) stampOrderUptoCard

/-- THE SECOND FORM's CARD OF 'revetmentkeep.StampRises'. -/
def stampRisesUptoCard : Claim7 := { stood := { row := stampRisesUptoRow, standIns := [], harness := (true, "1f45fca1909d4035b8566f29f2d8a434213b5bc95e3072cb280ac8dc51365816"), looks := true }, kinds := [], alts := [], laidByText := true, laidKinds := [.data, .data, .data, .data, .sentinel, .sentinel, .pinned], laidTests := true, laidLooks := .later }
def StampRisesUptoCardSaid : Prop := Claim7.holds Tryd.pinned (.plain (OpenSpec.upto stampRisesSpec)) stampRisesUptoCard

/-- THE SECOND FORM's CARD OF 'revetmentkeep.StampBack'. -/
def stampBackUptoCard : Claim7 := { stood := { row := stampBackUptoRow, standIns := [], harness := (true, "1f45fca1909d4035b8566f29f2d8a434213b5bc95e3072cb280ac8dc51365816"), looks := true }, kinds := [], alts := [], laidByText := true, laidKinds := [.data, .data, .data, .data, .sentinel, .sentinel, .pinned], laidTests := true, laidLooks := .later }
def StampBackUptoCardSaid : Prop := Claim7.holds Tryd.pinned (.plain (OpenSpec.upto stampBackSpec)) stampBackUptoCard
end Rows
end Go.Proofs.YtgkgjlcbappbkaaDoor
