/-
  The fact on names that every statement on names looks at.
-/
import Derived.Test.YtfcpieffecinfaaDoorPathF
namespace Go.Proofs.YtfcpieffecinfaaDoor
open Go.RowKit

/-- A contract, from a first world on. -/
theorem at_of {w : World} {f : FuncId} {args : Array Value} {r : Value} (h : ∀ w', Below w.heap.size w w' → Calls Tryd.prog f args w' fun e w'' => e = .returned r ∧ Below w'.heap.size w' w'') :
    ∀ w', Below w.heap.size w w' → Calls Tryd.prog f args w' fun e w'' => e = .returned r ∧ Below w.heap.size w w'' :=
  fun w' hb => (h w' hb).mono fun _ _ ⟨he, h2⟩ => ⟨he, thenB hb h2⟩

theorem lit1 : Pth.clean [97, 47, 47, 98, 47, 46, 47, 46, 46, 47, 99, 47] = [97, 47, 99] ∧ Pth.cleanOk [97, 47, 47, 98, 47, 46, 47, 46, 46, 47, 99, 47] = true := by decide
theorem lit2 : Pth.cleanOk [97, 47, 46, 46, 47, 46, 46, 47, 98] = false := by decide
theorem lit3 : Pth.away [97, 47, 98, 47, 99] [97, 47, 100] = [46, 46, 47, 100] := by decide
theorem lit4 : Pth.right [97, 47, 98] = true := by decide
theorem lit5 : Pth.right [97, 47, 46, 46, 47, 98] = false := by decide

set_option maxRecDepth 100000 in
theorem wayed_any (w : World) (hm : ML w) : Calls Tryd.prog 10 #[] w fun e w' => e = .returned (.bool true) ∧ Below w.heap.size w w' := by
  have c1 := at_of (w := w) fun w' hb => clean_any ⟨#[97, 47, 47, 98, 47, 46, 47, 46, 46, 47, 99, 47]⟩ w' (by decide) (hm.below hb)
  have c2 := at_of (w := w) fun w' hb => clean_any ⟨#[97, 47, 46, 46, 47, 46, 46, 47, 98]⟩ w' (by decide) (hm.below hb)
  have c3 := at_of (w := w) fun w' hb => up_some [120, 47, 121] [122] w' (by decide) (by decide)
  have c4 := at_of (w := w) fun w' hb => away_any ⟨#[97, 47, 98, 47, 99]⟩ ⟨#[97, 47, 100]⟩ w' (hm.below hb) (by decide) (by decide)
  have c5 := at_of (w := w) fun w' hb => right_any ⟨#[97, 47, 98]⟩ w' (by decide) (hm.below hb)
  have c6 := at_of (w := w) fun w' hb => right_any ⟨#[97, 47, 46, 46, 47, 98]⟩ w' (by decide) (hm.below hb)
  rw [lit1.1, lit1.2] at c1
  obtain ⟨X, hX⟩ : ∃ X, X = bs (Pth.clean (⟨#[97, 47, 46, 46, 47, 46, 46, 47, 98]⟩ : ByteArray).data.toList) := ⟨_, rfl⟩
  rw [lit2, ← hX] at c2
  rw [lit3] at c4
  rw [lit4] at c5
  rw [lit5] at c6
  have C1 : Hid (∀ w', Below w.heap.size w w' → Calls Tryd.prog 17 #[.string ⟨#[97, 47, 47, 98, 47, 46, 47, 46, 46, 47, 99, 47]⟩] w' fun e w'' => e = .returned (.tuple #[.string ⟨#[97, 47, 99]⟩, .bool true]) ∧ Below w.heap.size w w'') := c1
  have C2 := Lib.hid c2
  have C3 : Hid (∀ w', Below w.heap.size w w' → Calls Tryd.prog 13 #[.string ⟨#[120, 47, 121, 47, 122]⟩] w' fun e w'' => e = .returned (.tuple #[.string ⟨#[120, 47, 121]⟩, .string ⟨#[122]⟩]) ∧ Below w.heap.size w w'') := c3
  have C4 : Hid (∀ w', Below w.heap.size w w' → Calls Tryd.prog 16 #[.string ⟨#[97, 47, 98, 47, 99]⟩, .string ⟨#[97, 47, 100]⟩] w' fun e w'' => e = .returned (.string ⟨#[46, 46, 47, 100]⟩) ∧ Below w.heap.size w w'') := c4
  have C5 := Lib.hid c5
  have C6 := Lib.hid c6
  clear c1 c2 c3 c4 c5 c6 hX hm
  go_enter Tryd.func10, Tryd.ntmps10
  go_wp2_with fail
  refine (C1.out _ (Below.refl _ _)).mono ?_
  rintro e w1 ⟨rfl, h⟩
  have B1 := Lib.hid h
  clear h
  go_wp2_with fail
  refine (C2.out _ B1.out).mono ?_
  rintro e w2 ⟨rfl, h⟩
  have B2 := Lib.hid h
  clear h
  go_wp2_with fail
  refine (C3.out _ B2.out).mono ?_
  rintro e w3 ⟨rfl, h⟩
  have B3 := Lib.hid h
  clear h
  go_wp2_with fail
  refine (C4.out _ B3.out).mono ?_
  rintro e w4 ⟨rfl, h⟩
  have B4 := Lib.hid h
  clear h
  go_wp2_with fail
  refine (C5.out _ B4.out).mono ?_
  rintro e w5 ⟨rfl, h⟩
  have B5 := Lib.hid h
  clear h
  go_wp2_with fail
  refine (C6.out _ B5.out).mono ?_
  rintro e w6 ⟨rfl, h⟩
  have B6 := Lib.hid h
  clear h
  go_wp2_with fail
  go_ret
  exact ⟨rfl, B6.out⟩

end Go.Proofs.YtfcpieffecinfaaDoor
