/-
  number.Read at a wide field; the fact fielded.
-/
import Derived.Test.YtdnjcfhaplmalaaDoorNumD
import Derived.Test.YtdnjcfhaplmalaaDoorNumB
import Derived.Test.YtdnjcfhaplmalaaDoorNumN
import Derived.Test.YtdnjcfhaplmalaaDoorPick
namespace Go.Proofs.YtdnjcfhaplmalaaDoor
open Go.RowKit

theorem octal_8 (w : World) : Calls Tryd.prog 9 #[.int .i64 8, .int .i64 4] w fun e w' => e = .returned (.tuple #[.string ⟨#[48, 49, 48, 0]⟩, .nilIface]) ∧ Below w.heap.size w w' :=
  octal_any 8 4 w (by decide) (by decide) (by decide)
theorem binary_2 (w : World) : Calls Tryd.prog 15 #[.int .i64 (-2), .int .i64 8] w fun e w' => e = .returned (.tuple #[.string ⟨#[255, 255, 255, 255, 255, 255, 255, 254]⟩, .nilIface]) ∧ Below w.heap.size w w' :=
  (by have h : (binLaw (-2) 8).toArray = #[255, 255, 255, 255, 255, 255, 255, 254] := by decide
      rw [← h]; exact binary_eight (-2) w (by decide) (by decide))
theorem read_15 (w : World) : Calls Tryd.prog 11 #[.string ⟨#[32, 32, 48, 49, 55, 32, 0]⟩] w fun e w' => e = .returned (.tuple #[.int .i64 15, .nilIface]) ∧ Below w.heap.size w w' := by
  have h : readGo (trimmed [32, 32, 48, 49, 55, 32, 0]) 0 = some (some 15) := by decide
  have := read_low ⟨#[32, 32, 48, 49, 55, 32, 0]⟩ (by decide) (by decide) (by decide) w
  rw [h] at this
  exact this
theorem most_3 (w : World) : Calls Tryd.prog 14 #[.int .i64 3] w fun e w' => e = .returned (.int .i64 63) ∧ w' = w :=
  most_any 3 w (by decide) (by decide)

set_option maxRecDepth 100000 in
theorem fielded_any (w : World) : Calls Tryd.prog 7 #[] w fun e w' => e = .returned (.bool true) ∧ Below w.heap.size w w' := by
  go_enter Tryd.func7, Tryd.ntmps7
  go_wp2_with fail
  refine (octal_8 _).mono ?_
  rintro e w1 ⟨rfl, h1⟩
  go_wp2_with fail
  refine (binary_2 _).mono ?_
  rintro e w2 ⟨rfl, h2⟩
  have B2 := Lib.hid (thenB h1 h2)
  clear h1 h2
  go_wp2_with fail
  refine (read_15 _).mono ?_
  rintro e w3 ⟨rfl, h3⟩
  have B3 := Lib.hid (thenB B2.out h3)
  clear h3 B2
  go_wp2_with fail
  refine (most_3 _).mono ?_
  rintro e w4 ⟨rfl, rfl⟩
  go_wp2_with fail
  go_ret
  exact ⟨rfl, B3.out⟩

end Go.Proofs.YtdnjcfhaplmalaaDoor
