/-
  timed: a time from two whole numbers.
-/
import Derived.Test.YtehooifcgfkngaaDoorPick
namespace Go.Proofs.YtehooifcgfkngaaDoor
open Go.RowKit

def secOf (a : Int) : Int := pickN a 2199023255553 - 1099511627776
def nanoOf (a : Int) : Int := pickN a 1000000000
theorem timed_bd (a b : Int) : -1099511627776 ≤ secOf a ∧ secOf a ≤ 1099511627776 ∧ 0 ≤ nanoOf b ∧ nanoOf b < 1000000000 := by
  have h1 := pickN_lo a 2199023255553 (by omega)
  have h2 := pickN_hi a 2199023255553 (by omega)
  have h3 := pickN_lo b 1000000000 (by omega)
  have h4 := pickN_hi b 1000000000 (by omega)
  unfold secOf nanoOf; omega
theorem timed_any (a b : Int) (w : World) : Calls Tryd.prog 16 #[.int .i64 a, .int .i64 b] w fun e w' => e = .returned (.agg #[.int .i64 (secOf a), .int .i64 (nanoOf b)]) ∧ Below w.heap.size w w' := by
  have h1 := pickN_lo a 2199023255553 (by omega)
  have h2 := pickN_hi a 2199023255553 (by omega)
  have hp1 := fun w => pick_any a 2199023255553 w (by omega) (by omega)
  have hp2 := fun w => pick_any b 1000000000 w (by omega) (by omega)
  unfold secOf nanoOf
  obtain ⟨x, hx⟩ : ∃ x, x = pickN a 2199023255553 := ⟨_, rfl⟩
  obtain ⟨y, hy⟩ : ∃ y, y = pickN b 1000000000 := ⟨_, rfl⟩
  rw [← hx] at hp1 h1 h2 ⊢
  rw [← hy] at hp2 ⊢
  have P1 := Lib.hid hp1
  have P2 := Lib.hid hp2
  clear hp1 hp2 hx hy
  go_enter Tryd.func16, Tryd.ntmps16
  go_wp2_with fail
  refine (P1.out _).mono ?_
  rintro e w1 ⟨rfl, rfl⟩
  go_wp2_with fail
  refine (P2.out _).mono ?_
  rintro e w1 ⟨rfl, rfl⟩
  go_wp2_with fail
  refine bodyPost_ret (v := .agg #[.int .i64 (x - 1099511627776), .int .i64 y]) (by simp [results, Tryd.results16, go_sem]) rfl ⟨rfl, ?_⟩
  repeat refine Below.setCell ?_ (by first | exact Nat.le_refl _ | simp) _
  exact (Below.refl _ _).alloc (Nat.le_refl _) _

end Go.Proofs.YtehooifcgfkngaaDoor
