/-
  pick: one of n that a number stands for.
-/
import Derived.Test.YtehooifcgfkngaaDoorBase
namespace Go.Proofs.YtehooifcgfkngaaDoor
open Go.RowKit

def pickN (a n : Int) : Int := (a % 18446744073709551616) % n
theorem pickN_lo (a n : Int) (h : 0 < n) : 0 ≤ pickN a n := Int.emod_nonneg _ (by omega)
theorem pickN_hi (a n : Int) (h : 0 < n) : pickN a n < n := Int.emod_lt_of_pos _ h

theorem pick_any (a n : Int) (w : World) (h1 : 0 < n) (h2 : n < 9223372036854775808) :
    Calls Tryd.prog 13 #[.int .i64 a, .int .i64 n] w fun e w' => e = .returned (.int .i64 (pickN a n)) ∧ w' = w := by
  go_enter Tryd.func13, Tryd.ntmps13
  go_wp2
  go_ret
  refine ⟨congrArg (fun x => Ending.returned (Value.int .i64 x)) ?_, rfl⟩
  rw [IntKind.wrap_u64]
  have e : (a % 18446744073709551616).tmod n = pickN a n := Int.tmod_eq_emod_of_nonneg (by omega)
  rw [e]
  have := pickN_lo a n h1
  have := pickN_hi a n h1
  exact IntWalk.wrap64_in _ (by omega)

end Go.Proofs.YtehooifcgfkngaaDoor
