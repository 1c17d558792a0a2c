/-
  same: a member and itself, wherever they lie; all: lists of the same members.
-/
import Derived.Test.YtkhkjacnoiopcaaGreatDoorZbk
import Derived.Test.YtkhkjacnoiopcaaGreatDoorZam
import Derived.Deep.LoopGhost
import Derived.BigQuiet
import Derived.Deep.QuietTactic
import Derived.Laws.StructEq
set_option linter.unusedVariables false
set_option linter.unusedSimpArgs false

set_option linter.unusedVariables false
set_option linter.unusedSimpArgs false
namespace Go.Proofs.YtkhkjacnoiopcaaGreatDoor
open Go.RowKit Tre Pk

theorem time_same (w : World) (a b : Int) : (binOp .eql 23 (.agg #[.int .i64 a, .int .i64 b]) (.agg #[.int .i64 a, .int .i64 b])).run Tryz.prog w = .ok (.bool true) w := by
  have h1 := Tryz.underlying3
  have h5 : Tryz.prog.stoodInHeld 23 = false := by kernel_rfl
  rw [run_eql_struct, run_equalIn_agg w 9999 23 _ _ (by kernel_rfl) (by kernel_rfl)]
  simp [go_sem, h1, h5]

end Go.Proofs.YtkhkjacnoiopcaaGreatDoor
