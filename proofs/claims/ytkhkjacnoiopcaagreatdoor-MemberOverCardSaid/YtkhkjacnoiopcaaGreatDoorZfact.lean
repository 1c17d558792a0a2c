/-
  The closed facts of MemberOver's row, each by itself (for all at once the kernel lacks the memory).
-/
import Derived.Test.YtkhkjacnoiopcaaGreatDoorRows
import Derived.JoinedOf
set_option linter.unusedVariables false
set_option linter.unusedSimpArgs false

namespace Go.Proofs.YtkhkjacnoiopcaaGreatDoor.memberOver
open Go
theorem andT {a b : Bool} (h1 : a = true) (h2 : b = true) : (a && b) = true := by rw [h1, h2]; rfl
set_option maxRecDepth 100000 in
set_option maxHeartbeats 16000000 in
theorem closed : joinedFacts Tryz.pinned.checked.prog 8 Tryz.f8 Rows.memberOverSpec Rows.memberOverRow = true := by
  unfold joinedFacts
  repeat' (with_reducible refine andT ?_ ?_)
  all_goals (as_aux_lemma => kernel_rfl)
end Go.Proofs.YtkhkjacnoiopcaaGreatDoor.memberOver
