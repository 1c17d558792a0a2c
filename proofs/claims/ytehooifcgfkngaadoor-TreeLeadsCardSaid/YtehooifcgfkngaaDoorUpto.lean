/-
  A walk that halts at a region: 'repeat (fail_if_success (refine halt_at n ?_); ..)'.
-/
import Derived.Test.YtehooifcgfkngaaDoorBase
namespace Go.Proofs.YtehooifcgfkngaaDoor
open Go.RowKit
structure Halted (p : Prop) : Prop where
  go : p
theorem halt_at (n : Nat) {P : Program} {ops : Array Oper} {d : Bool} {Q : Exit → Act → World → Prop} {a : Act} {w : World} (h : Halted (Code.wp P (.region n ops d) Q a w)) : Code.wp P (.region n ops d) Q a w := h.go
end Go.Proofs.YtehooifcgfkngaaDoor
