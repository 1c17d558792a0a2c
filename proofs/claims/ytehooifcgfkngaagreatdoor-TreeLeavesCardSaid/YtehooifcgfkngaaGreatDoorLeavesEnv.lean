/-
  What TreeLeaves asks of the world.
-/
import Derived.Test.YtehooifcgfkngaaGreatDoorTreeQ
import Derived.Test.YtehooifcgfkngaaGreatDoorTell
namespace Go.Proofs.YtehooifcgfkngaaGreatDoor
open Go.RowKit

structure EnvL (w : World) : Prop where
  ml : ML w
  er : ErrT w
theorem EnvL.below {w w' : World} (h : EnvL w) (hb : Below w.heap.size w w') : EnvL w' := ⟨h.ml.below hb, h.er.below hb⟩
theorem env_of {l : List (String × DataW Unit)} {W : World} (h : laidMetH Tryz.prog l W)
    (hl : (l.filter fun x => x.1 == "errors.errorType") = [("errors.errorType", Rows.laid_errors_errorType)]) (hs : W.ShapedOpen Tryz.prog) : EnvL W := by
  refine ⟨ml_of_shape hs, errT_of_laid h ?_⟩
  have hm : ("errors.errorType", Rows.laid_errors_errorType) ∈ l.filter fun x => x.1 == "errors.errorType" := by rw [hl]; simp
  exact (List.mem_filter.1 hm).1

end Go.Proofs.YtehooifcgfkngaaGreatDoor
