/-
  What a row lists gives the library's world.
-/
import Derived.Test.YtgkgjlcbappbkaaDoorStampD
import Derived.Test.YtgkgjlcbappbkaaDoorRows
import Derived.KernelRfl
namespace Go.Proofs.YtgkgjlcbappbkaaDoor
open Go.RowKit

theorem env_of {l : List (String × DataW Unit)} {W : World} (h : laidMetH Tryd.prog l W)
    (hl : (l.filter fun x => x.1 == "internal/strconv.uint64pow10") = [("internal/strconv.uint64pow10", Lib.tabData .u64 Lib.pow10Tab)]) (hs : W.ShapedOpen Tryd.prog) : Env W := by
  have h1 := h.filter fun x => x.1 == "internal/strconv.uint64pow10"
  rw [hl, MakeChecks.laidMetH_plain _ _ _ (by kernel_rfl)] at h1
  exact ⟨Tryd.laysM219.s1_3 W hs, Lib.tabIs_of_head pow_no (t := 120) (e := 85) (n := 20) (by kernel_rfl) (by kernel_rfl) (by kernel_rfl) (by kernel_rfl) (by kernel_rfl) h1⟩

end Go.Proofs.YtgkgjlcbappbkaaDoor
