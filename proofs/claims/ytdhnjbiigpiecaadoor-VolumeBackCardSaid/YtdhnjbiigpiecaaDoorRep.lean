/-
  strings.Repeat of one byte.
-/
import Derived.Test.YtdhnjbiigpiecaaDoorTxt
import Derived.Test.YtdhnjbiigpiecaaDoorShelf
import Derived.Lib.Repeat
namespace Go.Proofs.YtdhnjbiigpiecaaDoor
open Go.RowKit

theorem rep_named (c : UInt8) (k : Nat) (hk : k ≤ 1000000) : ∃ A : ByteArray, A.data.toList = List.replicate k c ∧ ∀ w : World, Calls Tryd.prog 12 #[.string ⟨#[c]⟩, .int .i64 k] w fun e w' => e = .returned (.string A) ∧ Below w.heap.size w w' := by
  refine ⟨⟨(Lib.repeatL [c] k).toArray⟩, ?_, fun w => Tryd.strings_Repeat ⟨#[c]⟩ k w (by omega) (by show 1 * k ≤ _; omega)⟩
  show Lib.repeatL [c] k = _
  have := Lib.repeatL_replicate c 1 k
  rw [Nat.mul_one] at this
  exact this

end Go.Proofs.YtdhnjbiigpiecaaDoor
