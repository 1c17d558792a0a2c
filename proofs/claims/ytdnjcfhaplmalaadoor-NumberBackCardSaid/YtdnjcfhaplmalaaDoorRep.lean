/-
  strings.Repeat of one byte; texts by their bytes.
-/
import Derived.Test.YtdnjcfhaplmalaaDoorBase
import Derived.Test.YtdnjcfhaplmalaaDoorShelf
import Derived.Lib.Repeat
namespace Go.Proofs.YtdnjcfhaplmalaaDoor
open Go.RowKit

theorem ba_ext {a b : ByteArray} (h : a.data.toList = b.data.toList) : a = b := by
  cases a with
  | mk a => cases b with
    | mk b => exact congrArg ByteArray.mk (Array.toList_inj.1 h)

theorem rep_named (c : UInt8) (k : Nat) (hk : k ≤ 1000000) : ∃ A : ByteArray, A.data.toList = List.replicate k c ∧ ∀ w : World, Calls Tryd.prog 12 #[.string ⟨#[c]⟩, .int .i64 k] w fun e w' => e = .returned (.string A) ∧ Below w.heap.size w w' := by
  refine ⟨⟨(Lib.repeatL [c] k).toArray⟩, ?_, fun w => Tryd.strings_Repeat ⟨#[c]⟩ k w (by omega) (by show 1 * k ≤ _; omega)⟩
  show Lib.repeatL [c] k = _
  have := Lib.repeatL_replicate c 1 k
  rw [Nat.mul_one] at this
  exact this

theorem cat_list (a b : ByteArray) : (a ++ b).data.toList = a.data.toList ++ b.data.toList := by simp
theorem ext_list (a : ByteArray) (i j : Nat) : (a.extract i j).data.toList = (a.data.toList.take j).drop i := by
  simp [ByteArray.data_extract, Array.toList_extract, List.extract_eq_take_drop, List.drop_take]
theorem ext_size (a : ByteArray) (i j : Nat) (h : j ≤ a.size) : (a.extract i j).size = j - i := by simp [ByteArray.size_extract, Nat.min_eq_left h]

end Go.Proofs.YtdnjcfhaplmalaaDoor
