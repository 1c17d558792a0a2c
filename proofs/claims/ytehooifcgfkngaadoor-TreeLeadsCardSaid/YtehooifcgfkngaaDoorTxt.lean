/-
  Texts by their bytes.
-/
import Derived.Test.YtehooifcgfkngaaDoorBase
import Derived.Lib.Strings
import Derived.Laws.Concat
namespace Go.Proofs.YtehooifcgfkngaaDoor
open Go.RowKit

theorem ba_ext {a b : ByteArray} (h : a.data.toList = b.data.toList) : a = b := by
  cases a with
  | mk a => cases b with
    | mk b => exact congrArg ByteArray.mk (Array.toList_inj.1 h)

theorem list_size (s : ByteArray) : s.data.toList.length = s.size := by simp
theorem size_rep {A : ByteArray} {c : UInt8} {k : Nat} (h : A.data.toList = List.replicate k c) : A.size = k := by
  have := congrArg List.length h
  rw [List.length_replicate] at this
  rw [← this]; rfl

theorem cat_list (a b : ByteArray) : (a ++ b).data.toList = a.data.toList ++ b.data.toList := by simp
theorem ext_list (a : ByteArray) (i j : Nat) : (a.extract i j).data.toList = (a.data.toList.take j).drop i := by
  simp [ByteArray.data_extract, Array.toList_extract, List.extract_eq_take_drop, List.drop_take]
theorem ext_end (a : ByteArray) (i : Nat) : (a.extract i a.size).data.toList = a.data.toList.drop i := by
  rw [ext_list, List.take_of_length_le (by simp)]
theorem ext_to (a : ByteArray) (j : Nat) : (a.extract 0 j).data.toList = a.data.toList.take j := by
  rw [ext_list, List.drop_zero]
theorem ext_mid (a : ByteArray) (i n : Nat) : (a.extract i (i + n)).data.toList = (a.data.toList.drop i).take n := by
  rw [ext_list, List.drop_take, Nat.add_sub_cancel_left]
theorem ext_size (a : ByteArray) (i j : Nat) (h : j ≤ a.size) : (a.extract i j).size = j - i := by simp [ByteArray.size_extract, Nat.min_eq_left h]

end Go.Proofs.YtehooifcgfkngaaDoor
