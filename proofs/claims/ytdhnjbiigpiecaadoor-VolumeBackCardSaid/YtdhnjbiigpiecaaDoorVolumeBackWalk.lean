/-
  VolumeBack, of its arguments as they came.
-/
import Derived.Test.YtdhnjbiigpiecaaDoorVolG
import Derived.OpenShut
namespace Go.Proofs.YtdhnjbiigpiecaaDoor
open Go.RowKit

set_option maxRecDepth 100000 in
theorem volumeBack_walk (s : ByteArray) (_hs : s.size ≤ 140737488351232) (blocks : Int) (_hb : (Lit.int .i64 blocks).wf = true) {H : Type} {enc : TypeId × Value → H} {d : DataW H} {ps : List MemPlace} {base : Nat} (ov : Value) {w : World} (hok : Value.okWide Tryd.prog w .any base 35 ov)
    (h : DataW.Trod enc Tryd.prog w 0 (fun _ => true) true 35 ov d ps) (drop : Int) (_hd : (Lit.int .i64 drop).wf = true) (hL : laidMetH Tryd.prog Rows.volumeBackRow.laid w) :
    Calls Tryd.prog 4 #[.string s, .int .i64 blocks, ov, .int .i64 drop] w fun e w' => e = .returned (.bool true) ∧ Below w.heap.size w w' := by
  obtain ⟨m, hm⟩ := ints_of hok h
  exact volumeBack_main s blocks drop ov m w (errT_of_laid hL (by simp [Rows.volumeBackRow, Rows.laid_errors_errorType])) hm

end Go.Proofs.YtdhnjbiigpiecaaDoor
