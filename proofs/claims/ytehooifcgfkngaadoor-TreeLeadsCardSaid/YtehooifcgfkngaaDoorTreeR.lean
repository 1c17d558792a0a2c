/-
  What stays beside a tree that is told to change; what Get says; a file is the same as itself.
-/
import Derived.Test.YtehooifcgfkngaaDoorTreeQ
import Derived.Test.YtehooifcgfkngaaDoorNodeEq
namespace Go.Proofs.YtehooifcgfkngaaDoor
open Go.RowKit Go.Maps Tre

theorem Kept.blk {O : List Nat} {w w' : World} {g : Nat} {t : TypeId} {cs : Array Value} (h : Blk w g t cs) (k : Kept O w w') (hg : g ∉ O) : Blk w' g t cs := (k.block g h.lt hg).trans h
theorem Kept.row {O : List Nat} {w w' : World} {b off : Nat} {L : List Pth.Bs} (h : RowS w b off L) (k : Kept O w w') (hb : b < w.heap.size) (hg : b ∉ O) : RowS w' b off L :=
  fun j hj => (World.cell?_of_block (w := w) (a := ⟨b, off + j, none⟩) (k.block b hb hg)).trans (h j hj)
theorem getV_of {t : T} {s : Pth.Bs} {k : Nat} (h : Tre.look t.ents s = some k) : getV t s = .tuple #[ndv (t.file k), .nilIface] := by unfold getV; rw [h]
theorem getV_none {t : T} {s : Pth.Bs} (h : Tre.look t.ents s = none) : getV t s = .tuple #[ndv zero, .iface 67 (.int .i64 7)] := by unfold getV; rw [h]
theorem node_same (a : Nd) (w : World) : (binOp .eql 35 (ndv a) (ndv a)).run Tryd.prog w = .ok (.bool true) w := by rw [node_eql, (nodeB_iff a a).2 rfl]

end Go.Proofs.YtehooifcgfkngaaDoor
