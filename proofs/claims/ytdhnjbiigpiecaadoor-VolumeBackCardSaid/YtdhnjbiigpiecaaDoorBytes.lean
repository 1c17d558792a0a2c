/-
  Rows of bytes in memory, by their list.
-/
import Derived.Test.YtdhnjbiigpiecaaDoorBase
import Derived.Lib.ConvBytes
import Derived.Lib.UnsafeStr
namespace Go.Proofs.YtdhnjbiigpiecaaDoor
open Go.RowKit

/-- Block g begins with the bytes l, none frozen. -/
def Bytes (w : World) (g : Nat) (l : List UInt8) : Prop := ∀ (j : Nat) (hj : j < l.length), w.cell? ⟨g, j, none⟩ = some (.int .u8 (l[j].toNat : Int)) ∧ w.frozen? ⟨g, j, none⟩ = false

section
variable {w w' : World} {g : Nat} {l : List UInt8}
theorem Bytes.cell (h : Bytes w g l) {j : Nat} (hj : j < l.length) : w.cell? ⟨g, j, none⟩ = some (.int .u8 (l[j].toNat : Int)) := (h j hj).1
theorem Bytes.frozen (h : Bytes w g l) {j : Nat} (hj : j < l.length) : w.frozen? ⟨g, j, none⟩ = false := (h j hj).2
theorem Bytes.drew (h : Bytes w g l) : Bytes w.drew g l := h
theorem Bytes.drewN (h : Bytes w g l) (n : Nat) : Bytes (w.drewN n) g l := h
theorem Bytes.same (h : Bytes w g l) (e : w'.heap[g]? = w.heap[g]?) : Bytes w' g l := fun j hj => by
  obtain ⟨h1, h2⟩ := h j hj
  constructor
  · rw [← h1]; simp [World.cell?, e]
  · rw [← h2]; exact World.frozen?_of_block (a := ⟨g, j, none⟩) e
theorem Bytes.alloc (h : Bytes w g l) (hg : g < w.heap.size) (o : Obj) : Bytes (w.alloc o) g l := h.same (Below.heap_alloc w o g hg)
theorem Bytes.below {B : Nat} (h : Bytes w g l) (hb : Below B w w') (hg : g < B) : Bytes w' g l := h.same (hb.block g hg)
theorem Bytes.far (h : Bytes w g l) {p : Addr} (hp : g ≠ p.block) (u : Value) : Bytes (w.setCell p u) g l := h.same (Below.heap_setCell w p u g hp)
theorem Bytes.set_ (h : Bytes w g l) (i : Nat) (v : UInt8) : Bytes (w.setCell ⟨g, i, none⟩ (.int .u8 (v.toNat : Int))) g (l.set i v) := fun j hj => by
  have hj' : j < l.length := by simpa using hj
  obtain ⟨h1, h2⟩ := h j hj'
  refine ⟨?_, by rw [World.frozen?_setCell]; exact h2⟩
  by_cases e : i = j
  · subst e
    rw [World.cell?_setCell_same _ _ _ h1]
    simp
  · rw [World.cell?_setCell_other _ _ _ _ (fun e2 => e (by cases e2; rfl)), h1, List.getElem_set_ne e]
theorem Bytes.of_conv (w : World) (e : TypeId) (s : ByteArray) : Bytes (Lib.bytesWorld w e s) w.heap.size s.data.toList := fun j hj => by
  have hj' : j < s.size := by simpa using hj
  constructor
  · rw [Lib.bytesWorld_cell w e s j hj', List.getD_eq_getElem?_getD, List.getElem?_eq_getElem hj]; rfl
  · have hlt : j < (Lib.bytesCells w e s).size := by
      simp [Lib.bytesCells]; omega
    simp [World.frozen?, Lib.bytesWorld_at_new]
    omega
theorem Bytes.conv_below (w : World) (e : TypeId) (s : ByteArray) : Below w.heap.size w (Lib.bytesWorld w e s) :=
  ⟨rfl, rfl, rfl, by rw [Lib.bytesWorld_size]; omega, fun j hj => Lib.bytesWorld_at_old w _ s j hj⟩
theorem Bytes.text {P : Program} {src dst e : TypeId} (h : Bytes w g l) (hs : P.underlying src = some (.slice e)) (he : P.underlying e = some (.int .u8)) (hd : P.underlying dst = some .string) (n cap : Nat) (hn : l.length = n) :
    (convert src dst (.slice (some ⟨g, 0, none⟩) n cap)).run P w = .ok (.string ⟨l.toArray⟩) w := by
  subst hn
  refine run_convert_bytes_back w src dst e _ cap l hs he hd fun j hj => ?_
  have hplain : (⟨g, 0, none⟩ : Addr).add j = ⟨g, j, none⟩ := by unfold Addr.add; split <;> simp_all
  rw [hplain]; exact h.cell hj
end

end Go.Proofs.YtdhnjbiigpiecaaDoor
