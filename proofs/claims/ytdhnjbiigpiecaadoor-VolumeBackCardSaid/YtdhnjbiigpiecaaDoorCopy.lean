/-
  copy of a text into a row of bytes.
-/
import Derived.Test.YtdhnjbiigpiecaaDoorBytes
import Derived.Lib.LazyBuf
import Derived.Laws.IdiomCopy
namespace Go.Proofs.YtdhnjbiigpiecaaDoor
open Go.RowKit

/-- bytes d laid over l from place a on -/
def over (l : List UInt8) (a : Nat) (d : List UInt8) : List UInt8 := l.take a ++ d ++ l.drop (a + d.length)
theorem over_len (l : List UInt8) (a : Nat) (d : List UInt8) (h : a + d.length ≤ l.length) : (over l a d).length = l.length := by
  unfold over; simp only [List.length_append, List.length_take, List.length_drop]; omega
theorem over_get (b : List UInt8) (a : Nat) (d : List UInt8) (h : a + d.length ≤ b.length) (i : Nat) : (over b a d)[i]? = if a ≤ i ∧ i < a + d.length then d[i - a]? else b[i]? := by
  unfold over
  have la : (b.take a).length = a := by rw [List.length_take]; omega
  by_cases h1 : i < a
  · rw [if_neg (by omega), List.append_assoc, List.getElem?_append_left (by omega), List.getElem?_take, if_pos h1]
  · rw [List.append_assoc, List.getElem?_append_right (by omega), la]
    by_cases h2 : i < a + d.length
    · rw [if_pos (by omega), List.getElem?_append_left (by omega)]
    · rw [if_neg (by omega), List.getElem?_append_right (by omega), List.getElem?_drop]
      congr 1; omega

def textCells (t : ByteArray) : List Value := t.data.toList.map fun x => Value.int .u8 (x.toNat : Int)
theorem Bytes.get? {w : World} {g : Nat} {l : List UInt8} (h : Bytes w g l) {j : Nat} {c : UInt8} (hj : l[j]? = some c) : w.cell? ⟨g, j, none⟩ = some (.int .u8 (c.toNat : Int)) := by
  obtain ⟨hlt, e⟩ := List.getElem?_eq_some_iff.1 hj
  rw [← e]; exact h.cell hlt
theorem Bytes.copied {w : World} {g : Nat} {l : List UInt8} (h : Bytes w g l) (a : Nat) (t : ByteArray) (hat : a + t.size ≤ l.length) : Bytes (w.setCells g a (textCells t)) g (over l a t.data.toList) := fun j hj => by
  have hl : t.data.toList.length = t.size := by simp
  have hlen : (textCells t).length = t.size := by simp [textCells]
  have hol := over_len l a t.data.toList (by omega)
  refine ⟨?_, by rw [World.frozen?_setCells]; exact h.frozen (by omega)⟩
  have hg := over_get l a t.data.toList (by omega) j
  rw [List.getElem?_eq_getElem hj] at hg
  by_cases hin : a ≤ j ∧ j < a + t.data.toList.length
  · rw [if_pos hin] at hg
    have hlt : j - a < (textCells t).length := by omega
    have := World.cell?_setCells_in g (textCells t) a w (fun i hi => by rw [h.cell (j := a + i) (by omega)]; rfl) (j - a) hlt
    rw [show a + (j - a) = j by omega] at this
    rw [this]
    congr 1
    have h2 : (textCells t)[j - a]? = (t.data.toList[j - a]?).map fun x => Value.int .u8 (x.toNat : Int) := by simp [textCells]
    rw [List.getElem?_eq_getElem hlt, ← hg] at h2
    exact Option.some.inj h2
  · rw [if_neg hin] at hg
    rw [World.cell?_setCells_out g (textCells t) a w ⟨g, j, none⟩ (fun _ _ => by show j < a ∨ a + (textCells t).length ≤ j; omega)]
    exact h.get? hg.symm
theorem below_setCells {B : Nat} {a w : World} (h : Below B a w) (g : Nat) (hg : B ≤ g) (vs : List Value) : ∀ o, Below B a (w.setCells g o vs) := by
  induction vs generalizing w with
  | nil => intro o; exact h
  | cons v vs ih => intro o; exact ih (h.setCell hg _) (o + 1)
theorem size_setCells (g : Nat) (vs : List Value) : ∀ (w : World) (o : Nat), (w.setCells g o vs).heap.size = w.heap.size := by
  induction vs with
  | nil => intro w o; rfl
  | cons v vs ih => intro w o; rw [World.setCells, ih]; simp [World.setCell]
theorem Bytes.farCells {w : World} {g : Nat} {l : List UInt8} (h : Bytes w g l) {k : Nat} (hk : g ≠ k) (vs : List Value) : ∀ o, Bytes (w.setCells k o vs) g l := by
  induction vs generalizing w with
  | nil => intro o; exact h
  | cons v vs ih => intro o; exact ih (h.far hk _) (o + 1)

end Go.Proofs.YtdhnjbiigpiecaaDoor
