/-
  Rows of texts in memory, by their lists.
-/
import Derived.Test.YtehooifcgfkngaaDoorTxt
import Derived.OwnWalk
import Derived.Laws.AppendOwn
namespace Go.Proofs.YtehooifcgfkngaaDoor
open Go.RowKit

/-- The text of these bytes. -/
def bs (l : List UInt8) : ByteArray := ⟨l.toArray⟩
theorem bs_list (l : List UInt8) : (bs l).data.toList = l := rfl
theorem bs_of (s : ByteArray) : bs s.data.toList = s := by cases s; rfl
theorem bs_size (l : List UInt8) : (bs l).size = l.length := rfl
theorem bs_inj {a b : List UInt8} (h : bs a = bs b) : a = b := by have := congrArg (·.data.toList) h; exact this
theorem cat_bs (a b : List UInt8) : bs a ++ bs b = bs (a ++ b) := ba_ext (by rw [cat_list]; rfl)

/-- Row b from off on holds the texts ps. -/
def RowS (W : World) (b off : Nat) (ps : List (List UInt8)) : Prop := ∀ (j : Nat) (hj : j < ps.length), W.cell? ⟨b, off + j, none⟩ = some (.string (bs ps[j]))
/-- v holds the texts ps, in a block from B on. -/
def HasS (W : World) (B : Nat) (v : Value) (ps : List (List UInt8)) : Prop :=
  ∃ A cap, v = .slice A ps.length cap ∧ ps.length ≤ cap ∧ (ps = [] ∨ ∃ b off, A = some ⟨b, off, none⟩ ∧ B ≤ b ∧ b < W.heap.size ∧ RowS W b off ps)

section
variable {W W' : World} {B b off : Nat} {v : Value} {ps : List (List UInt8)}
theorem RowS.below {D : Nat} (h : RowS W b off ps) (hb : Below D W W') (hD : b < D) : RowS W' b off ps := fun j hj => (hb.cell (p := ⟨b, off + j, none⟩) hD).trans (h j hj)
theorem RowS.drop (h : RowS W b off ps) (k : Nat) : RowS W b (off + k) (ps.drop k) := fun j hj => by
  have hj' : k + j < ps.length := by rw [List.length_drop] at hj; omega
  have := h (k + j) hj'
  rw [Nat.add_assoc, this, List.getElem_drop]
theorem HasS.mono {C : Nat} (h : HasS W B v ps) (hC : C ≤ B) : HasS W C v ps := by
  obtain ⟨A, cap, e, hc, h⟩ := h
  exact ⟨A, cap, e, hc, h.imp id fun ⟨b, off, e1, e2, e3, e4⟩ => ⟨b, off, e1, Nat.le_trans hC e2, e3, e4⟩⟩
/-- What lay there when the call began stays. -/
theorem HasS.below (h : HasS W B v ps) (hb : Below W.heap.size W W') : HasS W' B v ps := by
  obtain ⟨A, cap, e, hc, h⟩ := h
  exact ⟨A, cap, e, hc, h.imp id fun ⟨b, off, e1, e2, e3, e4⟩ => ⟨b, off, e1, e2, Nat.lt_of_lt_of_le e3 hb.size, e4.below hb e3⟩⟩
theorem HasS.nil (W : World) (B : Nat) (A : Option Addr) (cap : Nat) : HasS W B (.slice A 0 cap) [] := ⟨A, cap, rfl, Nat.zero_le _, .inl rfl⟩
theorem HasS.ways (h : HasS W B v ps) : (∃ A cap, v = .slice A 0 cap ∧ ps = []) ∨ ∃ b off cap, v = .slice (some ⟨b, off, none⟩) ps.length cap ∧ ps.length ≤ cap ∧ B ≤ b ∧ b < W.heap.size ∧ 0 < ps.length ∧ RowS W b off ps := by
  obtain ⟨A, cap, e, hc, h⟩ := h
  by_cases h0 : ps = []
  · subst h0; exact .inl ⟨A, cap, e, rfl⟩
  · obtain ⟨b, off, rfl, h1, h2, h3⟩ := h.resolve_left h0
    exact .inr ⟨b, off, cap, e, hc, h1, h2, List.length_pos_iff.2 h0, h3⟩
theorem HasS.row {cap : Nat} (hB : B ≤ b) (hb : b < W.heap.size) (hc : ps.length ≤ cap) (h : RowS W b off ps) : HasS W B (.slice (some ⟨b, off, none⟩) ps.length cap) ps := ⟨_, cap, rfl, hc, .inr ⟨b, off, rfl, hB, hb, h⟩⟩
end

end Go.Proofs.YtehooifcgfkngaaDoor
