/-
  Rows of records in memory.
-/
import Derived.Test.YtjafjhhmjfpmoaaDoorPaxA
import Derived.Deep.Slices
namespace Go.Proofs.YtjafjhhmjfpmoaaDoor
open Go.RowKit

/-- The cells of records. -/
def rcCells (l : List Px.Rec) : List Value := l.flatMap fun p => [.string (bs p.1), .string (bs p.2)]
theorem rcCells_len (l : List Px.Rec) : (rcCells l).length = l.length * 2 := by
  induction l with
  | nil => rfl
  | cons p l ih => simp only [rcCells, List.flatMap_cons, List.length_append, List.length_cons, List.length_nil] at ih ⊢; rw [ih]; omega
theorem rcCells_app (l m : List Px.Rec) : rcCells (l ++ m) = rcCells l ++ rcCells m := by simp [rcCells]
theorem rcCells_one (l : List Px.Rec) : ∀ u ∈ rcCells l, u.oneCell' = true := fun u hu => by
  unfold rcCells at hu
  rw [List.mem_flatMap] at hu
  obtain ⟨p, _, hp⟩ := hu
  rcases List.mem_cons.1 hp with rfl | hp
  · rfl
  · rcases List.mem_cons.1 hp with rfl | hp
    · rfl
    · cases hp
theorem rcCells_get (l : List Px.Rec) (i : Nat) (hi : i < l.length) : (rcCells l)[i * 2]? = some (.string (bs l[i].1)) ∧ (rcCells l)[i * 2 + 1]? = some (.string (bs l[i].2)) := by
  induction l generalizing i with
  | nil => simp at hi
  | cons p l ih =>
    cases i with
    | zero => exact ⟨rfl, rfl⟩
    | succ i =>
      have := ih i (by simpa using hi)
      rw [show (i + 1) * 2 = i * 2 + 2 by omega]
      exact this

/-- Row b from off on holds the records l. -/
def RowR (W : World) (b off : Nat) (l : List Px.Rec) : Prop := ∀ (j : Nat) (hj : j < l.length), W.cell? ⟨b, off + j * 2, none⟩ = some (.string (bs l[j].1)) ∧ W.cell? ⟨b, off + j * 2 + 1, none⟩ = some (.string (bs l[j].2))
theorem RowR.below {W W' : World} {b off D : Nat} {l : List Px.Rec} (h : RowR W b off l) (hb : Below D W W') (hD : b < D) : RowR W' b off l := fun j hj =>
  ⟨(hb.cell (p := ⟨b, off + j * 2, none⟩) hD).trans (h j hj).1, (hb.cell (p := ⟨b, off + j * 2 + 1, none⟩) hD).trans (h j hj).2⟩
theorem RowR.cells {W : World} {b off : Nat} {l : List Px.Rec} (h : RowR W b off l) : ∀ j u, (rcCells l)[j]? = some u → W.cell? ((⟨b, off, none⟩ : Addr).add j) = some u := fun j u hu => by
  have hplain : (⟨b, off, none⟩ : Addr).add j = ⟨b, off + j, none⟩ := by unfold Addr.add; split <;> simp_all
  rw [hplain]
  have hj : j < l.length * 2 := by
    rw [← rcCells_len]
    exact (List.getElem?_eq_some_iff.1 hu).1
  have hi : j / 2 < l.length := by omega
  obtain ⟨g1, g2⟩ := rcCells_get l (j / 2) hi
  obtain ⟨c1, c2⟩ := h (j / 2) hi
  rcases (by omega : j = j / 2 * 2 ∨ j = j / 2 * 2 + 1) with e | e
  · rw [e, g1] at hu; rw [e, c1]; exact hu
  · rw [e, g2] at hu; rw [e, ← Nat.add_assoc, c2]; exact hu

/-- A slice of records that the call owns. -/
def HasR (w : World) (B : Nat) (v : Value) (l : List Px.Rec) : Prop := w.ownsRow B 32 2 v l.length (rcCells l)
theorem HasR.later {w w' : World} {B : Nat} {v : Value} {l : List Px.Rec} (h : HasR w B v l) (hb : Below w.heap.size w w') : HasR w' B v l :=
  World.ownsRow.kept h (only_of_below hb none) (by cases v.ownBlock <;> simp)
theorem HasR.mono {w : World} {B B' : Nat} {v : Value} {l : List Px.Rec} (h : HasR w B v l) (hB : B' ≤ B) : HasR w B' v l := by
  refine ⟨h.1, ?_⟩
  rcases h.2 with hn | ⟨g, cap, cur, e, hb, rest⟩
  · exact .inl hn
  · exact .inr ⟨g, cap, cur, e, by omega, rest⟩
theorem HasR.ways {w : World} {B : Nat} {v : Value} {l : List Px.Rec} (h : HasR w B v l) : (v = .slice none 0 0 ∧ l = []) ∨ ∃ g cap, v = .slice (some ⟨g, 0, none⟩) l.length cap ∧ B ≤ g ∧ g < w.heap.size ∧ l.length ≤ cap ∧ RowR w g 0 l := by
  obtain ⟨h1, hw⟩ := h
  rcases hw with ⟨rfl, h0⟩ | ⟨g, cap, cur, rfl, hB, hg, hc, _, _, ht⟩
  · exact .inl ⟨rfl, List.length_eq_zero_iff.1 h0⟩
  · right
    refine ⟨g, cap, rfl, hB, (Array.getElem?_eq_some_iff.1 hg).1, hc, fun j hj => ?_⟩
    obtain ⟨c1, c2⟩ := rcCells_get l j hj
    rw [← ht, List.getElem?_take] at c1 c2
    rw [if_pos (by omega), Array.getElem?_toList] at c1 c2
    rw [cell_of_row w g _ cur _ (0, 0) hg, cell_of_row w g _ cur _ (0, 0) hg, Nat.zero_add]
    exact ⟨c1, c2⟩
theorem HasR.form {w : World} {B : Nat} {v : Value} {l : List Px.Rec} (h : HasR w B v l) : ∃ X cap, v = .slice X l.length cap := by
  rcases h.ways with ⟨rfl, rfl⟩ | ⟨g, cap, rfl, _⟩
  · exact ⟨none, 0, rfl⟩
  · exact ⟨_, cap, rfl⟩
theorem infoRc : (Tryd.prog.info? 32).map (fun i => (i.zero, i.size, i.bytes)) = some (some (.agg #[.string ⟨#[]⟩, .string ⟨#[]⟩]), 2, 32) := by kernel_rfl
theorem new_two (w : World) (t : TypeId) (x y : Value) : ∀ j u, ([x, y] : List Value)[j]? = some u → (w.alloc (.cells #[x, y] t)).cell? ((⟨w.heap.size, 0, none⟩ : Addr).add j) = some u := by
  intro j u hu
  have hplain : (⟨w.heap.size, 0, none⟩ : Addr).add j = ⟨w.heap.size, j, none⟩ := by unfold Addr.add; split <;> simp_all
  rw [hplain, (Blk.new w t #[x, y]).cell j]
  rcases j with _ | _ | j
  · exact hu
  · exact hu
  · simp at hu

end Go.Proofs.YtjafjhhmjfpmoaaDoor
