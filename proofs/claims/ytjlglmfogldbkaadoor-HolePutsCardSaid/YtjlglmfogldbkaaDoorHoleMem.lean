/-
  Slices of pieces in memory.
-/
import Derived.Test.YtjlglmfogldbkaaDoorTxt
import Derived.Test.YtjlglmfogldbkaaDoorHoleLaws
import Derived.OwnWalk
import Derived.Deep.Slices
import Derived.Deep.LoopGhost
namespace Go.Proofs.YtjlglmfogldbkaaDoor
open Go.RowKit

/-- A []api.Piece that reads as ps. -/
def Pcs (W : World) (v : Value) (ps : List (Int × Int)) : Prop := ∃ (A : Option Addr) (cap : Nat), v = .slice A ps.length cap ∧ ∀ (j : Nat) (hj : j < ps.length), ∃ b off, A = some ⟨b, off, none⟩ ∧ b < W.heap.size ∧
  W.cell? ⟨b, off + j * 2, none⟩ = some (.int .i64 ps[j].1) ∧ W.cell? ⟨b, off + j * 2 + 1, none⟩ = some (.int .i64 ps[j].2)

/-- .. nil, empty, or with a row -/
theorem pcs_ways {W : World} {v : Value} {ps : List (Int × Int)} (h : Pcs W v ps) : (∃ A cap, v = .slice A 0 cap ∧ ps = []) ∨ ∃ b off cap, v = .slice (some ⟨b, off, none⟩) ps.length cap ∧ b < W.heap.size ∧ 0 < ps.length ∧
    ∀ (j : Nat) (hj : j < ps.length), W.cell? ⟨b, off + j * 2, none⟩ = some (.int .i64 ps[j].1) ∧ W.cell? ⟨b, off + j * 2 + 1, none⟩ = some (.int .i64 ps[j].2) := by
  obtain ⟨A, cap, rfl, hc⟩ := h
  by_cases h0 : 0 < ps.length
  · right
    obtain ⟨b, off, rfl, hb, _⟩ := hc 0 h0
    refine ⟨b, off, cap, rfl, hb, h0, fun j hj => ?_⟩
    obtain ⟨b', off', e, _, h⟩ := hc j hj
    cases e
    exact h
  · left
    have : ps = [] := List.length_eq_zero_iff.1 (by omega)
    subst this
    exact ⟨A, cap, rfl, rfl⟩
theorem Pcs.below {W W' : World} {v : Value} {ps : List (Int × Int)} (h : Pcs W v ps) (hb : Below W.heap.size W W') : Pcs W' v ps := by
  obtain ⟨A, cap, rfl, hc⟩ := h
  refine ⟨A, cap, rfl, fun j hj => ?_⟩
  obtain ⟨b, off, e, hlt, c1, c2⟩ := hc j hj
  exact ⟨b, off, e, Nat.lt_of_lt_of_le hlt hb.size, (hb.cell (p := ⟨b, off + j * 2, none⟩) hlt).trans c1, (hb.cell (p := ⟨b, off + j * 2 + 1, none⟩) hlt).trans c2⟩

/-- The cells of pieces. -/
def pcCells (l : List Hol.Pc) : List Value := l.flatMap fun p => [.int .i64 (p.1 : Int), .int .i64 (p.2 : Int)]
theorem pcCells_len (l : List Hol.Pc) : (pcCells l).length = l.length * 2 := by
  induction l with
  | nil => rfl
  | cons p l ih => simp only [pcCells, List.flatMap_cons, List.length_append, List.length_cons, List.length_nil] at ih ⊢; rw [ih]; omega
theorem pcCells_snoc (l : List Hol.Pc) (p : Hol.Pc) : pcCells (l ++ [p]) = pcCells l ++ [.int .i64 (p.1 : Int), .int .i64 (p.2 : Int)] := by simp [pcCells]
theorem pcCells_get (l : List Hol.Pc) (i : Nat) (hi : i < l.length) : (pcCells l)[i * 2]? = some (.int .i64 (l[i].1 : Int)) ∧ (pcCells l)[i * 2 + 1]? = some (.int .i64 (l[i].2 : Int)) := by
  induction l generalizing i with
  | nil => simp at hi
  | cons p l ih =>
    cases i with
    | zero => exact ⟨rfl, rfl⟩
    | succ i =>
      have := ih i (by simpa using hi)
      rw [show (i + 1) * 2 = i * 2 + 2 by omega]
      exact this

/-- A slice of pieces that the call owns. -/
def HasP (w : World) (B : Nat) (v : Value) (l : List Hol.Pc) : Prop := w.ownsRow B 36 2 v l.length (pcCells l)
theorem HasP.pcs {w : World} {B : Nat} {v : Value} {l : List Hol.Pc} (h : HasP w B v l) : Pcs w v (l.map Hol.castP) := by
  obtain ⟨_, hw⟩ := h
  rcases hw with ⟨rfl, h0⟩ | ⟨g, cap, cur, rfl, _, hg, _, _, _, ht⟩
  · exact ⟨none, 0, by rw [List.length_map, h0], fun j hj => absurd hj (by rw [List.length_map]; omega)⟩
  · refine ⟨some ⟨g, 0, none⟩, cap, by rw [List.length_map], fun j hj => ⟨g, 0, rfl, (Array.getElem?_eq_some_iff.1 hg).1, ?_⟩⟩
    have hj' : j < l.length := by simpa using hj
    obtain ⟨c1, c2⟩ := pcCells_get l j hj'
    rw [← ht, List.getElem?_take] at c1 c2
    rw [if_pos (by omega), Array.getElem?_toList] at c1 c2
    rw [cell_of_row w g _ cur _ (0, 0) hg, cell_of_row w g _ cur _ (0, 0) hg, Nat.zero_add]
    simp only [List.getElem_map, Hol.castP]
    exact ⟨c1, c2⟩
theorem HasP.mono {w : World} {B B' : Nat} {v : Value} {l : List Hol.Pc} (h : HasP w B v l) (hB : B' ≤ B) : HasP w B' v l := by
  refine ⟨h.1, ?_⟩
  rcases h.2 with hn | ⟨g, cap, cur, e, hb, rest⟩
  · exact .inl hn
  · exact .inr ⟨g, cap, cur, e, by omega, rest⟩
theorem HasP.later {w w' : World} {B : Nat} {v : Value} {l : List Hol.Pc} (h : HasP w B v l) (hb : Below w.heap.size w w') : HasP w' B v l :=
  World.ownsRow.kept h (only_of_below hb none) (by cases v.ownBlock <;> simp)
theorem HasP.drewN {w : World} {B : Nat} {v : Value} {l : List Hol.Pc} (h : HasP w B v l) (n : Nat) : HasP (w.drewN n) B v l := h
theorem HasP.ways {w : World} {B : Nat} {v : Value} {l : List Hol.Pc} (h : HasP w B v l) : (v = .slice none 0 0 ∧ l = []) ∨ ∃ g cap, v = .slice (some ⟨g, 0, none⟩) l.length cap ∧ B ≤ g ∧ g < w.heap.size ∧
    ∀ (j : Nat) (hj : j < l.length), w.cell? ⟨g, j * 2, none⟩ = some (.int .i64 (l[j].1 : Int)) ∧ w.cell? ⟨g, j * 2 + 1, none⟩ = some (.int .i64 (l[j].2 : Int)) := by
  obtain ⟨h1, hw⟩ := h
  rcases hw with ⟨rfl, h0⟩ | ⟨g, cap, cur, rfl, hB, hg, _, _, _, ht⟩
  · exact .inl ⟨rfl, List.length_eq_zero_iff.1 h0⟩
  · right
    refine ⟨g, cap, rfl, hB, (Array.getElem?_eq_some_iff.1 hg).1, fun j hj => ?_⟩
    obtain ⟨c1, c2⟩ := pcCells_get l j hj
    rw [← ht, List.getElem?_take] at c1 c2
    rw [if_pos (by omega), Array.getElem?_toList] at c1 c2
    rw [cell_of_row w g _ cur _ (0, 0) hg, cell_of_row w g _ cur _ (0, 0) hg]
    exact ⟨c1, c2⟩
theorem HasP.frozen {w : World} {B g n cap : Nat} {l : List Hol.Pc} (h : HasP w B (.slice (some ⟨g, 0, none⟩) n cap) l) (j : Nat) : w.frozen? ⟨g, j, none⟩ = false := by
  obtain ⟨_, hw⟩ := h
  rcases hw with ⟨e, _⟩ | ⟨g', cap', cur, e, hB, hg, _⟩
  · cases e
  · cases e
    exact Blk.frozen (show Blk w g _ cur from hg) j

/-- The last piece's size is another one. -/
theorem pcCells_last (l : List Hol.Pc) (a s t : Nat) : (pcCells (l ++ [(a, s)])).set (l.length * 2 + 1) (.int .i64 (t : Int)) = pcCells (l ++ [(a, t)]) := by
  rw [pcCells_snoc, pcCells_snoc, List.set_append_right _ _ (by rw [pcCells_len]; omega), pcCells_len, show l.length * 2 + 1 - l.length * 2 = 1 by omega]
  rfl
theorem ownsRow_set {w : World} {B e size g n cap : Nat} {xs : List Value} (h : w.ownsRow B e size (.slice (some ⟨g, 0, none⟩) n cap) n xs) (j : Nat) (u : Value) (hj : j < n * size) :
    (w.setCell ⟨g, j, none⟩ u).ownsRow B e size (.slice (some ⟨g, 0, none⟩) n cap) n (xs.set j u) := by
  obtain ⟨h1, hw⟩ := h
  refine ⟨by rw [List.length_set]; exact h1, ?_⟩
  rcases hw with ⟨e', _⟩ | ⟨g', cap', cur, e', hB, hg, h2, h3, h4, h5⟩
  · cases e'
  · cases e'
    refine .inr ⟨g, cap, cur.setIfInBounds j u, rfl, hB, (show Blk w g e cur from hg).set_ j u, h2, h3, by rw [Array.size_setIfInBounds]; exact h4, ?_⟩
    rw [Array.toList_setIfInBounds, List.take_set, h5]
theorem HasP.grow {w : World} {B g cap : Nat} {l : List Hol.Pc} {a s : Nat} (h : HasP w B (.slice (some ⟨g, 0, none⟩) (l.length + 1) cap) (l ++ [(a, s)])) (t : Nat) :
    HasP (w.setCell ⟨g, l.length * 2 + 1, none⟩ (.int .i64 (t : Int))) B (.slice (some ⟨g, 0, none⟩) (l.length + 1) cap) (l ++ [(a, t)]) := by
  unfold HasP at h ⊢
  rw [List.length_append] at h ⊢
  rw [← pcCells_last l a s t]
  exact ownsRow_set h _ _ (by omega)

end Go.Proofs.YtjlglmfogldbkaaDoor
