/-
  Rows of texts that a call owns.
-/
import Derived.Test.YtehooifcgfkngaaDoorStrs
import Derived.Deep.Slices
namespace Go.Proofs.YtehooifcgfkngaaDoor
open Go.RowKit

/-- The cells of texts. -/
def txCells (l : List (List UInt8)) : List Value := l.map fun x => .string (bs x)
theorem txCells_len (l : List (List UInt8)) : (txCells l).length = l.length := by simp [txCells]
theorem txCells_app (l m : List (List UInt8)) : txCells (l ++ m) = txCells l ++ txCells m := by simp [txCells]
theorem txCells_one (l : List (List UInt8)) : ∀ u ∈ txCells l, u.oneCell' = true := fun u hu => by
  obtain ⟨x, _, rfl⟩ := List.mem_map.1 hu; rfl
theorem txCells_get (l : List (List UInt8)) (i : Nat) (hi : i < l.length) : (txCells l)[i]? = some (.string (bs l[i])) := by simp [txCells, hi]

/-- A slice of texts that the call owns. -/
def HasT (w : World) (B : Nat) (v : Value) (l : List (List UInt8)) : Prop := w.ownsRow B 9 1 v l.length (txCells l)
theorem HasT.later {w w' : World} {B : Nat} {v : Value} {l : List (List UInt8)} (h : HasT w B v l) (hb : Below w.heap.size w w') : HasT w' B v l :=
  World.ownsRow.kept h (only_of_below hb none) (by cases v.ownBlock <;> simp)
theorem HasT.mono {w : World} {B B' : Nat} {v : Value} {l : List (List UInt8)} (h : HasT w B v l) (hB : B' ≤ B) : HasT w B' v l := by
  refine ⟨h.1, ?_⟩
  rcases h.2 with hn | ⟨g, cap, cur, e, hb, rest⟩
  · exact .inl hn
  · exact .inr ⟨g, cap, cur, e, by omega, rest⟩
theorem HasT.ways {w : World} {B : Nat} {v : Value} {l : List (List UInt8)} (h : HasT w B v l) : (v = .slice none 0 0 ∧ l = []) ∨ ∃ g cap cur, v = .slice (some ⟨g, 0, none⟩) l.length cap ∧ B ≤ g ∧ g < w.heap.size ∧ l.length ≤ cap ∧ Blk w g 9 cur ∧ cur.size = cap ∧ cap ≤ maxLen ∧ RowS w g 0 l := by
  obtain ⟨h1, hw⟩ := h
  rcases hw with ⟨rfl, h0⟩ | ⟨g, cap, cur, rfl, hB, hg, hc, hm, hcs, ht⟩
  · exact .inl ⟨rfl, List.length_eq_zero_iff.1 h0⟩
  · right
    refine ⟨g, cap, cur, rfl, hB, (Array.getElem?_eq_some_iff.1 hg).1, hc, hg, by omega, hm, fun j hj => ?_⟩
    have c1 := txCells_get l j hj
    rw [← ht, List.getElem?_take, if_pos (by omega), Array.getElem?_toList] at c1
    rw [Nat.zero_add, Blk.cell hg, c1]
theorem HasT.form {w : World} {B : Nat} {v : Value} {l : List (List UInt8)} (h : HasT w B v l) : ∃ X cap, v = .slice X l.length cap ∧ l.length ≤ cap := by
  rcases h.ways with ⟨rfl, rfl⟩ | ⟨g, cap, _, rfl, _, _, hc, _⟩
  · exact ⟨none, 0, rfl, Nat.le_refl _⟩
  · exact ⟨_, cap, rfl, hc⟩
theorem HasT.has {w : World} {B : Nat} {v : Value} {l : List (List UInt8)} (h : HasT w B v l) : HasS w B v l := by
  rcases h.ways with ⟨rfl, rfl⟩ | ⟨g, cap, _, rfl, h1, h2, h3, _, _, _, h4⟩
  · exact HasS.nil _ _ _ _
  · exact HasS.row h1 h2 h3 h4
theorem HasT.pushed {w : World} {B : Nat} {v : Value} {l : List (List UInt8)} {a : List UInt8} (h : w.ownsRow B 9 1 v (l.length + 1) (txCells l ++ [.string (bs a)])) : HasT w B v (l ++ [a]) := by
  unfold HasT
  rw [txCells_app, List.length_append]
  exact h
theorem infoTx : (Tryd.prog.info? 9).map (fun i => (i.zero, i.size, i.bytes)) = some (some (.string ⟨#[]⟩), 1, 16) := by kernel_rfl
theorem new_text {w : World} {g : Nat} (hg : g = w.heap.size) (t : TypeId) (x : Value) : ∀ j u, ([x] : List Value)[j]? = some u → (w.alloc (.cells #[x] t)).cell? ((⟨g, 0, none⟩ : Addr).add j) = some u := by
  intro j u hu
  subst hg
  have hplain : (⟨w.heap.size, 0, none⟩ : Addr).add j = ⟨w.heap.size, j, none⟩ := by unfold Addr.add; split <;> simp_all
  rw [hplain, (Blk.new w t #[x]).cell j]
  cases j with
  | zero => simpa using hu
  | succ j => simp at hu

end Go.Proofs.YtehooifcgfkngaaDoor
