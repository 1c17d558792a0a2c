/-
  strings.IndexAny and ContainsAny at texts that are not ASCII; chars are two or more ASCII bytes.
-/
import Derived.Test.YtkhkjacnoiopcaaGreatDoorZab
import Derived.Test.YtkhkjacnoiopcaaGreatDoorZaa
import Derived.Laws.RangeAny
import Derived.Laws.Runes
import Derived.Deep.LoopGhost
import Derived.Lib.IndexAny
import Derived.WalkMore
import Derived.BigQuiet
import Derived.Deep.QuietTactic
import Derived.Lib.Strings
import Derived.Laws.Concat
import Derived.OwnWalk
import Derived.Laws.AppendOwn
import Derived.Test.YtkhkjacnoiopcaaGreatDoorZaf
import Derived.Lib.LaidTab
import Derived.LaidSub
import Derived.MakeChecks
import Derived.Deep.Slices
import Derived.Deep.SlicePairs
import Derived.OpenShut
import Derived.SizedLaws
set_option linter.unusedVariables false
set_option linter.unusedSimpArgs false

set_option linter.unusedVariables false
set_option linter.unusedSimpArgs false
set_option linter.unusedSimpArgs false
namespace Go
end Go
namespace Go.Proofs.YtkhkjacnoiopcaaGreatDoor
open Go.RowKit

end Go.Proofs.YtkhkjacnoiopcaaGreatDoor

set_option linter.unusedVariables false
set_option linter.unusedSimpArgs false
namespace Go.Proofs.YtkhkjacnoiopcaaGreatDoor
open Go.RowKit

theorem ba_ext {a b : ByteArray} (h : a.data.toList = b.data.toList) : a = b := by
  cases a with
  | mk a => cases b with
    | mk b => exact congrArg ByteArray.mk (Array.toList_inj.1 h)

theorem list_size (s : ByteArray) : s.data.toList.length = s.size := by simp
theorem cat_list (a b : ByteArray) : (a ++ b).data.toList = a.data.toList ++ b.data.toList := by simp
theorem ext_list (a : ByteArray) (i j : Nat) : (a.extract i j).data.toList = (a.data.toList.take j).drop i := by
  simp [ByteArray.data_extract, Array.toList_extract, List.extract_eq_take_drop, List.drop_take]
theorem ext_end (a : ByteArray) (i : Nat) : (a.extract i a.size).data.toList = a.data.toList.drop i := by
  rw [ext_list, List.take_of_length_le (by simp)]
theorem ext_to (a : ByteArray) (j : Nat) : (a.extract 0 j).data.toList = a.data.toList.take j := by
  rw [ext_list, List.drop_zero]
theorem ext_mid (a : ByteArray) (i n : Nat) : (a.extract i (i + n)).data.toList = (a.data.toList.drop i).take n := by
  rw [ext_list, List.drop_take, Nat.add_sub_cancel_left]
theorem ext_size (a : ByteArray) (i j : Nat) (h : j ≤ a.size) : (a.extract i j).size = j - i := by simp [ByteArray.size_extract, Nat.min_eq_left h]

end Go.Proofs.YtkhkjacnoiopcaaGreatDoor

set_option linter.unusedVariables false
set_option linter.unusedSimpArgs false
namespace Go.Proofs.YtkhkjacnoiopcaaGreatDoor
open Go.RowKit

/-- The text of these bytes. -/
def bs (l : List UInt8) : ByteArray := ⟨l.toArray⟩
theorem bs_list (l : List UInt8) : (bs l).data.toList = l := rfl
theorem bs_of (s : ByteArray) : bs s.data.toList = s := by cases s; rfl
theorem bs_size (l : List UInt8) : (bs l).size = l.length := rfl
/-- Row b from off on holds the texts ps. -/
def RowS (W : World) (b off : Nat) (ps : List (List UInt8)) : Prop := ∀ (j : Nat) (hj : j < ps.length), W.cell? ⟨b, off + j, none⟩ = some (.string (bs ps[j]))
/-- v holds the texts ps, in a block from B on. -/
def HasS (W : World) (B : Nat) (v : Value) (ps : List (List UInt8)) : Prop :=
  ∃ A cap, v = .slice A ps.length cap ∧ ps.length ≤ cap ∧ (ps = [] ∨ ∃ b off, A = some ⟨b, off, none⟩ ∧ B ≤ b ∧ b < W.heap.size ∧ RowS W b off ps)

section
variable {W W' : World} {B b off : Nat} {v : Value} {ps : List (List UInt8)}
theorem RowS.below {D : Nat} (h : RowS W b off ps) (hb : Below D W W') (hD : b < D) : RowS W' b off ps := fun j hj => (hb.cell (p := ⟨b, off + j, none⟩) hD).trans (h j hj)
theorem RowS.drop (h : RowS W b off ps) (k : Nat) : RowS W b (off + k) (ps.drop k) := fun j hj => by
  have hj' : k + j < ps.length := by rw [List.length_drop] at hj; omega
  have := h (k + j) hj'
  rw [Nat.add_assoc, this, List.getElem_drop]
theorem HasS.mono {C : Nat} (h : HasS W B v ps) (hC : C ≤ B) : HasS W C v ps := by
  obtain ⟨A, cap, e, hc, h⟩ := h
  exact ⟨A, cap, e, hc, h.imp id fun ⟨b, off, e1, e2, e3, e4⟩ => ⟨b, off, e1, Nat.le_trans hC e2, e3, e4⟩⟩
/-- What lay there when the call began stays. -/
theorem HasS.below (h : HasS W B v ps) (hb : Below W.heap.size W W') : HasS W' B v ps := by
  obtain ⟨A, cap, e, hc, h⟩ := h
  exact ⟨A, cap, e, hc, h.imp id fun ⟨b, off, e1, e2, e3, e4⟩ => ⟨b, off, e1, e2, Nat.lt_of_lt_of_le e3 hb.size, e4.below hb e3⟩⟩
theorem HasS.nil (W : World) (B : Nat) (A : Option Addr) (cap : Nat) : HasS W B (.slice A 0 cap) [] := ⟨A, cap, rfl, Nat.zero_le _, .inl rfl⟩
theorem HasS.ways (h : HasS W B v ps) : (∃ A cap, v = .slice A 0 cap ∧ ps = []) ∨ ∃ b off cap, v = .slice (some ⟨b, off, none⟩) ps.length cap ∧ ps.length ≤ cap ∧ B ≤ b ∧ b < W.heap.size ∧ 0 < ps.length ∧ RowS W b off ps := by
  obtain ⟨A, cap, e, hc, h⟩ := h
  by_cases h0 : ps = []
  · subst h0; exact .inl ⟨A, cap, e, rfl⟩
  · obtain ⟨b, off, rfl, h1, h2, h3⟩ := h.resolve_left h0
    exact .inr ⟨b, off, cap, e, hc, h1, h2, List.length_pos_iff.2 h0, h3⟩
theorem HasS.row {cap : Nat} (hB : B ≤ b) (hb : b < W.heap.size) (hc : ps.length ≤ cap) (h : RowS W b off ps) : HasS W B (.slice (some ⟨b, off, none⟩) ps.length cap) ps := ⟨_, cap, rfl, hc, .inr ⟨b, off, rfl, hB, hb, h⟩⟩
end
theorem str_nil (l : List UInt8) : ((bs l).toList = []) ↔ l = [] := by
  rw [show (bs l).toList = l from Lib.toList_data _]

end Go.Proofs.YtkhkjacnoiopcaaGreatDoor

set_option linter.unusedVariables false
set_option linter.unusedSimpArgs false
namespace Go.Proofs.YtkhkjacnoiopcaaGreatDoor
open Go.RowKit

/-- What the library asks of the world: its bound, its error and its table of powers. -/
def PxEnv (w : World) : Prop := (∃ m, w.cell? ⟨1, 0, none⟩ = some (.int .i64 m)) ∧ (∃ ev, w.cell? ⟨5, 0, none⟩ = some ev ∧ (ev = .nilIface ∨ ∃ te pe, ev = .iface te pe)) ∧ Lib.TabIs Tryz.prog w "internal/strconv.uint64pow10" .u64 Lib.pow10Tab
theorem pxpow_no : Tryz.prog.globalNamed "internal/strconv.uint64pow10" = some 4 := by kernel_rfl
theorem PxEnv.below {w w' : World} (h : PxEnv w) (hb : Below w.heap.size w w') : PxEnv w' := by
  obtain ⟨⟨m, h1⟩, ⟨ev, h3, h4⟩, h2⟩ := h
  have l1 := World.block_lt_of_cell? w ⟨1, 0, none⟩ h1
  have l3 := World.block_lt_of_cell? w ⟨5, 0, none⟩ h3
  have l2 := World.block_lt_of_cell? w ⟨4, 0, none⟩ (h2.cell pxpow_no 0 (by decide))
  refine ⟨⟨m, (hb.cell (p := ⟨1, 0, none⟩) l1).trans h1⟩, ⟨ev, (hb.cell (p := ⟨5, 0, none⟩) l3).trans h3, h4⟩, ?_⟩
  unfold Lib.TabIs at h2 ⊢
  rw [← h2]
  unfold World.var?
  rw [pxpow_no]
  simp only [Option.bind_some]
  rw [hb.block _ l2]

end Go.Proofs.YtkhkjacnoiopcaaGreatDoor

set_option linter.unusedVariables false
set_option linter.unusedSimpArgs false
namespace Go.Proofs.YtkhkjacnoiopcaaGreatDoor
open Go.RowKit

/-- The cells of records. -/
def rcCells (l : List Px.Rec) : List Value := l.flatMap fun p => [.string (bs p.1), .string (bs p.2)]
theorem rcCells_len (l : List Px.Rec) : (rcCells l).length = l.length * 2 := by
  induction l with
  | nil => rfl
  | cons p l ih => simp only [rcCells, List.flatMap_cons, List.length_append, List.length_cons, List.length_nil] at ih ⊢; rw [ih]; omega
theorem rcCells_app (l m : List Px.Rec) : rcCells (l ++ m) = rcCells l ++ rcCells m := by simp [rcCells]
theorem rcCells_one (l : List Px.Rec) : ∀ u ∈ rcCells l, u.oneCell' = true := fun u hu => by
  unfold rcCells at hu
  rw [List.mem_flatMap] at hu
  obtain ⟨p, _, hp⟩ := hu
  rcases List.mem_cons.1 hp with rfl | hp
  · rfl
  · rcases List.mem_cons.1 hp with rfl | hp
    · rfl
    · cases hp
theorem rcCells_get (l : List Px.Rec) (i : Nat) (hi : i < l.length) : (rcCells l)[i * 2]? = some (.string (bs l[i].1)) ∧ (rcCells l)[i * 2 + 1]? = some (.string (bs l[i].2)) := by
  induction l generalizing i with
  | nil => simp at hi
  | cons p l ih =>
    cases i with
    | zero => exact ⟨rfl, rfl⟩
    | succ i =>
      have := ih i (by simpa using hi)
      rw [show (i + 1) * 2 = i * 2 + 2 by omega]
      exact this

/-- Row b from off on holds the records l. -/
def RowR (W : World) (b off : Nat) (l : List Px.Rec) : Prop := ∀ (j : Nat) (hj : j < l.length), W.cell? ⟨b, off + j * 2, none⟩ = some (.string (bs l[j].1)) ∧ W.cell? ⟨b, off + j * 2 + 1, none⟩ = some (.string (bs l[j].2))
theorem RowR.below {W W' : World} {b off D : Nat} {l : List Px.Rec} (h : RowR W b off l) (hb : Below D W W') (hD : b < D) : RowR W' b off l := fun j hj =>
  ⟨(hb.cell (p := ⟨b, off + j * 2, none⟩) hD).trans (h j hj).1, (hb.cell (p := ⟨b, off + j * 2 + 1, none⟩) hD).trans (h j hj).2⟩
theorem RowR.cells {W : World} {b off : Nat} {l : List Px.Rec} (h : RowR W b off l) : ∀ j u, (rcCells l)[j]? = some u → W.cell? ((⟨b, off, none⟩ : Addr).add j) = some u := fun j u hu => by
  have hplain : (⟨b, off, none⟩ : Addr).add j = ⟨b, off + j, none⟩ := by unfold Addr.add; split <;> simp_all
  rw [hplain]
  have hj : j < l.length * 2 := by
    rw [← rcCells_len]
    exact (List.getElem?_eq_some_iff.1 hu).1
  have hi : j / 2 < l.length := by omega
  obtain ⟨g1, g2⟩ := rcCells_get l (j / 2) hi
  obtain ⟨c1, c2⟩ := h (j / 2) hi
  rcases (by omega : j = j / 2 * 2 ∨ j = j / 2 * 2 + 1) with e | e
  · rw [e, g1] at hu; rw [e, c1]; exact hu
  · rw [e, g2] at hu; rw [e, ← Nat.add_assoc, c2]; exact hu

/-- A slice of records that the call owns. -/
def HasR (w : World) (B : Nat) (v : Value) (l : List Px.Rec) : Prop := w.ownsRow B 43 2 v l.length (rcCells l)
theorem HasR.later {w w' : World} {B : Nat} {v : Value} {l : List Px.Rec} (h : HasR w B v l) (hb : Below w.heap.size w w') : HasR w' B v l :=
  World.ownsRow.kept h (only_of_below hb none) (by cases v.ownBlock <;> simp)
theorem HasR.mono {w : World} {B B' : Nat} {v : Value} {l : List Px.Rec} (h : HasR w B v l) (hB : B' ≤ B) : HasR w B' v l := by
  refine ⟨h.1, ?_⟩
  rcases h.2 with hn | ⟨g, cap, cur, e, hb, rest⟩
  · exact .inl hn
  · exact .inr ⟨g, cap, cur, e, by omega, rest⟩
theorem HasR.ways {w : World} {B : Nat} {v : Value} {l : List Px.Rec} (h : HasR w B v l) : (v = .slice none 0 0 ∧ l = []) ∨ ∃ g cap, v = .slice (some ⟨g, 0, none⟩) l.length cap ∧ B ≤ g ∧ g < w.heap.size ∧ l.length ≤ cap ∧ RowR w g 0 l := by
  obtain ⟨h1, hw⟩ := h
  rcases hw with ⟨rfl, h0⟩ | ⟨g, cap, cur, rfl, hB, hg, hc, _, _, ht⟩
  · exact .inl ⟨rfl, List.length_eq_zero_iff.1 h0⟩
  · right
    refine ⟨g, cap, rfl, hB, (Array.getElem?_eq_some_iff.1 hg).1, hc, fun j hj => ?_⟩
    obtain ⟨c1, c2⟩ := rcCells_get l j hj
    rw [← ht, List.getElem?_take] at c1 c2
    rw [if_pos (by omega), Array.getElem?_toList] at c1 c2
    rw [cell_of_row w g _ cur _ (0, 0) hg, cell_of_row w g _ cur _ (0, 0) hg, Nat.zero_add]
    exact ⟨c1, c2⟩
theorem HasR.form {w : World} {B : Nat} {v : Value} {l : List Px.Rec} (h : HasR w B v l) : ∃ X cap, v = .slice X l.length cap := by
  rcases h.ways with ⟨rfl, rfl⟩ | ⟨g, cap, rfl, _⟩
  · exact ⟨none, 0, rfl⟩
  · exact ⟨_, cap, rfl⟩
theorem infoRc : (Tryz.prog.info? 43).map (fun i => (i.zero, i.size, i.bytes)) = some (some (.agg #[.string ⟨#[]⟩, .string ⟨#[]⟩]), 2, 32) := by kernel_rfl
theorem pxnew_two (w : World) (t : TypeId) (x y : Value) : ∀ j u, ([x, y] : List Value)[j]? = some u → (w.alloc (.cells #[x, y] t)).cell? ((⟨w.heap.size, 0, none⟩ : Addr).add j) = some u := by
  intro j u hu
  have hplain : (⟨w.heap.size, 0, none⟩ : Addr).add j = ⟨w.heap.size, j, none⟩ := by unfold Addr.add; split <;> simp_all
  rw [hplain, (Blk.new w t #[x, y]).cell j]
  rcases j with _ | _ | j
  · exact hu
  · exact hu
  · simp at hu

end Go.Proofs.YtkhkjacnoiopcaaGreatDoor

set_option linter.unusedVariables false
set_option linter.unusedSimpArgs false
namespace Go.Proofs.YtkhkjacnoiopcaaGreatDoor
open Go.RowKit

/-- A slice of records that came in. -/
def PairsIn (W : World) (v : Value) (l : List Px.Rec) : Prop :=
  ∃ X cap, v = .slice X l.length cap ∧ l.length ≤ cap ∧ l.length ≤ 4398046510976 ∧ (∀ r ∈ l, r.1.length ≤ 140737488351232 ∧ r.2.length ≤ 140737488351232) ∧ (l = [] ∨ ∃ b off, X = some ⟨b, off, none⟩ ∧ b < W.heap.size ∧ RowR W b off l)
theorem PairsIn.below {W W' : World} {v : Value} {l : List Px.Rec} (h : PairsIn W v l) (hb : Below W.heap.size W W') : PairsIn W' v l := by
  obtain ⟨X, cap, e, h1, h2, h3, h4⟩ := h
  exact ⟨X, cap, e, h1, h2, h3, h4.imp id fun ⟨b, off, e1, e2, e3⟩ => ⟨b, off, e1, Nat.lt_of_lt_of_le e2 hb.size, e3.below hb e2⟩⟩

end Go.Proofs.YtkhkjacnoiopcaaGreatDoor

set_option linter.unusedVariables false
set_option linter.unusedSimpArgs false
namespace Pk
open Pth Tre

theorem castP_size (l : List Hol.Pc) : sizeI (l.map Hol.castP) = (Hol.size l : Int) := by
  induction l with
  | nil => rfl
  | cons p l ih =>
    unfold sizeI Hol.size at ih ⊢
    rw [List.map_cons, List.map_cons, List.sum_cons, List.map_cons, List.sum_cons, ih]
    simp [Hol.castP]

/-! The fact on packing. -/
end Pk

set_option linter.unusedVariables false
set_option linter.unusedSimpArgs false
namespace Go.Proofs.YtkhkjacnoiopcaaGreatDoor
open Go.RowKit

/-- A []api.Piece that reads as ps. -/
def Pcs (W : World) (v : Value) (ps : List (Int × Int)) : Prop := ∃ (A : Option Addr) (cap : Nat), v = .slice A ps.length cap ∧ ∀ (j : Nat) (hj : j < ps.length), ∃ b off, A = some ⟨b, off, none⟩ ∧ b < W.heap.size ∧
  W.cell? ⟨b, off + j * 2, none⟩ = some (.int .i64 ps[j].1) ∧ W.cell? ⟨b, off + j * 2 + 1, none⟩ = some (.int .i64 ps[j].2)

/-- .. nil, empty, or with a row -/
theorem pcs_ways {W : World} {v : Value} {ps : List (Int × Int)} (h : Pcs W v ps) : (∃ A cap, v = .slice A 0 cap ∧ ps = []) ∨ ∃ b off cap, v = .slice (some ⟨b, off, none⟩) ps.length cap ∧ b < W.heap.size ∧ 0 < ps.length ∧
    ∀ (j : Nat) (hj : j < ps.length), W.cell? ⟨b, off + j * 2, none⟩ = some (.int .i64 ps[j].1) ∧ W.cell? ⟨b, off + j * 2 + 1, none⟩ = some (.int .i64 ps[j].2) := by
  obtain ⟨A, cap, rfl, hc⟩ := h
  by_cases h0 : 0 < ps.length
  · right
    obtain ⟨b, off, rfl, hb, _⟩ := hc 0 h0
    refine ⟨b, off, cap, rfl, hb, h0, fun j hj => ?_⟩
    obtain ⟨b', off', e, _, h⟩ := hc j hj
    cases e
    exact h
  · left
    have : ps = [] := List.length_eq_zero_iff.1 (by omega)
    subst this
    exact ⟨A, cap, rfl, rfl⟩
theorem Pcs.below {W W' : World} {v : Value} {ps : List (Int × Int)} (h : Pcs W v ps) (hb : Below W.heap.size W W') : Pcs W' v ps := by
  obtain ⟨A, cap, rfl, hc⟩ := h
  refine ⟨A, cap, rfl, fun j hj => ?_⟩
  obtain ⟨b, off, e, hlt, c1, c2⟩ := hc j hj
  exact ⟨b, off, e, Nat.lt_of_lt_of_le hlt hb.size, (hb.cell (p := ⟨b, off + j * 2, none⟩) hlt).trans c1, (hb.cell (p := ⟨b, off + j * 2 + 1, none⟩) hlt).trans c2⟩

/-- The cells of pieces. -/
def pcCells (l : List Hol.Pc) : List Value := l.flatMap fun p => [.int .i64 (p.1 : Int), .int .i64 (p.2 : Int)]
theorem pcCells_len (l : List Hol.Pc) : (pcCells l).length = l.length * 2 := by
  induction l with
  | nil => rfl
  | cons p l ih => simp only [pcCells, List.flatMap_cons, List.length_append, List.length_cons, List.length_nil] at ih ⊢; rw [ih]; omega
theorem pcCells_snoc (l : List Hol.Pc) (p : Hol.Pc) : pcCells (l ++ [p]) = pcCells l ++ [.int .i64 (p.1 : Int), .int .i64 (p.2 : Int)] := by simp [pcCells]
theorem pcCells_get (l : List Hol.Pc) (i : Nat) (hi : i < l.length) : (pcCells l)[i * 2]? = some (.int .i64 (l[i].1 : Int)) ∧ (pcCells l)[i * 2 + 1]? = some (.int .i64 (l[i].2 : Int)) := by
  induction l generalizing i with
  | nil => simp at hi
  | cons p l ih =>
    cases i with
    | zero => exact ⟨rfl, rfl⟩
    | succ i =>
      have := ih i (by simpa using hi)
      rw [show (i + 1) * 2 = i * 2 + 2 by omega]
      exact this

/-- A slice of pieces that the call owns. -/
def HasP (w : World) (B : Nat) (v : Value) (l : List Hol.Pc) : Prop := w.ownsRow B 79 2 v l.length (pcCells l)
theorem HasP.pcs {w : World} {B : Nat} {v : Value} {l : List Hol.Pc} (h : HasP w B v l) : Pcs w v (l.map Hol.castP) := by
  obtain ⟨_, hw⟩ := h
  rcases hw with ⟨rfl, h0⟩ | ⟨g, cap, cur, rfl, _, hg, _, _, _, ht⟩
  · exact ⟨none, 0, by rw [List.length_map, h0], fun j hj => absurd hj (by rw [List.length_map]; omega)⟩
  · refine ⟨some ⟨g, 0, none⟩, cap, by rw [List.length_map], fun j hj => ⟨g, 0, rfl, (Array.getElem?_eq_some_iff.1 hg).1, ?_⟩⟩
    have hj' : j < l.length := by simpa using hj
    obtain ⟨c1, c2⟩ := pcCells_get l j hj'
    rw [← ht, List.getElem?_take] at c1 c2
    rw [if_pos (by omega), Array.getElem?_toList] at c1 c2
    rw [cell_of_row w g _ cur _ (0, 0) hg, cell_of_row w g _ cur _ (0, 0) hg, Nat.zero_add]
    simp only [List.getElem_map, Hol.castP]
    exact ⟨c1, c2⟩
theorem HasP.mono {w : World} {B B' : Nat} {v : Value} {l : List Hol.Pc} (h : HasP w B v l) (hB : B' ≤ B) : HasP w B' v l := by
  refine ⟨h.1, ?_⟩
  rcases h.2 with hn | ⟨g, cap, cur, e, hb, rest⟩
  · exact .inl hn
  · exact .inr ⟨g, cap, cur, e, by omega, rest⟩
theorem HasP.later {w w' : World} {B : Nat} {v : Value} {l : List Hol.Pc} (h : HasP w B v l) (hb : Below w.heap.size w w') : HasP w' B v l :=
  World.ownsRow.kept h (only_of_below hb none) (by cases v.ownBlock <;> simp)
theorem HasP.drewN {w : World} {B : Nat} {v : Value} {l : List Hol.Pc} (h : HasP w B v l) (n : Nat) : HasP (w.drewN n) B v l := h
theorem HasP.ways {w : World} {B : Nat} {v : Value} {l : List Hol.Pc} (h : HasP w B v l) : (v = .slice none 0 0 ∧ l = []) ∨ ∃ g cap, v = .slice (some ⟨g, 0, none⟩) l.length cap ∧ B ≤ g ∧ g < w.heap.size ∧
    ∀ (j : Nat) (hj : j < l.length), w.cell? ⟨g, j * 2, none⟩ = some (.int .i64 (l[j].1 : Int)) ∧ w.cell? ⟨g, j * 2 + 1, none⟩ = some (.int .i64 (l[j].2 : Int)) := by
  obtain ⟨h1, hw⟩ := h
  rcases hw with ⟨rfl, h0⟩ | ⟨g, cap, cur, rfl, hB, hg, _, _, _, ht⟩
  · exact .inl ⟨rfl, List.length_eq_zero_iff.1 h0⟩
  · right
    refine ⟨g, cap, rfl, hB, (Array.getElem?_eq_some_iff.1 hg).1, fun j hj => ?_⟩
    obtain ⟨c1, c2⟩ := pcCells_get l j hj
    rw [← ht, List.getElem?_take] at c1 c2
    rw [if_pos (by omega), Array.getElem?_toList] at c1 c2
    rw [cell_of_row w g _ cur _ (0, 0) hg, cell_of_row w g _ cur _ (0, 0) hg]
    exact ⟨c1, c2⟩
theorem HasP.frozen {w : World} {B g n cap : Nat} {l : List Hol.Pc} (h : HasP w B (.slice (some ⟨g, 0, none⟩) n cap) l) (j : Nat) : w.frozen? ⟨g, j, none⟩ = false := by
  obtain ⟨_, hw⟩ := h
  rcases hw with ⟨e, _⟩ | ⟨g', cap', cur, e, hB, hg, _⟩
  · cases e
  · cases e
    exact Blk.frozen (show Blk w g _ cur from hg) j

/-- The last piece's size is another one. -/
theorem pcCells_last (l : List Hol.Pc) (a s t : Nat) : (pcCells (l ++ [(a, s)])).set (l.length * 2 + 1) (.int .i64 (t : Int)) = pcCells (l ++ [(a, t)]) := by
  rw [pcCells_snoc, pcCells_snoc, List.set_append_right _ _ (by rw [pcCells_len]; omega), pcCells_len, show l.length * 2 + 1 - l.length * 2 = 1 by omega]
  rfl
theorem ownsRow_set {w : World} {B e size g n cap : Nat} {xs : List Value} (h : w.ownsRow B e size (.slice (some ⟨g, 0, none⟩) n cap) n xs) (j : Nat) (u : Value) (hj : j < n * size) :
    (w.setCell ⟨g, j, none⟩ u).ownsRow B e size (.slice (some ⟨g, 0, none⟩) n cap) n (xs.set j u) := by
  obtain ⟨h1, hw⟩ := h
  refine ⟨by rw [List.length_set]; exact h1, ?_⟩
  rcases hw with ⟨e', _⟩ | ⟨g', cap', cur, e', hB, hg, h2, h3, h4, h5⟩
  · cases e'
  · cases e'
    refine .inr ⟨g, cap, cur.setIfInBounds j u, rfl, hB, (show Blk w g e cur from hg).set_ j u, h2, h3, by rw [Array.size_setIfInBounds]; exact h4, ?_⟩
    rw [Array.toList_setIfInBounds, List.take_set, h5]
theorem HasP.grow {w : World} {B g cap : Nat} {l : List Hol.Pc} {a s : Nat} (h : HasP w B (.slice (some ⟨g, 0, none⟩) (l.length + 1) cap) (l ++ [(a, s)])) (t : Nat) :
    HasP (w.setCell ⟨g, l.length * 2 + 1, none⟩ (.int .i64 (t : Int))) B (.slice (some ⟨g, 0, none⟩) (l.length + 1) cap) (l ++ [(a, t)]) := by
  unfold HasP at h ⊢
  rw [List.length_append] at h ⊢
  rw [← pcCells_last l a s t]
  exact ownsRow_set h _ _ (by omega)

end Go.Proofs.YtkhkjacnoiopcaaGreatDoor
