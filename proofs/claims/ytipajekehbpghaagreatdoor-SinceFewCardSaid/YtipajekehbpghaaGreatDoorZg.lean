/-
  Slices of pieces in memory.
-/
import Derived.Test.YtipajekehbpghaaGreatDoorZc
import Derived.Test.YtipajekehbpghaaGreatDoorZb
import Derived.OwnWalk
import Derived.Deep.Slices
import Derived.Deep.LoopGhost
import Derived.Test.YtipajekehbpghaaGreatDoorZa
import Derived.RegionTactic
import Derived.StillTailTactics
import Derived.Test.YtipajekehbpghaaGreatDoorZs
import Derived.BigQuiet
import Derived.Deep.QuietTactic
import Derived.Test.YtipajekehbpghaaGreatDoorZd
import Derived.BigRegion
import Derived.Deep.RegionHeld3
import Derived.Deep.RegionWith
set_option linter.unusedVariables false
set_option linter.unusedSimpArgs false

namespace Go.Proofs.YtipajekehbpghaaGreatDoor
open Go.RowKit

/-- A []api.Piece that reads as ps. -/
def Pcs (W : World) (v : Value) (ps : List (Int × Int)) : Prop := ∃ (A : Option Addr) (cap : Nat), v = .slice A ps.length cap ∧ ∀ (j : Nat) (hj : j < ps.length), ∃ b off, A = some ⟨b, off, none⟩ ∧ b < W.heap.size ∧
  W.cell? ⟨b, off + j * 2, none⟩ = some (.int .i64 ps[j].1) ∧ W.cell? ⟨b, off + j * 2 + 1, none⟩ = some (.int .i64 ps[j].2)

/-- .. nil, empty, or with a row -/
theorem pcs_ways {W : World} {v : Value} {ps : List (Int × Int)} (h : Pcs W v ps) : (∃ A cap, v = .slice A 0 cap ∧ ps = []) ∨ ∃ b off cap, v = .slice (some ⟨b, off, none⟩) ps.length cap ∧ b < W.heap.size ∧ 0 < ps.length ∧
    ∀ (j : Nat) (hj : j < ps.length), W.cell? ⟨b, off + j * 2, none⟩ = some (.int .i64 ps[j].1) ∧ W.cell? ⟨b, off + j * 2 + 1, none⟩ = some (.int .i64 ps[j].2) := by
  obtain ⟨A, cap, rfl, hc⟩ := h
  by_cases h0 : 0 < ps.length
  · right
    obtain ⟨b, off, rfl, hb, _⟩ := hc 0 h0
    refine ⟨b, off, cap, rfl, hb, h0, fun j hj => ?_⟩
    obtain ⟨b', off', e, _, h⟩ := hc j hj
    cases e
    exact h
  · left
    have : ps = [] := List.length_eq_zero_iff.1 (by omega)
    subst this
    exact ⟨A, cap, rfl, rfl⟩
theorem Pcs.below {W W' : World} {v : Value} {ps : List (Int × Int)} (h : Pcs W v ps) (hb : Below W.heap.size W W') : Pcs W' v ps := by
  obtain ⟨A, cap, rfl, hc⟩ := h
  refine ⟨A, cap, rfl, fun j hj => ?_⟩
  obtain ⟨b, off, e, hlt, c1, c2⟩ := hc j hj
  exact ⟨b, off, e, Nat.lt_of_lt_of_le hlt hb.size, (hb.cell (p := ⟨b, off + j * 2, none⟩) hlt).trans c1, (hb.cell (p := ⟨b, off + j * 2 + 1, none⟩) hlt).trans c2⟩

/-- The cells of pieces. -/
def pcCells (l : List Hol.Pc) : List Value := l.flatMap fun p => [.int .i64 (p.1 : Int), .int .i64 (p.2 : Int)]
theorem pcCells_len (l : List Hol.Pc) : (pcCells l).length = l.length * 2 := by
  induction l with
  | nil => rfl
  | cons p l ih => simp only [pcCells, List.flatMap_cons, List.length_append, List.length_cons, List.length_nil] at ih ⊢; rw [ih]; omega
theorem pcCells_snoc (l : List Hol.Pc) (p : Hol.Pc) : pcCells (l ++ [p]) = pcCells l ++ [.int .i64 (p.1 : Int), .int .i64 (p.2 : Int)] := by simp [pcCells]
theorem pcCells_get (l : List Hol.Pc) (i : Nat) (hi : i < l.length) : (pcCells l)[i * 2]? = some (.int .i64 (l[i].1 : Int)) ∧ (pcCells l)[i * 2 + 1]? = some (.int .i64 (l[i].2 : Int)) := by
  induction l generalizing i with
  | nil => simp at hi
  | cons p l ih =>
    cases i with
    | zero => exact ⟨rfl, rfl⟩
    | succ i =>
      have := ih i (by simpa using hi)
      rw [show (i + 1) * 2 = i * 2 + 2 by omega]
      exact this

/-- A slice of pieces that the call owns. -/
def HasP (w : World) (B : Nat) (v : Value) (l : List Hol.Pc) : Prop := w.ownsRow B 107 2 v l.length (pcCells l)
theorem HasP.pcs {w : World} {B : Nat} {v : Value} {l : List Hol.Pc} (h : HasP w B v l) : Pcs w v (l.map Hol.castP) := by
  obtain ⟨_, hw⟩ := h
  rcases hw with ⟨rfl, h0⟩ | ⟨g, cap, cur, rfl, _, hg, _, _, _, ht⟩
  · exact ⟨none, 0, by rw [List.length_map, h0], fun j hj => absurd hj (by rw [List.length_map]; omega)⟩
  · refine ⟨some ⟨g, 0, none⟩, cap, by rw [List.length_map], fun j hj => ⟨g, 0, rfl, (Array.getElem?_eq_some_iff.1 hg).1, ?_⟩⟩
    have hj' : j < l.length := by simpa using hj
    obtain ⟨c1, c2⟩ := pcCells_get l j hj'
    rw [← ht, List.getElem?_take] at c1 c2
    rw [if_pos (by omega), Array.getElem?_toList] at c1 c2
    rw [cell_of_row w g _ cur _ (0, 0) hg, cell_of_row w g _ cur _ (0, 0) hg, Nat.zero_add]
    simp only [List.getElem_map, Hol.castP]
    exact ⟨c1, c2⟩
theorem HasP.mono {w : World} {B B' : Nat} {v : Value} {l : List Hol.Pc} (h : HasP w B v l) (hB : B' ≤ B) : HasP w B' v l := by
  refine ⟨h.1, ?_⟩
  rcases h.2 with hn | ⟨g, cap, cur, e, hb, rest⟩
  · exact .inl hn
  · exact .inr ⟨g, cap, cur, e, by omega, rest⟩
theorem HasP.later {w w' : World} {B : Nat} {v : Value} {l : List Hol.Pc} (h : HasP w B v l) (hb : Below w.heap.size w w') : HasP w' B v l :=
  World.ownsRow.kept h (only_of_below hb none) (by cases v.ownBlock <;> simp)
theorem HasP.drewN {w : World} {B : Nat} {v : Value} {l : List Hol.Pc} (h : HasP w B v l) (n : Nat) : HasP (w.drewN n) B v l := h
theorem HasP.ways {w : World} {B : Nat} {v : Value} {l : List Hol.Pc} (h : HasP w B v l) : (v = .slice none 0 0 ∧ l = []) ∨ ∃ g cap, v = .slice (some ⟨g, 0, none⟩) l.length cap ∧ B ≤ g ∧ g < w.heap.size ∧
    ∀ (j : Nat) (hj : j < l.length), w.cell? ⟨g, j * 2, none⟩ = some (.int .i64 (l[j].1 : Int)) ∧ w.cell? ⟨g, j * 2 + 1, none⟩ = some (.int .i64 (l[j].2 : Int)) := by
  obtain ⟨h1, hw⟩ := h
  rcases hw with ⟨rfl, h0⟩ | ⟨g, cap, cur, rfl, hB, hg, _, _, _, ht⟩
  · exact .inl ⟨rfl, List.length_eq_zero_iff.1 h0⟩
  · right
    refine ⟨g, cap, rfl, hB, (Array.getElem?_eq_some_iff.1 hg).1, fun j hj => ?_⟩
    obtain ⟨c1, c2⟩ := pcCells_get l j hj
    rw [← ht, List.getElem?_take] at c1 c2
    rw [if_pos (by omega), Array.getElem?_toList] at c1 c2
    rw [cell_of_row w g _ cur _ (0, 0) hg, cell_of_row w g _ cur _ (0, 0) hg]
    exact ⟨c1, c2⟩
theorem HasP.frozen {w : World} {B g n cap : Nat} {l : List Hol.Pc} (h : HasP w B (.slice (some ⟨g, 0, none⟩) n cap) l) (j : Nat) : w.frozen? ⟨g, j, none⟩ = false := by
  obtain ⟨_, hw⟩ := h
  rcases hw with ⟨e, _⟩ | ⟨g', cap', cur, e, hB, hg, _⟩
  · cases e
  · cases e
    exact Blk.frozen (show Blk w g _ cur from hg) j

/-- The last piece's size is another one. -/
theorem pcCells_last (l : List Hol.Pc) (a s t : Nat) : (pcCells (l ++ [(a, s)])).set (l.length * 2 + 1) (.int .i64 (t : Int)) = pcCells (l ++ [(a, t)]) := by
  rw [pcCells_snoc, pcCells_snoc, List.set_append_right _ _ (by rw [pcCells_len]; omega), pcCells_len, show l.length * 2 + 1 - l.length * 2 = 1 by omega]
  rfl
theorem ownsRow_set {w : World} {B e size g n cap : Nat} {xs : List Value} (h : w.ownsRow B e size (.slice (some ⟨g, 0, none⟩) n cap) n xs) (j : Nat) (u : Value) (hj : j < n * size) :
    (w.setCell ⟨g, j, none⟩ u).ownsRow B e size (.slice (some ⟨g, 0, none⟩) n cap) n (xs.set j u) := by
  obtain ⟨h1, hw⟩ := h
  refine ⟨by rw [List.length_set]; exact h1, ?_⟩
  rcases hw with ⟨e', _⟩ | ⟨g', cap', cur, e', hB, hg, h2, h3, h4, h5⟩
  · cases e'
  · cases e'
    refine .inr ⟨g, cap, cur.setIfInBounds j u, rfl, hB, (show Blk w g e cur from hg).set_ j u, h2, h3, by rw [Array.size_setIfInBounds]; exact h4, ?_⟩
    rw [Array.toList_setIfInBounds, List.take_set, h5]
theorem HasP.grow {w : World} {B g cap : Nat} {l : List Hol.Pc} {a s : Nat} (h : HasP w B (.slice (some ⟨g, 0, none⟩) (l.length + 1) cap) (l ++ [(a, s)])) (t : Nat) :
    HasP (w.setCell ⟨g, l.length * 2 + 1, none⟩ (.int .i64 (t : Int))) B (.slice (some ⟨g, 0, none⟩) (l.length + 1) cap) (l ++ [(a, t)]) := by
  unfold HasP at h ⊢
  rw [List.length_append] at h ⊢
  rw [← pcCells_last l a s t]
  exact ownsRow_set h _ _ (by omega)

end Go.Proofs.YtipajekehbpghaaGreatDoor

namespace Go.Proofs.YtipajekehbpghaaGreatDoor
open Go.RowKit

set_option maxRecDepth 100000 in
set_option maxHeartbeats 1000000 in
theorem right_row (b off cap : Nat) (ps : List (Int × Int)) (size : Int) (w : World) (h0 : 0 < ps.length) (h20 : ps.length ≤ 20) (hs0 : 0 ≤ size) (hs1 : size ≤ 9223372036854775807) (hb : b < w.heap.size)
    (hc : ∀ (j : Nat) (hj : j < ps.length), w.cell? ⟨b, off + j * 2, none⟩ = some (.int .i64 ps[j].1) ∧ w.cell? ⟨b, off + j * 2 + 1, none⟩ = some (.int .i64 ps[j].2)) :
    Calls Tryz.prog 106 #[.slice (some ⟨b, off, none⟩) ps.length cap, .int .i64 size] w fun e w' => e = .returned (.bool (Hol.rightGo size (-1) ps)) ∧ Below w.heap.size w w' := by
  obtain ⟨r, hr⟩ : ∃ r, r = Hol.rightGo size (-1) ps := ⟨_, rfl⟩
  rw [← hr]
  have Hr := Lib.hid hr
  have HC := Lib.hid hc
  clear hr hc
  have k1 : ¬ size < 0 := by omega
  have k2 : ¬ (20 : Int) < ps.length := by omega
  go_enter Tryz.func106, Tryz.ntmps106
  go_wp2_with fail
  go_loopg [16] (ps.length) (fun g iv wr => ∃ (i : Nat) (lo : Int), iv = .int .i64 i ∧ i ≤ ps.length ∧ g + i = ps.length ∧ Below w.heap.size w wr ∧
    (i = 0 ∧ lo = -1 ∨ ∃ (k : Nat) (hk : k < ps.length), i = k + 1 ∧ 0 ≤ ps[k].1 ∧ 1 ≤ ps[k].2 ∧ ps[k].2 ≤ size ∧ ps[k].1 ≤ size - ps[k].2 ∧ lo = ps[k].1 + ps[k].2) ∧ r = Hol.rightGo size lo (ps.drop i))
  case atStart => exact ⟨0, -1, rfl, by omega, by omega, Below.refl _ _, .inl ⟨rfl, rfl⟩, Hr.out⟩
  case round =>
    obtain ⟨i, lo, rfl, hi1, hg, hbw, hlo, hR⟩ := hrel
    have Hg := Lib.hid hg
    have HR := Lib.hid hR
    have HW := Lib.hid hbw
    clear hg hR hbw
    by_cases hi : i < ps.length
    · have hi3 : (i : Int) < ps.length := by omega
      have c1 := (HW.out.cell (p := ⟨b, off + i * 2, none⟩) hb).trans (HC.out i hi).1
      have c2 := (HW.out.cell (p := ⟨b, off + i * 2 + 1, none⟩) hb).trans (HC.out i hi).2
      have hdr : ps.drop i = (ps[i].1, ps[i].2) :: ps.drop (i + 1) := List.drop_eq_getElem_cons hi
      obtain ⟨a, ha⟩ : ∃ a, a = ps[i].1 := ⟨_, rfl⟩
      obtain ⟨s, hs⟩ : ∃ s, s = ps[i].2 := ⟨_, rfl⟩
      rw [← ha] at c1
      rw [← hs] at c2
      rw [← ha, ← hs] at hdr
      have hR2 : r = if s < 1 ∨ a < 0 ∨ size < s ∨ size - s < a then false else if a ≤ lo then false else Hol.rightGo size (a + s) (ps.drop (i + 1)) := by
        rw [HR.out, hdr]; rfl
      have HA := Lib.hid ha
      have HS := Lib.hid hs
      have HR2 := Lib.hid hR2
      have HL := Lib.hid hlo
      clear ha hs hdr hR2 HR hlo
      by_cases hbad : s < 1 ∨ a < 0 ∨ size < s ∨ size - s < a
      · have hr : r = false := by rw [HR2.out, if_pos hbad]
        have HF := Lib.hid hr
        clear hr
        have hways : s < 1 ∨ (¬ s < 1 ∧ a < 0) ∨ (¬ s < 1 ∧ ¬ a < 0 ∧ size < s) ∨ (¬ s < 1 ∧ ¬ a < 0 ∧ ¬ size < s ∧ size - s < a) := by omega
        clear hbad HR2 HC
        rcases hways with h1 | ⟨h1, h2⟩ | ⟨h1, h2, h3⟩ | ⟨h1, h2, h3, h4⟩
        all_goals
          go_wp2_with fail
          go_ret
          rw [HF.out]
          exact ⟨rfl, HW.out.alloc HW.out.size _⟩
      · have h1 : ¬ s < 1 := by omega
        have h2 : ¬ a < 0 := by omega
        have h3 : ¬ size < s := by omega
        have h4 : ¬ size - s < a := by omega
        have HB := Lib.hid hbad
        clear hbad
        rcases HL.out with ⟨e0, rfl⟩ | ⟨k, hk, e0, p1, p2, p3, p4, e1⟩
        · subst e0
          have hr : r = Hol.rightGo size (a + s) (ps.drop (0 + 1)) := by rw [HR2.out, if_neg HB.out, if_neg (by omega)]
          have HF := Lib.hid hr
          have h0' : (0 : Int) < ps.length := by omega
          simp only [Nat.zero_mul, Nat.add_zero] at c1 c2
          clear hr
          go_wp2_with fail
          go_quiet (fail)
          go_wp2_with fail
          go_roundg (ps.length - 1)
          case measure => have := Hg.out; omega
          case rel => exact ⟨1, a + s, rfl, by omega, by omega, below_drewN (HW.out.alloc HW.out.size _) _, .inr ⟨0, hi, rfl, by rw [← HA.out]; omega, by rw [← HS.out]; omega, by rw [← HS.out]; omega, by rw [← HA.out, ← HS.out]; omega, by rw [HA.out, HS.out]⟩, HF.out⟩
        · subst e0
          obtain ⟨x, hx⟩ : ∃ x, x = ps[k].1 := ⟨_, rfl⟩
          obtain ⟨y, hy⟩ : ∃ y, y = ps[k].2 := ⟨_, rfl⟩
          have c3 := (HW.out.cell (p := ⟨b, off + k * 2, none⟩) hb).trans (HC.out k hk).1
          have c4 := (HW.out.cell (p := ⟨b, off + k * 2 + 1, none⟩) hb).trans (HC.out k hk).2
          rw [← hx] at c3 p1 p4 e1
          rw [← hy] at c4 p2 p3 p4 e1
          have E1 := Lib.hid e1
          have hbw : b < wr.heap.size := Nat.lt_of_lt_of_le hb HW.out.size
          have c3' : (wr.alloc (.cells #[.int .i64 a, .int .i64 s] 107)).cell? ⟨b, off + k * 2, none⟩ = some (.int .i64 x) := (World.cell?_alloc_lt _ _ ⟨b, off + k * 2, none⟩ hbw).trans c3
          have c4' : (wr.alloc (.cells #[.int .i64 a, .int .i64 s] 107)).cell? ⟨b, off + k * 2 + 1, none⟩ = some (.int .i64 y) := (World.cell?_alloc_lt _ _ ⟨b, off + k * 2 + 1, none⟩ hbw).trans c4
          have ew1 : IntKind.i64.wrap ((k : Int) + 1 - 1) = k := by rw [IntWalk.i64_in _ (by omega)]; omega
          have ew3 : IntKind.i64.wrap (k : Int) = k := IntWalk.i64_in _ (by omega)
          have ew2 : IntKind.i64.wrap (x + y) = x + y := IntWalk.i64_in _ (by omega)
          have hk3 : (k : Int) < ps.length := by omega
          have hk4 : (0 : Int) ≤ k := by omega
          have hk5 : (0 : Int) < (k : Int) + 1 := by omega
          clear hx hy e1 HL HC
          by_cases hle : a ≤ x + y
          · have hr : r = false := by rw [HR2.out, if_neg HB.out, if_pos (by rw [E1.out]; exact hle)]
            have HF := Lib.hid hr
            clear hr
            go_wp2_with fail
            go_quiet (fail)
            go_wp2_with fail
            go_ret
            rw [HF.out]
            exact ⟨rfl, below_drewN (HW.out.alloc HW.out.size _) _⟩
          · have hr : r = Hol.rightGo size (a + s) (ps.drop (k + 1 + 1)) := by rw [HR2.out, if_neg HB.out, if_neg (by rw [E1.out]; exact hle)]
            have HF := Lib.hid hr
            clear hr
            go_wp2_with fail
            go_quiet (fail)
            go_wp2_with fail
            go_roundg (ps.length - (k + 1 + 1))
            case measure => have := Hg.out; omega
            case rel => exact ⟨k + 1 + 1, a + s, by go_num, by omega, by omega, below_drewN (HW.out.alloc HW.out.size _) _, .inr ⟨k + 1, hi, rfl, by rw [← HA.out]; omega, by rw [← HS.out]; omega, by rw [← HS.out]; omega, by rw [← HA.out, ← HS.out]; omega, by rw [HA.out, HS.out]⟩, HF.out⟩
    · have hi3 : (ps.length : Int) ≤ i := by omega
      have hr : r = true := by rw [HR.out, List.drop_of_length_le (by omega)]; rfl
      have HF := Lib.hid hr
      clear hr HR hlo
      go_wp2_with fail
      go_ret
      rw [HF.out]
      exact ⟨rfl, HW.out⟩

theorem right_no (A : Option Addr) (L cap : Nat) (size : Int) (w : World) (h : size < 0 ∨ 20 < L) : Calls Tryz.prog 106 #[.slice A L cap, .int .i64 size] w fun e w' => e = .returned (.bool false) ∧ w' = w := by
  by_cases h1 : size < 0
  · clear h
    go_enter Tryz.func106, Tryz.ntmps106
    go_wp2_with fail
    go_ret
    exact ⟨rfl, rfl⟩
  · have h2 : (20 : Int) < L := by omega
    clear h
    go_enter Tryz.func106, Tryz.ntmps106
    go_wp2_with fail
    go_ret
    exact ⟨rfl, rfl⟩
theorem right_nil (A : Option Addr) (cap : Nat) (size : Int) (w : World) (h : ¬ size < 0) : Calls Tryz.prog 106 #[.slice A 0 cap, .int .i64 size] w fun e w' => e = .returned (.bool true) ∧ w' = w := by
  go_enter Tryz.func106, Tryz.ntmps106
  go_wp2_with fail
  refine wp_loop_rounds 1 ?_
  rw [rounds_succ]
  go_wp2_with fail
  go_ret
  exact ⟨rfl, rfl⟩
theorem hright_any (v : Value) (ps : List (Int × Int)) (size : Int) (w : World) (hP : Pcs w v ps) (h1 : size ≤ 9223372036854775807) :
    Calls Tryz.prog 106 #[v, .int .i64 size] w fun e w' => e = .returned (.bool (Hol.rightI ps size)) ∧ Below w.heap.size w w' := by
  unfold Hol.rightI
  by_cases hs : size < 0
  · rw [decide_eq_false (by omega : ¬ 0 ≤ size)]
    obtain ⟨A, cap, rfl, _⟩ := hP
    exact (right_no A _ cap size w (.inl hs)).mono fun e w' ⟨he, hw⟩ => ⟨he, hw ▸ Below.refl _ _⟩
  · rw [decide_eq_true (by omega : 0 ≤ size)]
    by_cases hl : 20 < ps.length
    · rw [decide_eq_false (by omega : ¬ ps.length ≤ 20)]
      obtain ⟨A, cap, rfl, _⟩ := hP
      exact (right_no A _ cap size w (.inr hl)).mono fun e w' ⟨he, hw⟩ => ⟨he, hw ▸ Below.refl _ _⟩
    · rw [decide_eq_true (by omega : ps.length ≤ 20)]
      rcases pcs_ways hP with ⟨A, cap, rfl, rfl⟩ | ⟨b, off, cap, rfl, hb, h0, hc⟩
      · exact (right_nil A cap size w hs).mono fun e w' ⟨he, hw⟩ => ⟨he, hw ▸ Below.refl _ _⟩
      · exact right_row b off cap ps size w h0 (by omega) (by omega) h1 hb hc

end Go.Proofs.YtipajekehbpghaaGreatDoor

namespace Go.Proofs.YtipajekehbpghaaGreatDoor
open Go.RowKit

/-- Row b from off on holds the pieces qs. -/
def RowQ (w : World) (b off : Nat) (qs : List Hol.Pc) : Prop := ∀ (j : Nat) (hj : j < qs.length), w.cell? ⟨b, off + j * 2, none⟩ = some (.int .i64 (qs[j].1 : Int)) ∧ w.cell? ⟨b, off + j * 2 + 1, none⟩ = some (.int .i64 (qs[j].2 : Int))
theorem rowq_ways {W : World} {v : Value} {qs : List Hol.Pc} (h : Pcs W v (qs.map Hol.castP)) : (∃ A cap, v = .slice A 0 cap ∧ qs = []) ∨ ∃ b off cap, v = .slice (some ⟨b, off, none⟩) qs.length cap ∧ b < W.heap.size ∧ 0 < qs.length ∧ RowQ W b off qs := by
  rcases pcs_ways h with ⟨A, cap, e, h0⟩ | ⟨b, off, cap, e, hb, h0, hc⟩
  · exact .inl ⟨A, cap, e, List.map_eq_nil_iff.1 h0⟩
  · right
    rw [List.length_map] at e h0
    refine ⟨b, off, cap, e, hb, h0, fun j hj => ?_⟩
    have := hc j (by rw [List.length_map]; exact hj)
    simpa [Hol.castP] using this
theorem right_asc {v : Value} {qs : List Hol.Pc} {n : Nat} {w : World} (hP : Pcs w v (qs.map Hol.castP)) (hA : Hol.Asc n 0 qs) (h20 : qs.length ≤ 20) (hn : n ≤ 1000000) :
    Calls Tryz.prog 106 #[v, .int .i64 n] w fun e w' => e = .returned (.bool true) ∧ Below w.heap.size w w' := by
  have h := hright_any v _ (n : Int) w hP (by omega)
  have e : Hol.rightI (qs.map Hol.castP) n = true := by
    unfold Hol.rightI
    rw [decide_eq_true (by omega : (0 : Int) ≤ n), decide_eq_true (by rw [List.length_map]; exact h20)]
    exact Hol.asc_right n qs 0 hA
  rw [e] at h; exact h

theorem size_snoc (qs : List Hol.Pc) (i : Nat) (hi : i < qs.length) : Hol.size (qs.take (i + 1)) = Hol.size (qs.take i) + qs[i].2 := by
  rw [List.take_succ_eq_append_getElem hi]
  unfold Hol.size
  rw [List.map_append, List.sum_append_nat]
  simp only [List.map_cons, List.map_nil, List.sum_cons, List.sum_nil, Nat.add_zero]
theorem size_take_le (qs : List Hol.Pc) (i : Nat) : Hol.size (qs.take i) ≤ Hol.size qs := by
  have := List.take_append_drop i qs
  have e : Hol.size qs = Hol.size (qs.take i) + Hol.size (qs.drop i) := by
    unfold Hol.size
    rw [← List.sum_append_nat, ← List.map_append, this]
  omega

set_option maxRecDepth 100000 in
theorem size_any (v : Value) (qs : List Hol.Pc) (w : World) (hP : Pcs w v (qs.map Hol.castP)) (hl : qs.length ≤ 1000) (hs : Hol.size qs ≤ 9223372036854775807) :
    Calls Tryz.prog 99 #[v] w fun e w' => e = .returned (.int .i64 (Hol.size qs)) ∧ Below w.heap.size w w' := by
  rcases rowq_ways hP with ⟨A, cap, rfl, rfl⟩ | ⟨b, off, cap, rfl, hb, h0, hc⟩
  · clear hP hl hs
    go_enter Tryz.func99, Tryz.ntmps99
    go_wp2_with fail
    refine wp_loop_rounds 1 ?_
    rw [rounds_succ]
    go_wp2_with fail
    go_ret
    exact ⟨rfl, Below.refl _ _⟩
  · have HC := Lib.hid hc
    clear hP hc
    go_enter Tryz.func99, Tryz.ntmps99
    go_wp2_with fail
    go_loopg [3, 8] (qs.length) (fun g nv iv wr => ∃ i n : Nat, iv = .int .i64 i ∧ nv = .int .i64 n ∧ i ≤ qs.length ∧ g + i = qs.length ∧ n ≤ 9223372036854775807 ∧ Below w.heap.size w wr ∧ n = Hol.size (qs.take i))
    case atStart => exact ⟨0, 0, rfl, rfl, by omega, by omega, by omega, Below.refl _ _, rfl⟩
    case round =>
      obtain ⟨i, n, rfl, rfl, hi1, hg, hn, hbw, hR⟩ := hrel
      have Hg := Lib.hid hg
      have HR := Lib.hid hR
      have HW := Lib.hid hbw
      clear hg hR hbw
      by_cases hi : i < qs.length
      · have hi3 : (i : Int) < qs.length := by omega
        have c1 := (HW.out.cell (p := ⟨b, off + i * 2, none⟩) hb).trans (HC.out i hi).1
        have c2 := (HW.out.cell (p := ⟨b, off + i * 2 + 1, none⟩) hb).trans (HC.out i hi).2
        obtain ⟨a, ha⟩ : ∃ a, a = qs[i].1 := ⟨_, rfl⟩
        obtain ⟨t, ht⟩ : ∃ t, t = qs[i].2 := ⟨_, rfl⟩
        rw [← ha] at c1
        rw [← ht] at c2
        have hn2 := size_snoc qs i hi
        have hle := size_take_le qs (i + 1)
        rw [← ht, ← HR.out] at hn2
        have hnt : n + t ≤ 9223372036854775807 := by omega
        have HN := Lib.hid hn2
        clear ha ht hn2 hle
        go_wp2_with fail
        go_roundg (qs.length - (i + 1))
        case measure => have := Hg.out; omega
        case rel => exact ⟨i + 1, n + t, by go_num, by go_num, by omega, by omega, hnt, HW.out.alloc HW.out.size _, HN.out.symm⟩
      · have hi3 : (qs.length : Int) ≤ i := by omega
        have hr : Hol.size qs = n := by rw [HR.out, List.take_of_length_le (by omega)]
        have HF := Lib.hid hr
        clear hr HR
        go_wp2_with fail
        go_ret
        rw [HF.out]
        exact ⟨rfl, HW.out⟩

theorem asc_mem (n : Nat) : ∀ (qs : List Hol.Pc) (lo : Nat), Hol.Asc n lo qs → ∀ p ∈ qs, 1 ≤ p.2 ∧ p.1 + p.2 ≤ n := by
  intro qs
  induction qs with
  | nil => intro _ _ p hp; cases hp
  | cons q r ih =>
    obtain ⟨a, s⟩ := q
    intro lo h p hp
    rcases List.mem_cons.1 hp with rfl | hp
    · exact ⟨h.1, h.2.2.1⟩
    · exact ih _ h.2.2.2 p hp
theorem take_snoc' (l : List UInt8) (qs : List Hol.Pc) (i : Nat) (hi : i < qs.length) : Hol.take l (qs.take (i + 1)) = Hol.take l (qs.take i) ++ Hol.cut l qs[i] := by
  rw [List.take_succ_eq_append_getElem hi]
  unfold Hol.take
  rw [List.flatMap_append]
  simp only [List.flatMap_cons, List.flatMap_nil, List.append_nil]

set_option maxRecDepth 100000 in
set_option maxHeartbeats 1000000 in
theorem take_any (s : ByteArray) (v : Value) (qs : List Hol.Pc) (w : World) (hP : Pcs w v (qs.map Hol.castP)) (hA : Hol.Asc s.size 0 qs) (hl : qs.length ≤ 20) (hs : s.size ≤ 1000000) :
    Calls Tryz.prog 100 #[.string s, v] w fun e w' => e = .returned (.tuple #[.string ⟨(Hol.take s.data.toList qs).toArray⟩, .nilIface]) ∧ Below w.heap.size w w' := by
  have hR := right_asc hP hA hl hs
  have HR := Lib.hid hR
  clear hR
  rcases rowq_ways hP with ⟨A, cap, rfl, rfl⟩ | ⟨b, off, cap, rfl, hb, h0, hc⟩
  · clear hP hA hl
    go_enter Tryz.func100, Tryz.ntmps100
    go_wp2_with fail
    refine HR.out.mono ?_
    rintro e w1 ⟨rfl, h1⟩
    have B1 := Lib.hid h1
    clear h1
    go_wp2_with fail
    refine wp_loop_rounds 1 ?_
    rw [rounds_succ]
    go_wp2_with fail
    go_ret2
    exact ⟨rfl, B1.out⟩
  · have HC := Lib.hid hc
    have HA := Lib.hid hA
    have hle := Hol.take_len s.data.toList qs 0 (by rw [list_size]; exact hA)
    have hsz := Hol.asc_size s.size qs 0 hA (by omega)
    clear hP hc hA
    go_enter Tryz.func100, Tryz.ntmps100
    go_wp2_with fail
    refine HR.out.mono ?_
    rintro e w1 ⟨rfl, h1⟩
    have B1 := Lib.hid h1
    clear h1
    go_wp2_with fail
    go_loopg [6, 17] (qs.length) (fun g ov iv wr => ∃ (i : Nat) (T : ByteArray), iv = .int .i64 i ∧ ov = .string T ∧ i ≤ qs.length ∧ g + i = qs.length ∧ Below w.heap.size w wr ∧ T.data.toList = Hol.take s.data.toList (qs.take i) ∧ T.size ≤ i * 1000000)
    case atStart => exact ⟨0, ⟨#[]⟩, rfl, rfl, by omega, by omega, B1.out, rfl, by decide⟩
    case round =>
      obtain ⟨i, T, rfl, rfl, hi1, hg, hbw, hT, hTs⟩ := hrel
      have Hg := Lib.hid hg
      have HT := Lib.hid hT
      have HW := Lib.hid hbw
      clear hg hT hbw
      by_cases hi : i < qs.length
      · have hi3 : (i : Int) < qs.length := by omega
        have c1 := (HW.out.cell (p := ⟨b, off + i * 2, none⟩) hb).trans (HC.out i hi).1
        have c2 := (HW.out.cell (p := ⟨b, off + i * 2 + 1, none⟩) hb).trans (HC.out i hi).2
        have hm := asc_mem s.size qs 0 HA.out qs[i] (List.getElem_mem hi)
        have hsn := take_snoc' s.data.toList qs i hi
        obtain ⟨a, ha⟩ : ∃ a, a = qs[i].1 := ⟨_, rfl⟩
        obtain ⟨t, ht⟩ : ∃ t, t = qs[i].2 := ⟨_, rfl⟩
        have hcut : (s.extract a (a + t)).data.toList = Hol.cut s.data.toList qs[i] := by rw [ext_mid, ha, ht]; rfl
        rw [← ha] at c1
        rw [← ht] at c2
        rw [← ha, ← ht] at hm
        obtain ⟨m1, m2⟩ := hm
        rw [← hcut, ← HT.out, ← cat_list] at hsn
        have hes := ext_size s a (a + t) (by omega)
        have c3 := fun w => run_string_add_sum (P := Tryz.prog) w T (s.extract a (a + t)) (by omega)
        have hes2 : (T ++ s.extract a (a + t)).size ≤ (i + 1) * 1000000 := by rw [ByteArray.size_append, hes]; omega
        have HN := Lib.hid hsn
        have m3 : (a : Int) + t ≤ s.size := by omega
        clear ha ht hsn hcut hes
        go_wp2_with fail
        go_roundg (qs.length - (i + 1))
        case measure => have := Hg.out; omega
        case rel => exact ⟨i + 1, _, by go_num, rfl, by omega, by omega, HW.out.alloc HW.out.size _, HN.out.symm, hes2⟩
      · have hi3 : (qs.length : Int) ≤ i := by omega
        have hr : T = ⟨(Hol.take s.data.toList qs).toArray⟩ := ba_ext (by rw [HT.out, List.take_of_length_le (by omega)])
        have HF := Lib.hid hr
        clear hr HT
        go_wp2_with fail
        go_ret2
        rw [HF.out]
        exact ⟨rfl, HW.out⟩

end Go.Proofs.YtipajekehbpghaaGreatDoor

namespace Go.Proofs.YtipajekehbpghaaGreatDoor
open Go.RowKit

theorem infoU8 : (Tryz.prog.info? 5).map (fun i => (i.zero, i.size, i.bytes)) = some (some (.int .u8 0), 1, 1) := by kernel_rfl
theorem Bytes.of_made {w : World} {g : Nat} {t : TypeId} {n : Nat} (h : Blk w g t (rowArr n fun _ => .int .u8 0)) : Bytes w g (List.replicate n 0) := fun j hj => by
  have hj' : j < n := by simpa using hj
  refine ⟨?_, h.frozen j⟩
  rw [h.cell j, rowArr_at n _ j hj', List.getElem_replicate]
  rfl
theorem sizeU8 (w : World) : (Go.sizeOf 5).run Tryz.prog w = .ok 1 w := by kernel_rfl

theorem size_drop (qs : List Hol.Pc) (i : Nat) (hi : i < qs.length) : Hol.size (qs.drop i) = qs[i].2 + Hol.size (qs.drop (i + 1)) := by
  rw [List.drop_eq_getElem_cons hi]; rfl

set_option maxRecDepth 100000 in
set_option maxHeartbeats 1000000 in
theorem put_row (d : ByteArray) (b off cap : Nat) (qs : List Hol.Pc) (n : Nat) (w : World) (hP : Pcs w (.slice (some ⟨b, off, none⟩) qs.length cap) (qs.map Hol.castP)) (hb : b < w.heap.size) (hc : RowQ w b off qs) (hA : Hol.Asc n 0 qs) (hl : qs.length ≤ 20) (hn : n ≤ 4000) (hd : Hol.size qs = d.size) :
    Calls Tryz.prog 172 #[.string d, .slice (some ⟨b, off, none⟩) qs.length cap, .int .i64 n] w fun e w' => e = .returned (.tuple #[.string ⟨(Hol.put d.data.toList qs n).toArray⟩, .nilIface]) ∧ Below w.heap.size w w' := by
  have hsz := Hol.asc_size n qs 0 hA (by omega)
  have hR := right_asc hP hA hl (by omega)
  have hbz := fun w2 (h2 : Below w.heap.size w w2) => size_any _ qs w2 (hP.below h2) (by omega) (by omega)
  have hmk := run_make_one (P := Tryz.prog) 133 5 (.int .u8 0) 1 Tryz.underlying133 infoU8 rfl n (n : Int) rfl (by omega) (by omega)
  obtain ⟨R, hRR⟩ : ∃ R, R = Hol.put d.data.toList qs n := ⟨_, rfl⟩
  rw [← hRR]
  have HR := Lib.hid hR
  have HZ := Lib.hid hbz
  have HRR := Lib.hid hRR
  have HC := Lib.hid hc
  have HA := Lib.hid hA
  have k1 : ((d.size : Int) != (Hol.size qs : Int)) = false := by simp; omega
  have k2 : ¬ (4000 : Int) < n := by omega
  have HD := Lib.hid hd
  clear hR hbz hRR hc hA hP hd
  go_enter Tryz.func172, Tryz.ntmps172
  go_wp2_with fail
  refine HR.out.mono ?_
  rintro e w1 ⟨rfl, h1⟩
  have B1 := Lib.hid h1
  clear h1
  go_wp2_with fail
  refine (HZ.out _ B1.out).mono ?_
  rintro e w2 ⟨rfl, h2⟩
  have B2 := Lib.hid (thenB B1.out h2)
  clear h2 B1
  go_wp2_with fail
  obtain ⟨w3, hw3⟩ : ∃ w3, w3 = w2.alloc (Obj.cells (rowArr n fun _ => Value.int .u8 0) 5) := ⟨_, rfl⟩
  rw [← hw3]
  obtain ⟨g, hg⟩ : ∃ g, g = w2.heap.size := ⟨_, rfl⟩
  have hy : Bytes w3 g (List.replicate n 0) := by rw [hw3, hg]; exact Bytes.of_made (Blk.new _ _ _)
  have hgw : w.heap.size ≤ g := by rw [hg]; exact B2.out.size
  have hg3 : g < w3.heap.size := by rw [hw3, hg]; simp
  have hB3 : Below w.heap.size w w3 := by rw [hw3]; exact B2.out.alloc B2.out.size _
  rw [← hg]
  have HY := Lib.hid hy
  have B3 := Lib.hid hB3
  clear hw3 hg hy hB3 B2 hmk
  go_loopg [0, 30] (qs.length) (fun gg dv iv wr => ∃ (i : Nat) (D : ByteArray) (L : List UInt8), iv = .int .i64 i ∧ dv = .string D ∧ i ≤ qs.length ∧ gg + i = qs.length ∧ Below w.heap.size w wr ∧ g < wr.heap.size ∧ Bytes wr g L ∧ L.length = n ∧ D.size = Hol.size (qs.drop i) ∧ R = Hol.putGo L D.data.toList (qs.drop i))
  case atStart => exact ⟨0, d, List.replicate n 0, rfl, rfl, by omega, by omega, B3.out, hg3, HY.out, by simp, HD.out.symm, HRR.out⟩
  case round =>
    obtain ⟨i, D, L, rfl, rfl, hi1, hg, hbw, hgr, hy, hLn, hDs, hRR⟩ := hrel
    have Hg := Lib.hid hg
    have HW := Lib.hid hbw
    have HRR2 := Lib.hid hRR
    have HLn := Lib.hid hLn
    clear hg hbw hRR hLn HRR HY B3
    by_cases hi : i < qs.length
    · have hi3 : (i : Int) < qs.length := by omega
      have c1 := (HW.out.cell (p := ⟨b, off + i * 2, none⟩) hb).trans (HC.out i hi).1
      have c2 := (HW.out.cell (p := ⟨b, off + i * 2 + 1, none⟩) hb).trans (HC.out i hi).2
      have hm := asc_mem n qs 0 HA.out qs[i] (List.getElem_mem hi)
      have hsd := size_drop qs i hi
      have hdr : qs.drop i = (qs[i].1, qs[i].2) :: qs.drop (i + 1) := List.drop_eq_getElem_cons hi
      obtain ⟨a, ha⟩ : ∃ a, a = qs[i].1 := ⟨_, rfl⟩
      obtain ⟨t, ht⟩ : ∃ t, t = qs[i].2 := ⟨_, rfl⟩
      rw [← ha] at c1
      rw [← ht] at c2
      rw [← ha, ← ht] at hm hdr
      rw [← ht] at hsd
      obtain ⟨m1, m2⟩ := hm
      have hx1 := ext_size D 0 t (by omega)
      have hxl : (D.extract 0 t).data.toList = D.data.toList.take t := ext_to D t
      have hxr : (D.extract t D.size).data.toList = D.data.toList.drop t := ext_end D t
      have hxs : (D.extract t D.size).size = Hol.size (qs.drop (i + 1)) := by rw [ext_size D t D.size (Nat.le_refl _)]; omega
      have htD : t ≤ D.size := by omega
      have hR2 : R = Hol.putGo (over L a (D.extract 0 t).data.toList) (D.extract t D.size).data.toList (qs.drop (i + 1)) := by
        rw [HRR2.out, hdr, hxl, hxr]; rfl
      have hy2 := (hy.alloc hgr (.cells #[.int .i64 (a : Int), .int .i64 (t : Int)] 107)).drew
      have hcp := run_copy_string (P := Tryz.prog) (wr.alloc (.cells #[.int .i64 (a : Int), .int .i64 (t : Int)] 107)).drew 133 9 3 5 g a (n - a) (n - a) (D.extract 0 t) Tryz.underlying133 sizeU8 (by omega)
        (fun j hj => by rw [hy2.cell (j := a + j) (by rw [HLn.out]; omega)]; rfl) (fun j hj => hy2.frozen (j := a + j) (by rw [HLn.out]; omega))
      have hy3 := hy2.copied a (D.extract 0 t) (by rw [HLn.out]; omega)
      have hov : (over L a (D.extract 0 t).data.toList).length = n := by rw [over_len _ _ _ (by rw [HLn.out, list_size]; omega)]; exact HLn.out
      have hbx : ((wr.alloc (.cells #[.int .i64 (a : Int), .int .i64 (t : Int)] 107)).drew.setCells g a (textCells (D.extract 0 t))).cell? ⟨wr.heap.size, 1, none⟩ = some (.int .i64 (t : Int)) := by
        rw [World.cell?_setCells_out g _ a _ ⟨wr.heap.size, 1, none⟩ (fun e _ => by have : wr.heap.size = g := e; omega)]
        exact (Blk.new wr 107 #[.int .i64 (a : Int), .int .i64 (t : Int)]).cell 1
      have hbl : Below w.heap.size w ((wr.alloc (.cells #[.int .i64 (a : Int), .int .i64 (t : Int)] 107)).drew.setCells g a (textCells (D.extract 0 t))) := below_setCells (HW.out.alloc HW.out.size _).drew g hgw _ _
      have hgz : g < ((wr.alloc (.cells #[.int .i64 (a : Int), .int .i64 (t : Int)] 107)).drew.setCells g a (textCells (D.extract 0 t))).heap.size := by rw [size_setCells]; simp; omega
      obtain ⟨w5, hw5⟩ : ∃ w5, w5 = (wr.alloc (.cells #[.int .i64 (a : Int), .int .i64 (t : Int)] 107)).drew.setCells g a (textCells (D.extract 0 t)) := ⟨_, rfl⟩
      have hcp2 : (Builtin.copy_ #[133, 9] 3 #[.slice (some ⟨g, a, none⟩) (n - a) (n - a), .string (D.extract 0 t)]).run Tryz.prog (wr.alloc (.cells #[.int .i64 (a : Int), .int .i64 (t : Int)] 107)).drew = .ok (goInt (D.extract 0 t).size) w5 := by rw [hw5]; exact hcp
      rw [← hw5] at hbx hbl hgz hy3
      clear hw5 hcp
      have HBL := Lib.hid hbl
      have HR3 := Lib.hid hR2
      have HY3 := Lib.hid hy3
      have HOV := Lib.hid hov
      have HXS := Lib.hid hxs
      have m3 : (a : Int) ≤ n := by omega
      have m4 : (t : Int) ≤ D.size := by omega
      clear ha ht hsd hdr hxl hxr hxs hR2 hy2 hy3 hov hDs hx1 hy HRR2 hbl
      go_wp2_with fail
      go_region
      all_goals
        go_wp2_with fail
        go_roundg (qs.length - (i + 1))
        case measure => have := Hg.out; omega
        case rel => exact ⟨i + 1, _, _, by go_num, rfl, by omega, by omega, HBL.out, hgz, HY3.out, HOV.out, HXS.out, HR3.out⟩
    · have hi3 : (qs.length : Int) ≤ i := by omega
      have hr : R = L := by rw [HRR2.out, List.drop_of_length_le (by omega)]; rfl
      have htx := hy.text (P := Tryz.prog) (src := 133) (dst := 9) Tryz.underlying133 Tryz.underlying5 Tryz.underlying9 n n HLn.out
      rw [← hr] at htx
      clear hr hDs HRR2 hy
      go_wp2_with fail
      go_ret2
      exact ⟨rfl, HW.out⟩

end Go.Proofs.YtipajekehbpghaaGreatDoor

namespace Go.Proofs.YtipajekehbpghaaGreatDoor
open Go.RowKit

/-- What Find comes to. -/
def FindPost (w : World) (qs : List Hol.Pc) (e : Ending) (w' : World) : Prop :=
  if 20 < qs.length then e = .returned (.tuple #[.slice none 0 0, .iface 89 (.int .i64 4)]) ∧ Below w.heap.size w w'
  else ∃ v, e = .returned (.tuple #[v, .nilIface]) ∧ HasP w' w.heap.size v qs ∧ Below w.heap.size w w'

theorem infoPc : (Tryz.prog.info? 107).map (fun i => (i.zero, i.size, i.bytes)) = some (some (.agg #[.int .i64 0, .int .i64 0]), 2, 16) := by kernel_rfl
theorem zeroPc (w : World) : (zeroValue 107).run Tryz.prog w = .ok (.agg #[.int .i64 0, .int .i64 0]) w := by kernel_rfl

theorem dropZ (l : List UInt8) (h : Hol.zeros l = true) : l.dropWhile (· == (0 : UInt8)) = [] := by
  induction l with
  | nil => rfl
  | cons c l ih =>
    simp only [Hol.zeros, List.all_cons, Bool.and_eq_true] at h
    rw [List.dropWhile_cons_of_pos (p := fun x => x == (0 : UInt8)) h.1, ih h.2]
theorem zeros_rev (l : List UInt8) : Hol.zeros l.reverse = Hol.zeros l := by unfold Hol.zeros; rw [List.all_reverse]
theorem dropN (l : List UInt8) (h : Hol.zeros l = false) : ∃ c r, l.dropWhile (· == (0 : UInt8)) = c :: r ∧ (c == (0 : UInt8)) = false := by
  induction l with
  | nil => cases h
  | cons c l ih =>
    by_cases hc : (c == (0 : UInt8)) = true
    · rw [List.dropWhile_cons_of_pos (p := fun x => x == (0 : UInt8)) hc]
      refine ih ?_
      simpa [Hol.zeros, hc] using h
    · rw [List.dropWhile_cons_of_neg (p := fun x => x == (0 : UInt8)) hc]
      exact ⟨c, l, rfl, by simpa using hc⟩
/-- strings.Trim(x, "\x00") tells whether all is 0. -/
theorem trim_named (x : ByteArray) (hx : x.size ≤ 100000) : ∃ T : ByteArray, T.toList.isEmpty = Hol.zeros x.data.toList ∧ ∀ w : World, Calls Tryz.prog 129 #[.string x, .string ⟨#[0]⟩] w fun e w' => e = .returned (.string T) ∧ Below w.heap.size w w' := by
  refine ⟨⟨(Lib.trimB x.data.toList 0).toArray⟩, ?_, fun w => (Tryz.strings_Trim_one x 0 (by decide) w (by omega)).mono fun _ w' ⟨he, hw⟩ => ⟨he, ?_⟩⟩
  · rw [Lib.toList_data]
    show (Lib.trimB x.data.toList 0).isEmpty = _
    unfold Lib.trimB Lib.trimRightB Lib.trimLeftB
    cases hz : Hol.zeros x.data.toList with
    | true =>
      rw [show x.data.toList.reverse.dropWhile (· == (0 : UInt8)) = [] from dropZ _ (by rw [zeros_rev]; exact hz)]; rfl
    | false =>
      obtain ⟨c, r, e, hc⟩ := dropN x.data.toList.reverse (by rw [zeros_rev]; exact hz)
      rw [e, List.reverse_cons]
      have hne : Hol.zeros (r.reverse ++ [c]) = false := by
        unfold Hol.zeros; rw [List.all_append]; simp [hc]
      obtain ⟨c2, r2, e2, _⟩ := dropN _ hne
      rw [e2]; rfl
  · rcases hw with rfl | rfl
    · exact Below.refl _ _
    · exact (Below.refl _ _).drew

theorem HasP.form {w : World} {B : Nat} {v : Value} {l : List Hol.Pc} (h : HasP w B v l) : ∃ X cap, v = .slice X l.length cap ∧ (X = none → l = []) := by
  obtain ⟨_, hw⟩ := h
  rcases hw with ⟨rfl, h0⟩ | ⟨g, cap, cur, rfl, _⟩
  · exact ⟨none, 0, by rw [h0], fun _ => List.length_eq_zero_iff.1 h0⟩
  · exact ⟨some ⟨g, 0, none⟩, cap, rfl, fun e => by cases e⟩

theorem HasP.pushed {w7 : World} {B Ln A n : Nat} {v' : Value} {r : List Hol.Pc} (h : w7.ownsRow B 107 2 v' (Ln + 1) (pcCells r.reverse ++ [.int .i64 (A : Int), .int .i64 (n : Int)])) (hL : Ln = r.length) : HasP w7 B v' ((A, n) :: r).reverse := by
  unfold HasP
  rw [List.reverse_cons, pcCells_snoc, List.length_append, List.length_reverse, ← hL]
  exact h
theorem HasP.row {w : World} {B Ln : Nat} {v : Value} {r : List Hol.Pc} (h : HasP w B v r.reverse) (hL : Ln = r.length) : w.ownsRow B 107 2 v Ln (pcCells r.reverse) := by
  unfold HasP at h
  rw [List.length_reverse, ← hL] at h
  exact h
theorem new_two (w : World) (t : TypeId) (x y : Value) : ∀ j u, ([x, y] : List Value)[j]? = some u → (w.alloc (.cells #[x, y] t)).cell? ((⟨w.heap.size, 0, none⟩ : Addr).add j) = some u := by
  intro j u hu
  have hplain : (⟨w.heap.size, 0, none⟩ : Addr).add j = ⟨w.heap.size, j, none⟩ := by unfold Addr.add; split <;> simp_all
  rw [hplain, (Blk.new w t #[x, y]).cell j]
  rcases j with _ | _ | j
  · exact hu
  · exact hu
  · simp at hu

set_option maxRecDepth 100000 in
set_option maxHeartbeats 2000000 in
theorem find_walk (s : ByteArray) (st0 st : Nat) (w : World) (hs : s.size ≤ 4000) (h1 : 1 ≤ st0) (h2 : st0 ≤ 1000) (hst : st = min st0 (max s.size 1)) :
    Calls Tryz.prog 98 #[.string s, .int .i64 st0] w (FindPost w (Hol.find s.data.toList st)) := by
  have k1 : ¬ (st0 : Int) < 1 := by omega
  have hst1 : 1 ≤ st := by omega
  have hst2 : st ≤ 1000 := by omega
  obtain ⟨qs, hqs⟩ : ∃ qs, qs = Hol.find s.data.toList st := ⟨_, rfl⟩
  rw [← hqs]
  obtain ⟨K, hK⟩ : ∃ K, K = Hol.rounds s.size st := ⟨_, rfl⟩
  have hKb := Hol.rounds_bd s.size st hst1
  rw [← hK] at hKb
  have hKi : (((s.size : Int) + st - 1).tdiv st) = K := by
    rw [hK]; unfold Hol.rounds
    have e : ((s.size : Int) + st - 1) = ((s.size + st - 1 : Nat) : Int) := by omega
    rw [e]; rfl
  have hmin : min (st0 : Int) (max (s.size : Int) 1) = st := by omega
  have hK2 : (K : Int) ≤ 4000 := by
    by_cases h : K = 0
    · omega
    · have := hKb.2 (K - 1) (by omega)
      have := Nat.le_mul_of_pos_right (K - 1) hst1
      omega
  have HQS := Lib.hid hqs
  have HK := Lib.hid hK
  have HKB := Lib.hid hKb
  have HST := Lib.hid hst
  clear hqs hK hKb hst
  go_enter Tryz.func98, Tryz.ntmps98
  go_wp2_with fail
  go_loopg [6, 26] (K) (fun g ov iv wr => ∃ k : Nat, iv = .int .i64 k ∧ k ≤ K ∧ g + k = K ∧ Below w.heap.size w wr ∧ HasP wr w.heap.size ov (Hol.acc s.data.toList st k).reverse ∧ (Hol.acc s.data.toList st k).length ≤ k)
  case atStart => exact ⟨0, rfl, by omega, by omega, Below.refl _ _, World.ownsRow_nil _ _ _ _, by simp [Hol.acc]⟩
  case round =>
    obtain ⟨k, rfl, hk1, hg, hbw, hP, hln⟩ := hrel
    have Hg := Lib.hid hg
    have HW := Lib.hid hbw
    obtain ⟨X, cap, hX, hXn⟩ := hP.form
    obtain ⟨Ln, hLn⟩ : ∃ n, n = (Hol.acc s.data.toList st k).length := ⟨_, rfl⟩
    rw [List.length_reverse, ← hLn] at hX
    subst hX
    rw [← hLn] at hln
    have HP := Lib.hid hP
    have HX := Lib.hid hXn
    clear hg hbw hP hXn
    by_cases hk : k < K
    · have hk3 : (k : Int) < K := by omega
      have hat := HKB.out.2 k hk
      obtain ⟨A, hA⟩ : ∃ A, A = k * st := ⟨_, rfl⟩
      have hmul : (k : Int) * (st : Int) = A := by rw [hA]; exact (Int.natCast_mul k st).symm
      rw [← hA] at hat
      obtain ⟨E, hE⟩ : ∃ E, E = min (A + st) s.size := ⟨_, rfl⟩
      have hmin2 : min ((A : Int) + (st : Int)) (s.size : Int) = E := by omega
      have hb1 : A < E := by omega
      have hb2 : E ≤ s.size := by omega
      have hbk : (s.extract A E).data.toList = Hol.blk s.data.toList st k := by
        rw [ext_list]
        unfold Hol.blk
        rw [← hA, List.drop_take]
        apply List.ext_getElem?
        intro j
        simp only [List.getElem?_take]
        split <;> split <;> first | rfl | (exfalso; omega) | skip
        rw [List.getElem?_drop, List.getElem?_eq_none (by rw [list_size]; omega)]
      have hes := ext_size s A E hb2
      obtain ⟨T, hT, rT⟩ := trim_named (s.extract A E) (by omega)
      rw [hbk] at hT
      have hbl : (Hol.blk s.data.toList st k).length = E - A := by rw [← hbk, list_size, hes]
      have hacc : Hol.acc s.data.toList st (k + 1) = if Hol.zeros (Hol.blk s.data.toList st k) then Hol.acc s.data.toList st k else Hol.push (Hol.acc s.data.toList st k) A (E - A) := by
        rw [← hbl, hA]; rfl
      have hesz : ((s.extract A E).size : Int) = ((E - A : Nat) : Int) := by rw [hes]
      have HACC := Lib.hid hacc
      have RT := Lib.hid rT
      have HES := Lib.hid hes
      have hst5 : (A : Int) ≤ 4000 := by omega
      have hE5 : (E : Int) ≤ 4000 := by omega
      have hAE : (A : Int) < (E : Int) := by omega
      have hES2 : (E : Int) ≤ s.size := by omega
      obtain ⟨r, hr⟩ : ∃ r, r = Hol.acc s.data.toList st k := ⟨_, rfl⟩
      rw [← hr] at HP HX HACC hLn
      have HLN := Lib.hid hLn
      have HACCR := Lib.hid hr
      have HAK : Hid (min A s.data.toList.length = min (k * st) s.data.toList.length) := by show _ = _; rw [hA]
      clear hacc rT hE hbk hbl hat hr hesz hLn
      by_cases hz : Hol.zeros (Hol.blk s.data.toList st k) = true
      · rw [hz] at hT
        have hr2 : Hol.acc s.data.toList st (k + 1) = r := by rw [HACC.out, if_pos hz]
        have HR2 := Lib.hid hr2
        clear hr2 hz hA hes
        go_wp2_with fail
        refine (RT.out _).mono ?_
        rintro e w2 ⟨rfl, h2⟩
        have B2 := Lib.hid h2
        clear h2
        go_wp2_with fail
        go_roundg (K - (k + 1))
        case measure => have := Hg.out; omega
        case rel => exact ⟨k + 1, by go_num, by omega, by omega, HW.out.trans (B2.out.mono HW.out.size), by rw [HR2.out]; exact HasP.later HP.out B2.out, by rw [HR2.out, ← HLN.out]; omega⟩
      · have hz' : Hol.zeros (Hol.blk s.data.toList st k) = false := by simpa using hz
        rw [hz'] at hT
        have hr2 : Hol.acc s.data.toList st (k + 1) = Hol.push r A (E - A) := by rw [HACC.out, if_neg hz]
        have HR2 := Lib.hid hr2
        clear hr2 hz hz' hA
        have hord := Hol.acc_ord s.data.toList st hst1 k (by rw [list_size, ← HK.out]; omega)
        rw [← HACCR.out, ← HAK.out, Nat.min_eq_left (by rw [list_size]; omega)] at hord
        obtain ⟨i0, i1, i2, i3, i4⟩ := info_parts infoPc
        have hz := zeroPc
        obtain ⟨r0, hr0⟩ : ∃ r0, r0 = r := ⟨_, rfl⟩
        have hways : (r = [] ∧ Ln = 0) ∨ ∃ b c M r', r = (b, c) :: r' ∧ Ln = M + 1 ∧ M = r'.length ∧ b + c ≤ A := by
          cases r with
          | nil => exact .inl ⟨rfl, HLN.out⟩
          | cons p r' =>
            obtain ⟨b, c⟩ := p
            exact .inr ⟨b, c, r'.length, r', rfl, HLN.out, rfl, by have := hord.2.1; omega⟩
        clear hord
        rcases hways with ⟨hr1, hL0⟩ | ⟨b, c, M, r', hr1, hLM, hM, hbc⟩
        · have hpu : Hol.push r A (E - A) = (A, E - A) :: r0 := by rw [hr0, hr1]; rfl
          have HPU := Lib.hid hpu
          subst hL0
          subst hr0
          clear hpu hr1
          go_wp2_with fail
          refine (RT.out _).mono ?_
          rintro e w2 ⟨rfl, h2⟩
          have HOWN := Lib.hid (HasP.later HP.out h2)
          have HB2 := Lib.hid (HW.out.trans (h2.mono HW.out.size))
          clear h2
          go_wp2_with fail
          go_quiet (fail)
          go_wp2_with (first
            | (at_builtin; refine wpList_append_own _ rfl (.tmp 76) (.tmp 81) 38 rfl w.heap.size 107 i0 _ 2 16 Tryz.underlying38 i1 i2 i3 i4 rfl (by decide) (.slice X 0 cap) 0 (pcCells r0.reverse) rfl (((HOWN.out.drewN nq).row HLN.out).alloc _) ⟨w2.heap.size, 0, none⟩ 1 1 [.int .i64 (A : Int), .int .i64 ((E - A : Nat) : Int)] rfl rfl (new_two (w2.drewN nq) _ _ _) (by intro u hu; simp at hu; rcases hu with rfl | rfl <;> rfl) (by unfold maxLen; omega) (by omega) (by have := HB2.out.size; simp; omega) ?_; intro v' w7 hown' hgrow _))
          have HP7 := Lib.hid (HasP.pushed hown' HLN.out)
          have HB7 := Lib.hid (((below_drewN HB2.out nq).alloc (by have := HB2.out.size; simpa using this) (.cells #[.int .i64 (A : Int), .int .i64 ((E - A : Nat) : Int)] 107)).grown hgrow (by have := HB2.out.size; simp; omega) (fun q hq => (World.ownsRow.lt ((HOWN.out.drewN nq).row HLN.out) q hq).1))
          clear hown' hgrow
          go_wp2_with fail
          go_roundg (K - (k + 1))
          case measure => have := Hg.out; omega
          case rel => exact ⟨k + 1, by go_num, by omega, by omega, HB7.out, by rw [HR2.out, HPU.out]; exact HP7.out, by rw [HR2.out, HPU.out, List.length_cons, ← HLN.out]; omega⟩
        · subst hLM
          obtain ⟨g, cap', hv, hgB, hgs, hcs⟩ : ∃ g cap', Value.slice X (M + 1) cap = .slice (some ⟨g, 0, none⟩) (M + 1) cap' ∧ w.heap.size ≤ g ∧ g < wr.heap.size ∧ wr.cell? ⟨g, M * 2, none⟩ = some (.int .i64 (b : Int)) ∧ wr.cell? ⟨g, M * 2 + 1, none⟩ = some (.int .i64 (c : Int)) := by
            rcases HP.out.ways with ⟨_, h0⟩ | ⟨g, cap', hv, h1, h2, h3⟩
            · rw [hr1] at h0; simp at h0
            · have hl : r.reverse.length = M + 1 := by rw [List.length_reverse]; exact HLN.out.symm
              rw [hl] at hv
              have hlt : M < r.reverse.length := by omega
              have hj := h3 M hlt
              have hel : r.reverse[M] = (b, c) := by
                have : r.reverse[M]? = some (b, c) := by rw [hr1, List.reverse_cons, List.getElem?_append_right (by rw [List.length_reverse]; omega), List.length_reverse, hM, Nat.sub_self]; rfl
                rw [List.getElem?_eq_getElem hlt] at this
                exact Option.some.inj this
              rw [hel] at hj
              exact ⟨g, cap', hv, h1, h2, hj⟩
          obtain ⟨rfl, rfl⟩ : X = some ⟨g, 0, none⟩ ∧ cap = cap' := by cases hv; exact ⟨rfl, rfl⟩
          obtain ⟨c3, c4⟩ := hcs
          have ew1 : IntKind.i64.wrap ((M : Int) + 1 - 1) = M := by rw [IntWalk.i64_in _ (by omega)]; omega
          have ew3 : IntKind.i64.wrap (M : Int) = M := IntWalk.i64_in _ (by omega)
          have ew2 : IntKind.i64.wrap ((b : Int) + (c : Int)) = (b : Int) + (c : Int) := IntWalk.i64_in _ (by omega)
          have C3 := Lib.hid c3
          have C4 := Lib.hid c4
          clear c3 c4 hv
          by_cases heq : b + c = A
          · have hbq : (((b : Int) + (c : Int)) == (A : Int)) = true := by simp; omega
            have hpu : Hol.push r A (E - A) = (b, c + (E - A)) :: r' := by rw [hr1, Hol.push_cons, if_pos heq]
            have HPU := Lib.hid hpu
            have HM := Lib.hid hM
            have HR1 := Lib.hid hr1
            have HQ := Lib.hid heq
            clear hpu hM hr1 hr0 heq
            go_wp2_with fail
            refine (RT.out _).mono ?_
            rintro e w2 ⟨rfl, h2⟩
            have HOWN := Lib.hid (HasP.later HP.out h2)
            have HB2 := Lib.hid (HW.out.trans (h2.mono HW.out.size))
            have c3 := (h2.cell (p := ⟨g, M * 2, none⟩) hgs).trans C3.out
            have c4 := (h2.cell (p := ⟨g, M * 2 + 1, none⟩) hgs).trans C4.out
            have f4 := HasP.frozen HOWN.out (M * 2 + 1)
            clear h2
            go_wp2_with fail
            go_quiet (fail)
            go_wp2_with fail
            go_roundg (K - (k + 1))
            case measure => have := Hg.out; omega
            case rel =>
              refine ⟨k + 1, by go_num, by omega, by omega, (below_drewN HB2.out _).setCell hgB _, ?_, by rw [HR2.out, HPU.out, List.length_cons, ← HM.out]; omega⟩
              rw [HR2.out, HPU.out, List.reverse_cons]
              have h := HOWN.out.drewN nq
              rw [HR1.out, List.reverse_cons] at h
              have hMl : M = r'.reverse.length := by rw [List.length_reverse]; exact HM.out
              rw [hMl] at h ⊢
              have h2 := HasP.grow h (c + (E - A))
              have ec : ((c + (E - A) : Nat) : Int) = (c : Int) + ((E - A : Nat) : Int) := by omega
              rw [ec] at h2
              exact h2
          · have hbq : (((b : Int) + (c : Int)) == (A : Int)) = false := by simp; omega
            have hpu : Hol.push r A (E - A) = (A, E - A) :: r0 := by rw [hr0, hr1, Hol.push_cons, if_neg heq]
            have HPU := Lib.hid hpu
            subst hr0
            have HM := Lib.hid hM
            have HQ := Lib.hid heq
            clear hpu hM hr1 heq
            go_wp2_with fail
            refine (RT.out _).mono ?_
            rintro e w2 ⟨rfl, h2⟩
            have HOWN := Lib.hid (HasP.later HP.out h2)
            have HB2 := Lib.hid (HW.out.trans (h2.mono HW.out.size))
            have c3 := (h2.cell (p := ⟨g, M * 2, none⟩) hgs).trans C3.out
            have c4 := (h2.cell (p := ⟨g, M * 2 + 1, none⟩) hgs).trans C4.out
            clear h2
            go_wp2_with fail
            go_quiet (fail)
            go_wp2_with (first
              | (at_builtin; refine wpList_append_own _ rfl (.tmp 76) (.tmp 81) 38 rfl w.heap.size 107 i0 _ 2 16 Tryz.underlying38 i1 i2 i3 i4 rfl (by decide) (.slice (some ⟨g, 0, none⟩) (M + 1) cap) (M + 1) (pcCells r0.reverse) rfl (((HOWN.out.drewN nq).row HLN.out).alloc _) ⟨w2.heap.size, 0, none⟩ 1 1 [.int .i64 (A : Int), .int .i64 ((E - A : Nat) : Int)] rfl rfl (new_two (w2.drewN nq) _ _ _) (by intro u hu; simp at hu; rcases hu with rfl | rfl <;> rfl) (by unfold maxLen; omega) (by omega) (by have := HB2.out.size; simp; omega) ?_; intro v' w7 hown' hgrow _))
            have HP7 := Lib.hid (HasP.pushed hown' HLN.out)
            have HB7 := Lib.hid (((below_drewN HB2.out nq).alloc (by have := HB2.out.size; simpa using this) (.cells #[.int .i64 (A : Int), .int .i64 ((E - A : Nat) : Int)] 107)).grown hgrow (by have := HB2.out.size; simp; omega) (fun q hq => (World.ownsRow.lt ((HOWN.out.drewN nq).row HLN.out) q hq).1))
            clear hown' hgrow
            go_wp2_with fail
            go_roundg (K - (k + 1))
            case measure => have := Hg.out; omega
            case rel => exact ⟨k + 1, by go_num, by omega, by omega, HB7.out, by rw [HR2.out, HPU.out]; exact HP7.out, by rw [HR2.out, HPU.out, List.length_cons, ← HLN.out]; omega⟩
    · have hk3 : (K : Int) ≤ k := by omega
      have hkK : k = K := by omega
      subst hkK
      have hfin : (Hol.acc s.data.toList st k).reverse = qs := by rw [HQS.out]; unfold Hol.find; rw [list_size, ← HK.out]
      rw [hfin] at HP
      have hll : Ln = qs.length := by rw [hLn, ← hfin, List.length_reverse]
      have HLL := Lib.hid hll
      clear hfin hLn hll HX
      by_cases h20 : 20 < Ln
      · have h20' : (20 : Int) < Ln := by omega
        have hp : ∀ e w', FindPost w qs e w' ↔ (e = .returned (.tuple #[.slice none 0 0, .iface 89 (.int .i64 4)]) ∧ Below w.heap.size w w') := fun e w' => by unfold FindPost; rw [if_pos (by rw [← HLL.out]; exact h20)]
        have HPP := Lib.hid hp
        clear hp h20
        go_wp2_with fail
        go_ret2
        exact (HPP.out _ _).2 ⟨rfl, HW.out⟩
      · have h20' : ¬ (20 : Int) < Ln := by omega
        have hp : ∀ e w', (∃ v, e = .returned (.tuple #[v, .nilIface]) ∧ HasP w' w.heap.size v qs ∧ Below w.heap.size w w') → FindPost w qs e w' := fun e w' h => by unfold FindPost; rw [if_neg (by rw [← HLL.out]; exact h20)]; exact h
        have HPP := Lib.hid hp
        clear hp h20
        go_wp2_with fail
        go_ret2
        exact HPP.out _ _ ⟨_, rfl, HP.out, HW.out⟩

end Go.Proofs.YtipajekehbpghaaGreatDoor

namespace Go.Proofs.YtipajekehbpghaaGreatDoor
open Go.RowKit

theorem RowQ.pcs {w : World} {b off cap : Nat} {qs : List Hol.Pc} (h : RowQ w b off qs) (hb : b < w.heap.size) : Pcs w (.slice (some ⟨b, off, none⟩) qs.length cap) (qs.map Hol.castP) := by
  refine ⟨_, cap, by rw [List.length_map], fun j hj => ⟨b, off, rfl, hb, ?_⟩⟩
  have := h j (by simpa using hj)
  simpa [Hol.castP] using this
theorem RowQ.below {w w' : World} {b off : Nat} {qs : List Hol.Pc} (h : RowQ w b off qs) (hb : b < w.heap.size) (hw : Below w.heap.size w w') : RowQ w' b off qs := fun j hj =>
  ⟨(hw.cell (p := ⟨b, off + j * 2, none⟩) hb).trans (h j hj).1, (hw.cell (p := ⟨b, off + j * 2 + 1, none⟩) hb).trans (h j hj).2⟩

end Go.Proofs.YtipajekehbpghaaGreatDoor

namespace Go.Proofs.YtipajekehbpghaaGreatDoor
open Go.RowKit

/-- What Find leaves: the pieces, or that there are too many. -/
def FindV (B : Nat) (qs : List Hol.Pc) (v E : Value) (w' : World) : Prop := (qs.length ≤ 20 ∧ E = .nilIface ∧ HasP w' B v qs) ∨ (20 < qs.length ∧ E = .iface 89 (.int .i64 4) ∧ v = .slice none 0 0)
def FindR (w : World) (qs : List Hol.Pc) (e : Ending) (w' : World) : Prop := ∃ v E, e = .returned (.tuple #[v, E]) ∧ FindV w.heap.size qs v E w' ∧ Below w.heap.size w w'

theorem find_any (s : ByteArray) (st : Nat) (w : World) (hs : s.size ≤ 4000) (h1 : 1 ≤ st) (h2 : st ≤ 1000) :
    Calls Tryz.prog 98 #[.string s, .int .i64 st] w (FindR w (Hol.find s.data.toList st)) := by
  have h := find_walk s st (min st (max s.size 1)) w hs h1 h2 rfl
  have e := Hol.find_min s.data.toList st h1
  rw [list_size] at e
  rw [e] at h
  refine h.mono fun en w' hp => ?_
  unfold FindPost at hp
  by_cases hl : 20 < (Hol.find s.data.toList st).length
  · rw [if_pos hl] at hp
    exact ⟨_, _, hp.1, .inr ⟨hl, rfl, rfl⟩, hp.2⟩
  · rw [if_neg hl] at hp
    obtain ⟨v, he, hv, hb⟩ := hp
    exact ⟨v, _, he, .inl ⟨by omega, rfl, hv⟩, hb⟩

end Go.Proofs.YtipajekehbpghaaGreatDoor

namespace Go.Proofs.YtipajekehbpghaaGreatDoor
open Go.RowKit

theorem pcs_nil (W : World) (A : Option Addr) (cap : Nat) : Pcs W (.slice A 0 cap) (([] : List Hol.Pc).map Hol.castP) := ⟨A, cap, rfl, fun j hj => absurd hj (Nat.not_lt_zero j)⟩

set_option maxRecDepth 100000 in
theorem put_nil (d : ByteArray) (A : Option Addr) (cap n : Nat) (w : World) (hn : n ≤ 4000) (hd : d.size = 0) :
    Calls Tryz.prog 172 #[.string d, .slice A 0 cap, .int .i64 n] w fun e w' => e = .returned (.tuple #[.string ⟨(List.replicate n 0).toArray⟩, .nilIface]) ∧ Below w.heap.size w w' := by
  have hR := right_nil A cap n w (by omega)
  have hZ : ∀ w : World, Calls Tryz.prog 99 #[.slice A 0 cap] w fun e w' => e = .returned (.int .i64 0) ∧ Below w.heap.size w w' := fun w => size_any _ [] w (pcs_nil w A cap) (by decide) (by decide)
  have hmk := run_make_one (P := Tryz.prog) 133 5 (.int .u8 0) 1 Tryz.underlying133 infoU8 rfl n (n : Int) rfl (by omega) (by omega)
  have k1 : ((d.size : Int) != 0) = false := by rw [hd]; rfl
  have k2 : ¬ (4000 : Int) < n := by omega
  obtain ⟨R, hRR⟩ : ∃ R : ByteArray, R = ⟨(List.replicate n (0 : UInt8)).toArray⟩ := ⟨_, rfl⟩
  rw [← hRR]
  have HRR := Lib.hid hRR
  have HR := Lib.hid hR
  have HZ := Lib.hid hZ
  clear hR hZ hd hRR
  go_enter Tryz.func172, Tryz.ntmps172
  go_wp2_with fail
  refine HR.out.mono ?_
  rintro e w1 ⟨rfl, rfl⟩
  go_wp2_with fail
  refine (HZ.out _).mono ?_
  rintro e w2 ⟨rfl, h2⟩
  have B2 := Lib.hid h2
  clear h2
  go_wp2_with fail
  obtain ⟨w3, hw3⟩ : ∃ w3, w3 = w2.alloc (Obj.cells (rowArr n fun _ => Value.int .u8 0) 5) := ⟨_, rfl⟩
  rw [← hw3]
  obtain ⟨g, hg⟩ : ∃ g, g = w2.heap.size := ⟨_, rfl⟩
  have hy : Bytes w3 g (List.replicate n 0) := by rw [hw3, hg]; exact Bytes.of_made (Blk.new _ _ _)
  have hB3 := B2.out.alloc B2.out.size (Obj.cells (rowArr n fun _ => Value.int .u8 0) 5)
  rw [← hw3] at hB3
  rw [← hg]
  have htx := hy.text (P := Tryz.prog) (src := 133) (dst := 9) Tryz.underlying133 Tryz.underlying5 Tryz.underlying9 n n (by simp)
  have B3 := Lib.hid hB3
  clear hw3 hg hy hB3 B2 hmk
  rw [← HRR.out] at htx
  refine wp_loop_rounds 1 ?_
  rw [rounds_succ]
  go_wp2_with fail
  go_ret2
  exact ⟨rfl, B3.out⟩

theorem put_any (d : ByteArray) (v : Value) (qs : List Hol.Pc) (n : Nat) (w : World) (hP : Pcs w v (qs.map Hol.castP)) (hA : Hol.Asc n 0 qs) (hl : qs.length ≤ 20) (hn : n ≤ 4000) (hd : Hol.size qs = d.size) :
    Calls Tryz.prog 172 #[.string d, v, .int .i64 n] w fun e w' => e = .returned (.tuple #[.string ⟨(Hol.put d.data.toList qs n).toArray⟩, .nilIface]) ∧ Below w.heap.size w w' := by
  rcases rowq_ways hP with ⟨A, cap, rfl, rfl⟩ | ⟨b, off, cap, rfl, hb, h0, hc⟩
  · exact put_nil d A cap n w hn hd.symm
  · exact put_row d b off cap qs n w hP hb hc hA hl hn hd

end Go.Proofs.YtipajekehbpghaaGreatDoor

namespace Go.Proofs.YtipajekehbpghaaGreatDoor
open Go.RowKit Tre Pk

def evc (e : Ent) (mv : Value) : Array Value := #[.string (bs e.name), .int .u8 e.kind, .int .i64 e.mode, .int .i64 e.uid, .int .i64 e.gid, .int .i64 e.size, .int .i64 e.sec, .int .i64 e.nano, .string (bs e.link), .string (bs e.user), .string (bs e.group), .int .i64 e.major, .int .i64 e.minor, .string (bs e.data), mv]
def ev (e : Ent) (mv : Value) : Value := .agg (evc e mv)

end Go.Proofs.YtipajekehbpghaaGreatDoor

namespace Go.Proofs.YtipajekehbpghaaGreatDoor
open Go.RowKit Go.Maps Tre Pk

theorem mwithin_any (n lo hi : Int) (w : World) : Calls Tryz.prog 55 #[.int .i64 n, .int .i64 lo, .int .i64 hi] w fun e w' => e = .returned (.bool (inR n lo hi)) ∧ w' = w := by
  have e0 : inR n lo hi = (decide (lo ≤ n) && decide (n ≤ hi)) := rfl
  obtain ⟨r, hr⟩ : ∃ r, r = inR n lo hi := ⟨_, rfl⟩
  rw [← hr] at e0 ⊢
  have hways : (¬ lo ≤ n ∧ r = false) ∨ (lo ≤ n ∧ ¬ n ≤ hi ∧ r = false) ∨ (lo ≤ n ∧ n ≤ hi ∧ r = true) := by
    rw [e0]
    by_cases h1 : lo ≤ n
    · by_cases h2 : n ≤ hi
      · exact .inr (.inr ⟨h1, h2, by simp [h1, h2]⟩)
      · exact .inr (.inl ⟨h1, h2, by simp [h2]⟩)
    · exact .inl ⟨h1, by simp [h1]⟩
  clear hr e0
  rcases hways with ⟨k1, rfl⟩ | ⟨k1, k2, rfl⟩ | ⟨k1, k2, rfl⟩
  all_goals
    go_enter Tryz.func55, Tryz.ntmps55
    go_wp2_with fail
    go_ret
    exact ⟨by first | rfl | (simp <;> omega), rfl⟩

theorem isText_any (s : Pth.Bs) (n : Nat) (w : World) : Calls Tryz.prog 57 #[.string (bs s), .int .i64 n] w fun e w' => e = .returned (.bool (txt s n)) ∧ w' = w := by
  have hz := has_zero' s
  have hi := fun w => Tryz.strings_IndexByte (bs s) 0 w
  have hix : (0 : Int).toNat.toUInt8 = 0 := rfl
  rw [hix] at hi
  rw [bs_list] at hi
  obtain ⟨x, hx⟩ : ∃ x, x = Lib.indexByte s 0 := ⟨_, rfl⟩
  rw [← hx] at hi hz
  have HI := Lib.hid hi
  have e0 : txt s n = (decide (s.length ≤ n) && !(s.contains 0)) := rfl
  rw [e0]
  clear hi hx hix e0
  by_cases h1 : s.length ≤ n
  · have h1i : ((bs s).size : Int) ≤ n := by rw [bs_size]; omega
    rw [decide_eq_true h1, Bool.true_and]
    cases hc : s.contains 0 with
    | true =>
      have hx0 : ¬ x < 0 := fun h => by rw [hz.1 h] at hc; cases hc
      clear hz hc h1
      go_enter Tryz.func57, Tryz.ntmps57
      go_wp2_with fail
      refine (HI.out _).mono ?_
      rintro e w' ⟨rfl, hw⟩
      subst w'
      go_wp2_with fail
      go_ret
      exact ⟨by first | rfl | (simp <;> omega), rfl⟩
    | false =>
      have hx0 : x < 0 := hz.2 hc
      clear hz hc h1
      go_enter Tryz.func57, Tryz.ntmps57
      go_wp2_with fail
      refine (HI.out _).mono ?_
      rintro e w' ⟨rfl, hw⟩
      subst w'
      go_wp2_with fail
      go_ret
      exact ⟨by first | rfl | (simp <;> omega), rfl⟩
  · have h1i : ¬ ((bs s).size : Int) ≤ n := by rw [bs_size]; omega
    rw [decide_eq_false h1, Bool.false_and]
    clear hz h1
    go_enter Tryz.func57, Tryz.ntmps57
    go_wp2_with fail
    go_ret
    exact ⟨by first | rfl | (simp <;> omega), rfl⟩

theorem isLink_any (k : Nat) (w : World) : Calls Tryz.prog 59 #[.int .u8 k] w fun e w' => e = .returned (.bool (k == 49 || k == 50)) ∧ w' = w := by
  by_cases h1 : k = 49
  · subst h1
    go_enter Tryz.func59, Tryz.ntmps59
    go_wp2_with fail
    go_ret
    exact ⟨rfl, rfl⟩
  · by_cases h2 : k = 50
    · subst h2
      go_enter Tryz.func59, Tryz.ntmps59
      go_wp2_with fail
      go_ret
      exact ⟨rfl, rfl⟩
    · have e1 : ((k : Int) == 49) = false := beq_eq_false_iff_ne.2 (by omega)
      have e2 : ((k : Int) == 50) = false := beq_eq_false_iff_ne.2 (by omega)
      have e3 : (k == 49 || k == 50) = false := by simp [h1, h2]
      have e4 : ¬ (k : Int) = 49 := by omega
      have e5 : ¬ (k : Int) = 50 := by omega
      rw [e3]
      clear e3 h1 h2
      go_enter Tryz.func59, Tryz.ntmps59
      go_wp2_with fail
      go_ret
      exact ⟨by first | rfl | (simp <;> omega), rfl⟩
theorem isDevice_any (k : Nat) (w : World) : Calls Tryz.prog 60 #[.int .u8 k] w fun e w' => e = .returned (.bool (k == 51 || k == 52)) ∧ w' = w := by
  by_cases h1 : k = 51
  · subst h1
    go_enter Tryz.func60, Tryz.ntmps60
    go_wp2_with fail
    go_ret
    exact ⟨rfl, rfl⟩
  · by_cases h2 : k = 52
    · subst h2
      go_enter Tryz.func60, Tryz.ntmps60
      go_wp2_with fail
      go_ret
      exact ⟨rfl, rfl⟩
    · have e1 : ((k : Int) == 51) = false := beq_eq_false_iff_ne.2 (by omega)
      have e2 : ((k : Int) == 52) = false := beq_eq_false_iff_ne.2 (by omega)
      have e3 : (k == 51 || k == 52) = false := by simp [h1, h2]
      have e4 : ¬ (k : Int) = 51 := by omega
      have e5 : ¬ (k : Int) = 52 := by omega
      rw [e3]
      clear e3 h1 h2
      go_enter Tryz.func60, Tryz.ntmps60
      go_wp2_with fail
      go_ret
      exact ⟨by first | rfl | (simp <;> omega), rfl⟩

set_option maxRecDepth 100000 in
set_option maxHeartbeats 4000000 in
theorem sparse_any (e : Ent) (mv : Value) (w : World) (hp : Pcs w mv e.map) (hd : e.data.length ≤ 140737488351232) (hl : e.map.length ≤ 1000000000000) : Calls Tryz.prog 105 #[ev e mv] w fun en w' => en = .returned (.bool (sparse e)) ∧ Below w.heap.size w w' := by
  obtain ⟨A, cap, rfl, _⟩ := hp
  have hs : sparse e = (!(e.map.isEmpty) || !((e.data.length : Int) == e.size)) := rfl
  obtain ⟨r, hr⟩ : ∃ r, r = sparse e := ⟨_, rfl⟩
  rw [← hr] at hs ⊢
  obtain ⟨n, k, m1, m2, m3, z, s, na, l, u, g, mj, mn, d, mp⟩ := e
  simp only at hs hd hl
  unfold ev evc
  simp only
  have hdi : ((bs d).size : Int) ≤ 140737488351232 := by rw [bs_size]; omega
  have hli : (mp.length : Int) ≤ 1000000000000 := by omega
  obtain ⟨len, hlen⟩ : ∃ len, len = mp.length := ⟨_, rfl⟩
  rw [← hlen] at hli ⊢
  by_cases h0 : mp = []
  · have l0 : len = 0 := by rw [hlen, h0]; rfl
    subst l0
    by_cases h2 : (d.length : Int) = z
    · have e2 : ((bs d).size : Int) = z := by rw [bs_size]; exact h2
      have er : r = false := by rw [hs, h0, h2]; simp
      subst er
      clear hs hr h0 hlen h2
      go_enter Tryz.func105, Tryz.ntmps105
      go_wp2_with fail
      go_ret
      exact ⟨by first | rfl | (simp <;> omega), (Below.refl _ _).alloc (Nat.le_refl _) _⟩
    · have e2 : ¬ ((bs d).size : Int) = z := by rw [bs_size]; exact h2
      have er : r = true := by rw [hs, h0]; simp [h2]
      subst er
      clear hs hr h0 hlen h2
      go_enter Tryz.func105, Tryz.ntmps105
      go_wp2_with fail
      go_ret
      exact ⟨by first | rfl | (simp <;> omega), (Below.refl _ _).alloc (Nat.le_refl _) _⟩
  · have lp : (0 : Int) < len := by have := List.length_pos_iff.2 h0; omega
    have er : r = true := by rw [hs]; cases mp with | nil => exact absurd rfl h0 | cons => rfl
    subst er
    clear hs hr h0 hlen
    go_enter Tryz.func105, Tryz.ntmps105
    go_wp2_with fail
    go_ret
    exact ⟨by first | rfl | (simp <;> omega), (Below.refl _ _).alloc (Nat.le_refl _) _⟩

end Go.Proofs.YtipajekehbpghaaGreatDoor

namespace Go.Proofs.YtipajekehbpghaaGreatDoor
open Go.RowKit Go.Maps Tre Pk

theorem sizeI_right {ps : List (Int × Int)} {z : Int} (h : Hol.rightI ps z = true) : ∃ qs : List Hol.Pc, ps = qs.map Hol.castP ∧ Hol.Asc z.toNat 0 qs ∧ qs.length ≤ 20 ∧ sizeI ps = (Hol.size qs : Int) := by
  unfold Hol.rightI at h
  simp only [Bool.and_eq_true, decide_eq_true_eq] at h
  obtain ⟨⟨h0, h20⟩, hg⟩ := h
  have hz : z = ((z.toNat : Nat) : Int) := by omega
  rw [hz] at hg
  obtain ⟨qs, e, ha⟩ := Hol.right_asc z.toNat ps 0 hg
  refine ⟨qs, e, ha, ?_, ?_⟩
  · rw [e, List.length_map] at h20; exact h20
  · rw [e]; exact castP_size qs

set_option maxRecDepth 100000 in
set_option maxHeartbeats 8000000 in
theorem isFilled_any (e : Ent) (mv : Value) (w : World) (hp : Pcs w mv e.map) (hk : e.kind ≤ 255) (hd : e.data.length ≤ 140737488351232) (hl : e.map.length ≤ 1000000000000) (hz : e.size ≤ 9223372036854775807) :
    Calls Tryz.prog 61 #[ev e mv] w fun en w' => en = .returned (.bool (filled e)) ∧ Below w.heap.size w w' := by
  have B1 := Lib.hid ((Below.refl w.heap.size w).alloc (Nat.le_refl _) (.cells (evc e mv) 40))
  have SP0 := Lib.hid (fun w' (hb : Below w.heap.size w w') => sparse_any e mv w' (hp.below hb) hd hl)
  have HR0 := Lib.hid (fun w' (hb : Below w.heap.size w w') => hright_any mv e.map e.size w' (hp.below hb) hz)
  have SZ0 := Lib.hid (fun w' (hb : Below w.heap.size w w') (qs : List Hol.Pc) (h1 : e.map = qs.map Hol.castP) (h2 : qs.length ≤ 1000) (h3 : Hol.size qs ≤ 9223372036854775807) => size_any mv qs w' (by rw [← h1]; exact hp.below hb) h2 h3)
  have KB := Lib.hid (Blk.new w 40 (evc e mv))
  have hf : filled e = if e.kind = 48 then inR e.size 0 4000 && (!(sparse e) || (Hol.rightI e.map e.size && ((e.data.length : Int) == sizeI e.map))) else (e.size == 0) && (e.data == []) && e.map.isEmpty := rfl
  obtain ⟨r, hr⟩ : ∃ r, r = filled e := ⟨_, rfl⟩
  obtain ⟨sp, hsp⟩ : ∃ sp, sp = sparse e := ⟨_, rfl⟩
  rw [← hsp] at hf SP0
  rw [← hr] at hf ⊢
  obtain ⟨A, cap, rfl, _⟩ := hp
  obtain ⟨n, k, m1, m2, m3, z, s, na, l, u, g, mj, mn, d, mp⟩ := e
  unfold ev evc at SP0
  unfold evc at B1 KB
  unfold ev evc
  simp only at hf hk hd hl hz SP0 HR0 SZ0 KB B1 ⊢
  obtain ⟨len, hlen⟩ : ∃ len, len = mp.length := ⟨_, rfl⟩
  have hli : (mp.length : Int) ≤ 1000000000000 := by omega
  have hdi : ((bs d).size : Int) ≤ 140737488351232 := by rw [bs_size]; omega
  rw [← hlen] at hli SP0 HR0 SZ0 KB B1 ⊢
  have HF := Lib.hid hf
  have HLEN := Lib.hid hlen
  clear hf hr hsp hlen hl
  by_cases h48 : k = 48
  rotate_left
  · have e0 : ((k : Int) != 48) = true := by rw [bne_iff_ne]; omega
    have hf := HF.out
    rw [if_neg h48] at hf
    clear SP0 HR0 SZ0
    by_cases z0 : z = 0
    · by_cases d0 : d = []
      · have hde : (bs d).toList.isEmpty = true := by rw [List.isEmpty_iff]; exact (str_nil d).2 d0
        by_cases p0 : mp = []
        · have l0 : len = 0 := by rw [HLEN.out, p0]; rfl
          have er : r = true := by rw [hf, z0, d0, p0]; rfl
          subst er l0 z0
          clear hf HF p0 h48 d0
          go_enter Tryz.func61, Tryz.ntmps61
          go_wp2_with fail
          go_ret
          exact ⟨by first | rfl | (simp <;> omega), B1.out⟩
        · have l0 : ¬ (len : Int) = 0 := by have := List.length_pos_iff.2 p0; have := HLEN.out; omega
          have er : r = false := by rw [hf, z0, d0]; cases mp with | nil => exact absurd rfl p0 | cons => rfl
          subst er z0
          clear hf HF p0 h48 d0
          go_enter Tryz.func61, Tryz.ntmps61
          go_wp2_with fail
          go_ret
          exact ⟨by first | rfl | (simp <;> omega), B1.out⟩
      · have hde : (bs d).toList.isEmpty = false := by rw [← Bool.not_eq_true, List.isEmpty_iff]; exact fun e => d0 ((str_nil d).1 e)
        have er : r = false := by rw [hf, z0]; simp [d0]
        subst er z0
        clear hf HF h48 d0
        go_enter Tryz.func61, Tryz.ntmps61
        go_wp2_with fail
        go_ret
        exact ⟨by first | rfl | (simp <;> omega), B1.out⟩
    · have er : r = false := by rw [hf]; simp [z0]
      have zb : (z == 0) = false := beq_eq_false_iff_ne.2 z0
      subst er
      clear hf HF h48
      go_enter Tryz.func61, Tryz.ntmps61
      go_wp2_with fail
      go_ret
      exact ⟨by first | rfl | (simp <;> omega), B1.out⟩
  · have e0 : ((k : Int) != 48) = false := by rw [bne_eq_false_iff_eq]; omega
    have hf := HF.out
    rw [if_pos h48] at hf
    obtain ⟨bz, hbz⟩ : ∃ bz, bz = inR z 0 4000 := ⟨_, rfl⟩
    have MW := Lib.hid (fun w => mwithin_any z 0 4000 w)
    rw [← hbz] at hf MW
    have HBZ := Lib.hid hbz
    have HFF := Lib.hid hf
    obtain ⟨W, hW⟩ : ∃ W, W = w.alloc (.cells #[.string (bs n), .int .u8 k, .int .i64 m1, .int .i64 m2, .int .i64 m3, .int .i64 z, .int .i64 s, .int .i64 na, .string (bs l), .string (bs u), .string (bs g), .int .i64 mj, .int .i64 mn, .string (bs d), .slice A len cap] 40) := ⟨_, rfl⟩
    rw [← hW] at KB B1
    have HB1 := B1
    have k1 := KB.out.lt
    have bw := Below.refl W.heap.size W
    have KC := Lib.hid (fun w' (h : Below W.heap.size W w') => (show w'.cell? ⟨w.heap.size, 0, none⟩ = some (.string (bs n)) ∧ w'.cell? ⟨w.heap.size, 1, none⟩ = some (.int .u8 k) ∧ w'.cell? ⟨w.heap.size, 2, none⟩ = some (.int .i64 m1) ∧ w'.cell? ⟨w.heap.size, 3, none⟩ = some (.int .i64 m2) ∧ w'.cell? ⟨w.heap.size, 4, none⟩ = some (.int .i64 m3) ∧ w'.cell? ⟨w.heap.size, 5, none⟩ = some (.int .i64 z) ∧ w'.cell? ⟨w.heap.size, 6, none⟩ = some (.int .i64 s) ∧ w'.cell? ⟨w.heap.size, 7, none⟩ = some (.int .i64 na) ∧ w'.cell? ⟨w.heap.size, 8, none⟩ = some (.string (bs l)) ∧ w'.cell? ⟨w.heap.size, 9, none⟩ = some (.string (bs u)) ∧ w'.cell? ⟨w.heap.size, 10, none⟩ = some (.string (bs g)) ∧ w'.cell? ⟨w.heap.size, 11, none⟩ = some (.int .i64 mj) ∧ w'.cell? ⟨w.heap.size, 12, none⟩ = some (.int .i64 mn) ∧ w'.cell? ⟨w.heap.size, 13, none⟩ = some (.string (bs d)) ∧ w'.cell? ⟨w.heap.size, 14, none⟩ = some (.slice A len cap) ∧ Below W.heap.size W w' from ⟨(KB.out.below h k1).cell 0, (KB.out.below h k1).cell 1, (KB.out.below h k1).cell 2, (KB.out.below h k1).cell 3, (KB.out.below h k1).cell 4, (KB.out.below h k1).cell 5, (KB.out.below h k1).cell 6, (KB.out.below h k1).cell 7, (KB.out.below h k1).cell 8, (KB.out.below h k1).cell 9, (KB.out.below h k1).cell 10, (KB.out.below h k1).cell 11, (KB.out.below h k1).cell 12, (KB.out.below h k1).cell 13, (KB.out.below h k1).cell 14, h⟩))
    have kc := KC.out W bw
    obtain ⟨q0, q1, q2, q3, q4, q5, q6, q7, q8, q9, q10, q11, q12, q13, q14, _⟩ := kc
    have SPC := Lib.hid (fun w' (hb : Below W.heap.size W w') => SP0.out w' (thenB B1.out hb))
    have HW := Lib.hid hW
    clear hf HF h48 hbz SP0 hW
    go_enter Tryz.func61, Tryz.ntmps61
    go_wp2_with fail
    rw [← HW.out]
    refine (MW.out _).mono ?_
    rintro e w' ⟨rfl, hw⟩
    subst w'
    cases bz with
    | false =>
      have er : r = false := by rw [HFF.out]; rfl
      subst er
      go_wp2_with fail
      go_ret
      exact ⟨by first | rfl | (simp <;> omega), HB1.out⟩
    | true =>
      cases sp with
      | false =>
        have er : r = true := by rw [HFF.out]; rfl
        subst er
        repeat' ((fail_if_success (with_reducible refine halt_at 5 ?_)); first | go_values | go_skip | go_guarded | go_step | go_upon | go_back | (simp only [Int.not_lt, Int.not_le] at *; go_simp) | (go_values <;> (try go_simp)) | (go_ite <;> go_prune <;> (try go_simp)) | (split <;> (first | (rename_i hx; exact (hx _ rfl).elim) | go_prune)))
        refine wp_region_any (by kernel_rfl) ?_
        change wpAny _ _ _ _ _ _ _ (World.drew _)
        refine wpAny_ready (rs := [0]) (by kernel_rfl) (by simp) ?_; refine AllReady.cons rfl (fun K hK => ?_) AllReady.nil; go_simp; refine hK _ _ ?_; clear hK K; (try simp only [Act.put, List.setIfInBounds_toArray, List.set_cons_zero, List.set_cons_succ])
        refine wpAny_ready (rs := [1]) (by kernel_rfl) (by simp) ?_
        refine AllReady.cons rfl (fun K hK => ?_) AllReady.nil
        go_simp
        refine (SPC.out _ (Below.drew bw)).mono ?_
        rintro e wt ⟨rfl, TT⟩
        have TB : Below W.heap.size W wt := (thenB (Below.drew bw) TT)
        refine hK _ _ ?_
        clear hK K
        refine wpAny_ready (rs := [2]) (by kernel_rfl) (by simp) ?_; refine AllReady.cons rfl (fun K hK => ?_) AllReady.nil; go_simp; refine hK _ _ ?_; clear hK K; (try simp only [Act.put, List.setIfInBounds_toArray, List.set_cons_zero, List.set_cons_succ])
        refine wpAny_ready (rs := [3]) (by kernel_rfl) (by simp) ?_; refine AllReady.cons rfl (fun K hK => ?_) AllReady.nil; go_simp; refine hK _ _ ?_; clear hK K; (try simp only [Act.put, List.setIfInBounds_toArray, List.set_cons_zero, List.set_cons_succ])
        refine wpAny_skips_of (ds := [some 28, some 29, some 30, some 31, some 32, some 33, some 34, some 35, some 36, some 37, some 38, some 39, some 40, some 41]) (listed' := #[true, true, true, true, true, true, true, true, true, true, true, true, true, true, true, true, true, true, false, false]) (fuel := 2) [4, 5, 6, 7, 8, 9, 10, 11, 12, 13, 14, 15, 16, 17] [(3, some true)] (by kernel_rfl) (by kernel_rfl) (by kernel_rfl) (by kernel_rfl) (by kernel_rfl) (by intro c a d v w h; cases d <;> exact h) (by intro p hp; rcases List.mem_singleton.1 hp with rfl; rfl) ?_; (try simp only [List.foldl_cons, List.foldl_nil, Act.put, List.setIfInBounds_toArray, List.set_cons_zero, List.set_cons_succ])
        refine wpAny_ready (rs := [18]) (by kernel_rfl) (by simp) ?_; refine AllReady.cons rfl (fun K hK => ?_) AllReady.nil; go_simp; refine hK _ _ ?_; clear hK K; (try simp only [Act.put, List.setIfInBounds_toArray, List.set_cons_zero, List.set_cons_succ])
        refine wpAny_ready (rs := [19]) (by kernel_rfl) (by simp) ?_; refine AllReady.cons rfl (fun K hK => ?_) AllReady.nil; go_simp; refine hK _ _ ?_; clear hK K; (try simp only [Act.put, List.setIfInBounds_toArray, List.set_cons_zero, List.set_cons_succ])
        refine wpAny_done (by kernel_rfl) ?_ _
        go_wp2_with fail
        go_ret
        exact ⟨by first | rfl | (simp <;> omega), thenB HB1.out TB⟩
      | true =>
        obtain ⟨q, hq⟩ : ∃ q, q = Hol.rightI mp z := ⟨_, rfl⟩
        have HRC := Lib.hid (fun w' (hb : Below W.heap.size W w') => HR0.out w' (thenB B1.out hb))
        rw [← hq] at HRC
        have HQ := Lib.hid hq
        clear hq
        cases q with
        | false =>
          have er : r = false := by rw [HFF.out, ← HQ.out]; rfl
          subst er
          repeat' ((fail_if_success (with_reducible refine halt_at 5 ?_)); first | go_values | go_skip | go_guarded | go_step | go_upon | go_back | (simp only [Int.not_lt, Int.not_le] at *; go_simp) | (go_values <;> (try go_simp)) | (go_ite <;> go_prune <;> (try go_simp)) | (split <;> (first | (rename_i hx; exact (hx _ rfl).elim) | go_prune)))
          refine wp_region_any (by kernel_rfl) ?_
          change wpAny _ _ _ _ _ _ _ (World.drew _)
          refine wpAny_ready (rs := [0]) (by kernel_rfl) (by simp) ?_; refine AllReady.cons rfl (fun K hK => ?_) AllReady.nil; go_simp; refine hK _ _ ?_; clear hK K; (try simp only [Act.put, List.setIfInBounds_toArray, List.set_cons_zero, List.set_cons_succ])
          refine wpAny_ready (rs := [1]) (by kernel_rfl) (by simp) ?_
          refine AllReady.cons rfl (fun K hK => ?_) AllReady.nil
          go_simp
          refine (SPC.out _ (Below.drew bw)).mono ?_
          rintro e wt ⟨rfl, TT⟩
          have TB : Below W.heap.size W wt := (thenB (Below.drew bw) TT)
          have kt := KC.out _ TB
          obtain ⟨x0, x1, x2, x3, x4, x5, x6, x7, x8, x9, x10, x11, x12, x13, x14, _⟩ := kt
          refine hK _ _ ?_
          clear hK K
          refine wpAny_ready (rs := [2]) (by kernel_rfl) (by simp) ?_; refine AllReady.cons rfl (fun K hK => ?_) AllReady.nil; go_simp; refine hK _ _ ?_; clear hK K; (try simp only [Act.put, List.setIfInBounds_toArray, List.set_cons_zero, List.set_cons_succ])
          refine wpAny_ready (rs := [3]) (by kernel_rfl) (by simp) ?_; refine AllReady.cons rfl (fun K hK => ?_) AllReady.nil; go_simp; refine hK _ _ ?_; clear hK K; (try simp only [Act.put, List.setIfInBounds_toArray, List.set_cons_zero, List.set_cons_succ])
          refine wpAny_take (i := 4) (v := .pointer <| some ⟨w.heap.size, 14, none⟩) rfl (by kernel_rfl) (by kernel_rfl) (by kernel_rfl) (fun _ _ _ h => h) (Or.inl ⟨by rfl, by intro w; go_simp⟩) ?_; (try simp only [Act.put, List.setIfInBounds_toArray, List.set_cons_zero, List.set_cons_succ])
          refine wpAny_take (i := 6) (v := .pointer <| some ⟨w.heap.size, 5, none⟩) rfl (by kernel_rfl) (by kernel_rfl) (by kernel_rfl) (fun _ _ _ h => h) (Or.inl ⟨by rfl, by intro w; go_simp⟩) ?_; (try simp only [Act.put, List.setIfInBounds_toArray, List.set_cons_zero, List.set_cons_succ])
          refine wpAny_ready (rs := [5, 7]) (by kernel_rfl) (by simp) ?_
          refine AllReady.cons rfl (fun K hK => ?_) (AllReady.cons rfl (fun K hK => ?_) AllReady.nil)
          focus
            go_simp
            refine hK _ _ ?_
            clear hK K
            (try simp only [Act.put, List.setIfInBounds_toArray, List.set_cons_zero, List.set_cons_succ])
            refine wpAny_ready (rs := [7]) (by kernel_rfl) (by simp) ?_; refine AllReady.cons rfl (fun K hK => ?_) AllReady.nil; go_simp; refine hK _ _ ?_; clear hK K; (try simp only [Act.put, List.setIfInBounds_toArray, List.set_cons_zero, List.set_cons_succ])
          rotate_left
          focus
            go_simp
            refine hK _ _ ?_
            clear hK K
            (try simp only [Act.put, List.setIfInBounds_toArray, List.set_cons_zero, List.set_cons_succ])
            refine wpAny_ready (rs := [5]) (by kernel_rfl) (by simp) ?_; refine AllReady.cons rfl (fun K hK => ?_) AllReady.nil; go_simp; refine hK _ _ ?_; clear hK K; (try simp only [Act.put, List.setIfInBounds_toArray, List.set_cons_zero, List.set_cons_succ])
          all_goals
            refine wpAny_ready (rs := [8]) (by kernel_rfl) (by simp) ?_
            refine AllReady.cons rfl (fun K hK => ?_) AllReady.nil
            go_simp
            refine (HRC.out _ TB).mono ?_
            rintro e wu ⟨rfl, TU⟩
            have TB2 : Below W.heap.size W wu := (thenB TB TU)
            refine hK _ _ ?_
            clear hK K
            refine wpAny_ready (rs := [9]) (by kernel_rfl) (by simp) ?_; refine AllReady.cons rfl (fun K hK => ?_) AllReady.nil; go_simp; refine hK _ _ ?_; clear hK K; (try simp only [Act.put, List.setIfInBounds_toArray, List.set_cons_zero, List.set_cons_succ])
            refine wpAny_skips_of (ds := [some 34, some 35, some 36, some 37, some 38, some 39, some 40]) (listed' := #[true, true, true, true, true, true, true, true, true, true, true, true, true, true, true, true, true, false, false, false]) (fuel := 3) [10, 11, 12, 13, 14, 15, 16] [(9, some false)] (by kernel_rfl) (by kernel_rfl) (by kernel_rfl) (by kernel_rfl) (by kernel_rfl) (by intro c a d v w h; cases d <;> exact h) (by intro p hp; rcases List.mem_singleton.1 hp with rfl; rfl) ?_; (try simp only [List.foldl_cons, List.foldl_nil, Act.put, List.setIfInBounds_toArray, List.set_cons_zero, List.set_cons_succ])
            refine wpAny_ready (rs := [17]) (by kernel_rfl) (by simp) ?_; refine AllReady.cons rfl (fun K hK => ?_) AllReady.nil; go_simp; refine hK _ _ ?_; clear hK K; (try simp only [Act.put, List.setIfInBounds_toArray, List.set_cons_zero, List.set_cons_succ])
            refine wpAny_ready (rs := [18]) (by kernel_rfl) (by simp) ?_; refine AllReady.cons rfl (fun K hK => ?_) AllReady.nil; go_simp; refine hK _ _ ?_; clear hK K; (try simp only [Act.put, List.setIfInBounds_toArray, List.set_cons_zero, List.set_cons_succ])
            refine wpAny_ready (rs := [19]) (by kernel_rfl) (by simp) ?_; refine AllReady.cons rfl (fun K hK => ?_) AllReady.nil; go_simp; refine hK _ _ ?_; clear hK K; (try simp only [Act.put, List.setIfInBounds_toArray, List.set_cons_zero, List.set_cons_succ])
            refine wpAny_done (by kernel_rfl) ?_ _
            go_wp2_with fail
            go_ret
            exact ⟨by first | rfl | (simp <;> omega), thenB HB1.out TB2⟩
        | true =>
          obtain ⟨qs, c1, c2, c3, c4⟩ := sizeI_right HQ.out.symm
          have hzb : z ≤ 4000 := by
            have := HBZ.out
            unfold inR at this
            simp at this
            exact this.2
          have c5 := Hol.asc_size z.toNat qs 0 c2 (by omega)
          have SZC := Lib.hid (fun w' (hb : Below W.heap.size W w') => SZ0.out w' (thenB B1.out hb) qs c1 (by omega) (by omega))
          obtain ⟨y, hy⟩ : ∃ y, y = Hol.size qs := ⟨_, rfl⟩
          rw [← hy] at SZC c4 c5
          have hyi : (y : Int) ≤ 4001 := by omega
          have HC4 := Lib.hid c4
          clear c1 c2 c3 c4 c5 hy
          by_cases hdy : d.length = y
          · have er : r = true := by rw [HFF.out, ← HQ.out, HC4.out, hdy]; simp
            have e1 : ((bs d).size : Int) = y := by rw [bs_size]; omega
            have e2 : (((bs d).size : Int) == (y : Int)) = true := beq_iff_eq.2 e1
            subst er
            clear hdy
            repeat' ((fail_if_success (with_reducible refine halt_at 5 ?_)); first | go_values | go_skip | go_guarded | go_step | go_upon | go_back | (simp only [Int.not_lt, Int.not_le] at *; go_simp) | (go_values <;> (try go_simp)) | (go_ite <;> go_prune <;> (try go_simp)) | (split <;> (first | (rename_i hx; exact (hx _ rfl).elim) | go_prune)))
            go_region_held3 (fun w' => w'.cell? ⟨w.heap.size, 0, none⟩ = some (.string (bs n)) ∧ w'.cell? ⟨w.heap.size, 1, none⟩ = some (.int .u8 k) ∧ w'.cell? ⟨w.heap.size, 2, none⟩ = some (.int .i64 m1) ∧ w'.cell? ⟨w.heap.size, 3, none⟩ = some (.int .i64 m2) ∧ w'.cell? ⟨w.heap.size, 4, none⟩ = some (.int .i64 m3) ∧ w'.cell? ⟨w.heap.size, 5, none⟩ = some (.int .i64 z) ∧ w'.cell? ⟨w.heap.size, 6, none⟩ = some (.int .i64 s) ∧ w'.cell? ⟨w.heap.size, 7, none⟩ = some (.int .i64 na) ∧ w'.cell? ⟨w.heap.size, 8, none⟩ = some (.string (bs l)) ∧ w'.cell? ⟨w.heap.size, 9, none⟩ = some (.string (bs u)) ∧ w'.cell? ⟨w.heap.size, 10, none⟩ = some (.string (bs g)) ∧ w'.cell? ⟨w.heap.size, 11, none⟩ = some (.int .i64 mj) ∧ w'.cell? ⟨w.heap.size, 12, none⟩ = some (.int .i64 mn) ∧ w'.cell? ⟨w.heap.size, 13, none⟩ = some (.string (bs d)) ∧ w'.cell? ⟨w.heap.size, 14, none⟩ = some (.slice A len cap) ∧ Below W.heap.size W w') (first | (go_split_ands; refine KC.out _ ?_; first | with_reducible assumption | with_reducible exact Below.drew bw)) (first | (go_at_call 105; go_split_ands; refine (SPC.out _ (by with_reducible assumption)).mono ?_; rintro e wt ⟨rfl, TT⟩; have TB : Below W.heap.size W wt := (by with_reducible exact thenB (by assumption) TT)) | (go_at_call 106; go_split_ands; refine (HRC.out _ (by with_reducible assumption)).mono ?_; rintro e wu ⟨rfl, TU⟩; have TB2 : Below W.heap.size W wu := (by with_reducible exact thenB (by assumption) TU)) | (go_at_call 99; go_split_ands; refine (SZC.out _ (by with_reducible assumption)).mono ?_; rintro e wv ⟨rfl, TV⟩; have TB3 : Below W.heap.size W wv := (by with_reducible exact thenB (by assumption) TV)) | fail)
            all_goals go_wp2_with fail
            all_goals go_ret
            all_goals exact ⟨by first | rfl | (simp <;> omega), by first | exact thenB HB1.out TB3 | exact thenB HB1.out TB2 | exact thenB HB1.out TB⟩
          · have er : r = false := by rw [HFF.out, ← HQ.out, HC4.out]; simp; omega
            have e1 : ¬ ((bs d).size : Int) = y := by rw [bs_size]; omega
            have e2 : (((bs d).size : Int) == (y : Int)) = false := beq_eq_false_iff_ne.2 e1
            subst er
            clear hdy
            repeat' ((fail_if_success (with_reducible refine halt_at 5 ?_)); first | go_values | go_skip | go_guarded | go_step | go_upon | go_back | (simp only [Int.not_lt, Int.not_le] at *; go_simp) | (go_values <;> (try go_simp)) | (go_ite <;> go_prune <;> (try go_simp)) | (split <;> (first | (rename_i hx; exact (hx _ rfl).elim) | go_prune)))
            go_region_held3 (fun w' => w'.cell? ⟨w.heap.size, 0, none⟩ = some (.string (bs n)) ∧ w'.cell? ⟨w.heap.size, 1, none⟩ = some (.int .u8 k) ∧ w'.cell? ⟨w.heap.size, 2, none⟩ = some (.int .i64 m1) ∧ w'.cell? ⟨w.heap.size, 3, none⟩ = some (.int .i64 m2) ∧ w'.cell? ⟨w.heap.size, 4, none⟩ = some (.int .i64 m3) ∧ w'.cell? ⟨w.heap.size, 5, none⟩ = some (.int .i64 z) ∧ w'.cell? ⟨w.heap.size, 6, none⟩ = some (.int .i64 s) ∧ w'.cell? ⟨w.heap.size, 7, none⟩ = some (.int .i64 na) ∧ w'.cell? ⟨w.heap.size, 8, none⟩ = some (.string (bs l)) ∧ w'.cell? ⟨w.heap.size, 9, none⟩ = some (.string (bs u)) ∧ w'.cell? ⟨w.heap.size, 10, none⟩ = some (.string (bs g)) ∧ w'.cell? ⟨w.heap.size, 11, none⟩ = some (.int .i64 mj) ∧ w'.cell? ⟨w.heap.size, 12, none⟩ = some (.int .i64 mn) ∧ w'.cell? ⟨w.heap.size, 13, none⟩ = some (.string (bs d)) ∧ w'.cell? ⟨w.heap.size, 14, none⟩ = some (.slice A len cap) ∧ Below W.heap.size W w') (first | (go_split_ands; refine KC.out _ ?_; first | with_reducible assumption | with_reducible exact Below.drew bw)) (first | (go_at_call 105; go_split_ands; refine (SPC.out _ (by with_reducible assumption)).mono ?_; rintro e wt ⟨rfl, TT⟩; have TB : Below W.heap.size W wt := (by with_reducible exact thenB (by assumption) TT)) | (go_at_call 106; go_split_ands; refine (HRC.out _ (by with_reducible assumption)).mono ?_; rintro e wu ⟨rfl, TU⟩; have TB2 : Below W.heap.size W wu := (by with_reducible exact thenB (by assumption) TU)) | (go_at_call 99; go_split_ands; refine (SZC.out _ (by with_reducible assumption)).mono ?_; rintro e wv ⟨rfl, TV⟩; have TB3 : Below W.heap.size W wv := (by with_reducible exact thenB (by assumption) TV)) | fail)
            all_goals go_wp2_with fail
            all_goals go_ret
            all_goals exact ⟨by first | rfl | (simp <;> omega), by first | exact thenB HB1.out TB3 | exact thenB HB1.out TB2 | exact thenB HB1.out TB⟩

end Go.Proofs.YtipajekehbpghaaGreatDoor
