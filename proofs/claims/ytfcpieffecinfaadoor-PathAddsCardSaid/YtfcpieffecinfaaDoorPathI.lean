/-
  slices.Concat of two rows of texts.
-/
import Derived.Test.YtfcpieffecinfaaDoorPathH
import Derived.Test.YtfcpieffecinfaaDoorGrow
import Derived.Shelf.Spec.SlicesGrow
namespace Go.Proofs.YtfcpieffecinfaaDoor
open Go.RowKit

theorem grow_any (n : Nat) (hn : n ≤ 1000000) (w : World) :
    Calls Tryd.prog 32 #[.slice none 0 0, .int .i64 n] w fun e w' => ∃ v, e = .returned v ∧ w'.ownsRow w.heap.size 9 1 v 0 [] ∧ Below w.heap.size w w' := by
  by_cases h0 : n = 0
  · subst h0
    exact (Any8.slices_Grow_room Tryd.lays_grow none 0 0 0 w (Nat.le_refl _) (by omega) (by omega) (by omega)).mono fun e w' ⟨he, hw⟩ => ⟨_, he, World.ownsRow_nil _ _ _ _, hw ▸ Below.refl _ _⟩
  · obtain ⟨i0, i1, i2, i3, i4⟩ := info_parts infoS
    refine (Any8.slices_Grow_grow Tryd.lays_grow i0 _ i1 i2 (by rw [i3]; omega) none 0 0 n [] w (by omega) (by omega) (by rw [i4]; omega) (by omega) (by rw [i3]; rfl) (fun _ => rfl) (fun a h => by cases h)).mono fun e w' ⟨he, hw⟩ => ⟨_, he, ?_, ?_⟩
    · rw [hw]
      have ht : Tryd.lays_grow_ren.t 25 = 9 := rfl
      rw [ht]
      have hge := grownCap_ge w (0 + n) 0 9
      have hle := grownCap_le_maxLen w (0 + n) 0 9 (by unfold maxLen; omega)
      have hz : (Value.string ByteArray.empty).cells.size = 1 := rfl
      refine ⟨rfl, .inr ⟨w.heap.size, _, _, rfl, Nat.le_refl _, heap_alloc_new _ _, Nat.zero_le _, hle, ?_, by simp⟩⟩
      rw [Array.size_append, Array.size_append, size_zeroCells, size_zeroCells, hz]
      simp only [List.size_toArray, List.length_nil]
      omega
    · rw [hw]; exact (Below.refl _ _).drew.alloc (by simp) _

theorem cells_row {W : World} {b off : Nat} {P : List Pth.Bs} (h : RowS W b off P) : ∀ j u, (cellsS P)[j]? = some u → W.cell? ((⟨b, off, none⟩ : Addr).add j) = some u := fun j u hu => by
  have hplain : (⟨b, off, none⟩ : Addr).add j = ⟨b, off + j, none⟩ := by unfold Addr.add; split <;> simp_all
  rw [hplain]
  unfold cellsS at hu
  rw [List.getElem?_map] at hu
  by_cases hj : j < P.length
  · rw [List.getElem?_eq_getElem hj] at hu; cases hu; exact h j hj
  · rw [List.getElem?_eq_none (by omega)] at hu; cases hu
theorem cellsS_one (P : List Pth.Bs) : ∀ u ∈ cellsS P, u.oneCell' = true := fun u hu => by
  obtain ⟨p, _, rfl⟩ := List.mem_map.1 hu; rfl
theorem cellsS_app (P Q : List Pth.Bs) : cellsS (P ++ Q) = cellsS P ++ cellsS Q := List.map_append

set_option maxRecDepth 100000 in
set_option maxHeartbeats 2000000 in
theorem concat_any (P Q : List Pth.Bs) (g b1 off1 c1 b2 off2 c2 : Nat) (w : World) (h1 : P.length ≤ 100000) (h2 : Q.length ≤ 100000)
    (hg1 : w.cell? ⟨g, 0, none⟩ = some (.slice (some ⟨b1, off1, none⟩) P.length c1)) (hg2 : w.cell? ⟨g, 1, none⟩ = some (.slice (some ⟨b2, off2, none⟩) Q.length c2))
    (hb1 : b1 < w.heap.size) (hb2 : b2 < w.heap.size) (r1 : RowS w b1 off1 P) (r2 : RowS w b2 off2 Q) :
    Calls Tryd.prog 21 #[.slice (some ⟨g, 0, none⟩) 2 2] w fun e w' => ∃ v, e = .returned v ∧ HasS w' w.heap.size v (P ++ Q) ∧ Below w.heap.size w w' := by
  obtain ⟨i0, i1, i2, i3, i4⟩ := info_parts infoS
  have hgl : g < w.heap.size := World.block_lt_of_cell? w ⟨g, 0, none⟩ hg1
  have R1 := Lib.hid r1
  have R2 := Lib.hid r2
  have hgr := fun w => grow_any (P.length + Q.length) (by omega) w
  have GR := Lib.hid hgr
  clear r1 r2 hgr
  have h00 : ¬ ((P.length : Int) < 0) := by omega
  have h01 : ¬ ((P.length : Int) + Q.length < 0) := by omega
  go_enter Tryd.func21, Tryd.ntmps21
  go_wp2_with fail
  refine wp_loop_rounds 3 ?_
  rw [rounds_succ]
  go_wp2_with fail
  rw [rounds_succ]
  go_wp2_with fail
  rw [rounds_succ]
  go_wp2_with fail
  have hgr := GR.out w
  rw [Int.natCast_add] at hgr
  refine hgr.mono ?_
  rintro e w1 ⟨v, rfl, hown, hb⟩
  have O1 := Lib.hid hown
  have B1 := Lib.hid hb
  have k1 := (hb.cell (p := ⟨g, 0, none⟩) hgl).trans hg1
  have k2 := (hb.cell (p := ⟨g, 1, none⟩) hgl).trans hg2
  have S1 := Lib.hid (R1.out.below hb hb1)
  have S2 := Lib.hid (R2.out.below hb hb2)
  clear hgr hown hb hg1 hg2
  go_wp2_with fail
  refine wp_loop_rounds 3 ?_
  rw [rounds_succ]
  go_wp2_with (first
    | (at_builtin; refine wpList_append_own _ rfl (.tmp 31) (.tmp 32) 28 rfl w.heap.size 9 i0 _ 1 16 Tryd.underlying28 i1 i2 i3 i4 rfl (by decide) v 0 [] rfl O1.out ⟨b1, off1, none⟩ P.length c1 (cellsS P) rfl (by simp [cellsS]) (cells_row S1.out) (cellsS_one P) (by unfold maxLen; omega) (by omega) (by have := B1.out.size; omega) ?_; intro v2 w2 hown2 hgrow2 _))
  have O2 := Lib.hid hown2
  have B2 := Lib.hid (B1.out.grown hgrow2 B1.out.size (fun q hq => (World.ownsRow.lt O1.out q hq).1))
  have S22 := R2.out.below B2.out hb2
  have k3 := (B2.out.cell (p := ⟨g, 0, none⟩) hgl).trans ((B1.out.cell (p := ⟨g, 0, none⟩) hgl).symm.trans k1)
  have k4 := (B2.out.cell (p := ⟨g, 1, none⟩) hgl).trans ((B1.out.cell (p := ⟨g, 1, none⟩) hgl).symm.trans k2)
  have S3 := Lib.hid S22
  clear hown2 hgrow2 S22 k1 k2
  rw [rounds_succ]
  go_wp2_with (first
    | (at_builtin; refine wpList_append_own _ rfl (.tmp 31) (.tmp 32) 28 rfl w.heap.size 9 i0 _ 1 16 Tryd.underlying28 i1 i2 i3 i4 rfl (by decide) v2 (0 + P.length) ([] ++ cellsS P) rfl O2.out ⟨b2, off2, none⟩ Q.length c2 (cellsS Q) rfl (by simp [cellsS]) (cells_row S3.out) (cellsS_one Q) (by unfold maxLen; omega) (by omega) (by have := B2.out.size; omega) ?_; intro v3 w3 hown3 hgrow3 _))
  have B3 := Lib.hid (B2.out.grown hgrow3 B2.out.size (fun q hq => (World.ownsRow.lt O2.out q hq).1))
  have hown4 : w3.ownsRow w.heap.size 9 1 v3 (P ++ Q).length (cellsS (P ++ Q)) := by
    rw [List.nil_append, ← cellsS_app, Nat.zero_add] at hown3
    rw [List.length_append]; exact hown3
  have O4 := Lib.hid (owns_has hown4)
  clear hown3 hgrow3 hown4
  rw [rounds_succ]
  go_wp2_with fail
  go_ret
  exact ⟨v3, rfl, O4.out, B3.out⟩

end Go.Proofs.YtfcpieffecinfaaDoor
