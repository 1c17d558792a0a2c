/-
  The walk of PathAdds.
-/
import Derived.Test.YtfcpieffecinfaaDoorPathI
namespace Go.Proofs.YtfcpieffecinfaaDoor
open Go.RowKit

set_option maxRecDepth 100000 in
set_option maxHeartbeats 2000000 in
theorem pathAdds_main (a b : ByteArray) (hs : a.size + b.size ≤ 400) (w : World) (hm : ML w) :
    Calls Tryd.prog 8 #[.string a, .string b] w fun e w' => e = .returned (.bool true) ∧ Below w.heap.size w w' := by
  have HW := Lib.hid (wayed_any w hm)
  obtain ⟨X, hX⟩ : ∃ X : ByteArray, X = a ++ (⟨#[47]⟩ : ByteArray) ++ b := ⟨_, rfl⟩
  have s1 : (⟨#[47]⟩ : ByteArray).size = 1 := rfl
  have hXs : X.size ≤ 1000 := by rw [hX, ByteArray.size_append, ByteArray.size_append]; omega
  have hXl : X.data.toList = a.data.toList ++ 47 :: b.data.toList := by rw [hX, cat_list, cat_list]; simp
  have p1 := fun w' (h : Below w.heap.size w w') => parts_any X w' (by omega) (hm.below h)
  have p2 := fun w' (h : Below w.heap.size w w') => parts_row a w' (by omega) (hm.below h)
  have p3 := fun w' (h : Below w.heap.size w w') => parts_row b w' (by omega) (hm.below h)
  have la := Pth.parts_len a.data.toList
  have lb := Pth.parts_len b.data.toList
  rw [list_size] at la lb
  rw [hXl, Pth.parts_app, hX] at p1
  obtain ⟨P, hP⟩ : ∃ P, P = Pth.parts a.data.toList := ⟨_, rfl⟩
  obtain ⟨Q, hQ⟩ : ∃ Q, Q = Pth.parts b.data.toList := ⟨_, rfl⟩
  rw [← hP] at p1 p2 la
  rw [← hQ] at p1 p3 lb
  have l1 : P.length ≤ 1000 := by omega
  have l2 : Q.length ≤ 1000 := by omega
  have ss : ¬ (400 : Int) < (a.size : Int) + b.size := by omega
  have P1 := Lib.hid p1
  have P2 := Lib.hid p2
  have P3 := Lib.hid p3
  have hsa : a.size ≤ 400 := by omega
  have hsb : b.size ≤ 400 := by omega
  clear hX s1 hXs hXl p1 p2 p3 la lb hP hQ hs hm
  go_enter Tryd.func8, Tryd.ntmps8
  go_wp2_with fail
  refine HW.out.mono ?_
  rintro e w1 ⟨rfl, h⟩
  have B1 := Lib.hid h
  clear h
  go_wp2_with fail
  refine (P1.out _ B1.out).mono ?_
  rintro e w2 ⟨v, rfl, hv, h⟩
  have V := Lib.hid hv
  have B2 := Lib.hid (thenB B1.out h)
  clear hv h
  go_wp2_with fail
  refine (P2.out _ B2.out).mono ?_
  rintro e w3 ⟨b1, c1, rfl, g0, g1, g2, hr, h⟩
  have R1 := Lib.hid hr
  have V3 := Lib.hid (V.out.below h)
  have B3 := Lib.hid (thenB B2.out h)
  clear hr h
  go_wp2_with fail
  refine (P3.out _ B3.out).mono ?_
  rintro e w4 ⟨b2, c2, rfl, g3, g4, g5, hr, h⟩
  have R2 := Lib.hid hr
  have R1' := Lib.hid (R1.out.below h g2)
  have V4 := Lib.hid (V3.out.below h)
  have B4 := Lib.hid (thenB B3.out h)
  have hb1 : b1 < w4.heap.size := Nat.lt_of_lt_of_le g2 h.size
  clear hr h
  go_wp2_with fail
  have hw5 : Below w4.heap.size w4 (w4.alloc (.cells #[.slice (some ⟨b1, 0, none⟩) P.length c1, .slice (some ⟨b2, 0, none⟩) Q.length c2] 28)) := (Below.refl _ _).alloc (Nat.le_refl _) _
  have hn := Blk.new w4 28 #[.slice (some ⟨b1, 0, none⟩) P.length c1, .slice (some ⟨b2, 0, none⟩) Q.length c2]
  have hcat := concat_any P Q w4.heap.size b1 0 c1 b2 0 c2 _ (by omega) (by omega) (hn.cell 0) (hn.cell 1) (Nat.lt_of_lt_of_le hb1 hw5.size) (Nat.lt_of_lt_of_le g5 hw5.size) (R1'.out.below hw5 hb1) (R2.out.below hw5 g5)
  have B5 := Lib.hid (thenB B4.out hw5)
  have V5 := Lib.hid (V4.out.below hw5)
  clear hw5 hn
  refine hcat.mono ?_
  rintro e w6 ⟨u, rfl, hu, h⟩
  have U6 := Lib.hid hu
  have V6 := Lib.hid (V5.out.below h)
  have B6 := Lib.hid (thenB B5.out h)
  clear hu h hcat
  go_wp2_with fail
  refine (eq_any V6.out U6.out (by simp; omega) (by simp; omega)).mono ?_
  rintro e w7 ⟨rfl, h⟩
  have B7 := Lib.hid (thenB B6.out h)
  clear h
  go_wp2_with fail
  go_ret
  exact ⟨by simp, B7.out⟩

theorem pathAdds_walk (a : ByteArray) (_sa : a.size ≤ 140737488351232) (b : ByteArray) (_sb : b.size ≤ 140737488351232) (w : World) (hm : ML w) :
    Calls Tryd.prog 8 #[.string a, .string b] w fun e w' => e = .returned (.bool true) ∧ Below w.heap.size w w' := by
  by_cases hs : a.size + b.size ≤ 400
  · exact pathAdds_main a b hs w hm
  · have HW := Lib.hid (wayed_any w hm)
    have ss : (400 : Int) < (a.size : Int) + b.size := by omega
    clear hm hs
    go_enter Tryd.func8, Tryd.ntmps8
    go_wp2_with fail
    refine HW.out.mono ?_
    rintro e w1 ⟨rfl, h⟩
    have B := Lib.hid h
    clear h
    go_wp2_with fail
    go_ret
    exact ⟨rfl, B.out⟩

end Go.Proofs.YtfcpieffecinfaaDoor
