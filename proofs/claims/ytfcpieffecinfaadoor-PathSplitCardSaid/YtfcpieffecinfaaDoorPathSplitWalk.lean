/-
  The walk of PathSplit.
-/
import Derived.Test.YtfcpieffecinfaaDoorPathS
namespace Go.Proofs.YtfcpieffecinfaaDoor
open Go.RowKit

set_option maxRecDepth 100000 in
set_option maxHeartbeats 2000000 in
theorem pathSplit_walk (s : ByteArray) (_ss : s.size ≤ 140737488351232) (w : World) (hm : ML w) :
    Calls Tryd.prog 7 #[.string s] w fun e w' => e = .returned (.bool true) ∧ Below w.heap.size w w' := by
  have HW := Lib.hid (wayed_any w hm)
  clear hm
  by_cases hbig : 400 < s.size
  · have hb' : (400 : Int) < (s.size : Int) := by omega
    clear hbig
    go_enter Tryd.func7, Tryd.ntmps7
    go_wp2_with fail
    refine HW.out.mono ?_
    rintro e w1 ⟨rfl, h⟩
    have B := Lib.hid h
    clear h
    go_wp2_with fail
    go_ret
    exact ⟨rfl, B.out⟩
  have hb' : ¬ (400 : Int) < (s.size : Int) := by omega
  by_cases hs : s.size ≤ 100
  · have hs1 : (s.size : Int) ≤ 100 := by omega
    have hs2 : ¬ (100 : Int) < s.size := by omega
    have hp := fun w => split_short s w hs
    have HP := Lib.hid hp
    clear hp hs hbig
    go_enter Tryd.func7, Tryd.ntmps7
    go_wp2_with fail
    refine HW.out.mono ?_
    rintro e w1 ⟨rfl, h⟩
    have B := Lib.hid h
    clear h
    go_wp2_with fail
    refine (HP.out _).mono ?_
    rintro e w2 ⟨rfl, rfl⟩
    go_wp2_with fail
    go_ret
    exact ⟨by simp [hs1], B.out⟩
  · have hs1 : ¬ (s.size : Int) ≤ 100 := by omega
    have hs2 : (100 : Int) < s.size := by omega
    have hp := fun w => split_long s w (by omega) (by omega)
    have HP := Lib.hid hp
    clear hp hs hbig
    go_enter Tryd.func7, Tryd.ntmps7
    go_wp2_with fail
    refine HW.out.mono ?_
    rintro e w1 ⟨rfl, h⟩
    have B := Lib.hid h
    clear h
    go_wp2_with fail
    refine (HP.out _).mono ?_
    rintro e w2 ⟨hb2, rfl | ⟨x, y, rfl, hxy, l1, l2, l3, l4⟩⟩
    · have B2 := Lib.hid (thenB B.out hb2)
      clear hb2
      go_wp2_with fail
      go_ret
      exact ⟨by simp [hs2], B2.out⟩
    · have B2 := Lib.hid (thenB B.out hb2)
      have e1 : bs x ++ ⟨#[47]⟩ ++ bs y = s := ba_ext (by rw [cat_list, cat_list, bs_list, bs_list, hxy]; simp)
      obtain ⟨X, hX⟩ : ∃ X, X = bs x := ⟨_, rfl⟩
      obtain ⟨Y, hY⟩ : ∃ Y, Y = bs y := ⟨_, rfl⟩
      have hxs : X.size = x.length := by rw [hX, bs_size]
      have hys : Y.size = y.length := by rw [hY, bs_size]
      have k1 : ¬ X.toList = [] := by rw [str_list, hX, bs_list]; intro e; rw [e] at l1; simp at l1
      have k2 : X.toList.isEmpty = false := by simpa using k1
      have k3 : ¬ Y.toList = [] := by rw [str_list, hY, bs_list]; intro e; rw [e] at l3; simp at l3
      have k4 : Y.toList.isEmpty = false := by simpa using k3
      have k5 : (X.size : Int) ≤ 155 := by omega
      have k6 : (Y.size : Int) ≤ 100 := by omega
      have k8 : X.size ≤ 155 := by omega
      have k9 : Y.size ≤ 100 := by omega
      have e2 : ((X ++ ⟨#[47]⟩ ++ Y).toList == s.toList) = true := by rw [hX, hY, e1]; simp
      rw [← hX, ← hY]
      clear hb2 e1 hX hY hxs hys hxy l1 l2 l3 l4
      go_wp2_with fail
      go_ret
      exact ⟨by simp_all, B2.out⟩

end Go.Proofs.YtfcpieffecinfaaDoor
