/-
  The walk of BlockFills.
-/
import Derived.Test.YtighfpcnmgplcaaDoorBkC
import Derived.Deep.RegionHeld3
namespace Go.Proofs.YtighfpcnmgplcaaDoor
open Go.RowKit

theorem dropZero (k : Nat) : (List.replicate k (0 : UInt8)).dropWhile (· == (0 : UInt8)) = [] := by
  induction k with
  | zero => rfl
  | succ k ih => rw [List.replicate_succ, List.dropWhile_cons_of_pos (by decide), ih]
theorem trim_zero (A : ByteArray) (k : Nat) (hA : A.data.toList = List.replicate k 0) (hk : k ≤ 100000) (w : World) :
    Calls Tryd.prog 17 #[.string A, .string ⟨#[0]⟩] w fun e w' => e = .returned (.string ⟨#[]⟩) ∧ Below w.heap.size w w' := by
  have hs := size_rep hA
  have h := Tryd.strings_Trim_one A 0 (by decide) w (by omega)
  have e : Lib.trimB A.data.toList 0 = [] := by
    unfold Lib.trimB Lib.trimRightB Lib.trimLeftB
    rw [hA, List.reverse_replicate, dropZero]
    rfl
  rw [e] at h
  refine h.mono fun _ w' ⟨he, hw⟩ => ⟨he, ?_⟩
  rcases hw with rfl | rfl
  · exact Below.refl _ _
  · exact (Below.refl _ _).drew

set_option maxRecDepth 100000 in
set_option maxHeartbeats 2000000 in
theorem blockFills_walk (s : ByteArray) (hs : s.size ≤ 140737488351232) (w : World) :
    Calls Tryd.prog 7 #[.string s] w fun e w' => e = .returned (.bool true) ∧ Below w.heap.size w w' := by
  by_cases hbig : 2000 < s.size
  · have hb' : (2000 : Int) < s.size := by omega
    clear hbig
    go_enter Tryd.func7, Tryd.ntmps7
    go_wp2_with fail
    refine (blocked_any _).mono ?_
    rintro e w1 ⟨rfl, h1⟩
    have B1 := Lib.hid h1
    clear h1
    go_wp2_with fail
    go_ret
    exact ⟨rfl, B1.out⟩
  · have hb' : ¬ (2000 : Int) < s.size := by omega
    have hp := Bk.pad_lt s.size
    have hps := Bk.pad_sum s.size
    have rF := fun w => fill_any s (by omega) w
    obtain ⟨T, hT⟩ : ∃ T, T = fillB s := ⟨_, rfl⟩
    have hTs : T.size = s.size + Bk.pad s.size := by rw [hT]; exact fillB_size s
    have hTT : fillB T = T := ba_ext (by rw [fillB_list, hT, fillB_list, Bk.fill_fill])
    have rT := fun w => fill_any T (by omega) w
    rw [hTT] at rT
    have hTl : T.data.toList = s.data.toList ++ List.replicate (Bk.pad s.size) 0 := by rw [hT, fillB_list]; unfold Bk.fill; rw [list_size]
    rw [← hT] at rF
    have hx : (T.extract s.size T.size).data.toList = List.replicate (Bk.pad s.size) 0 := by
      rw [ext_end, hTl, List.drop_append_of_le_length (by rw [list_size]; exact Nat.le_refl _), List.drop_of_length_le (by rw [list_size]; exact Nat.le_refl _)]
      rfl
    have rX := fun w => trim_zero _ _ hx (by omega) w
    have rP := fun w => pad_any s.size (by omega) w
    have rH := fun w => Tryd.strings_HasPrefix T s w
    have hpre : Lib.hasPrefix T.data.toList s.data.toList = true := by
      unfold Lib.hasPrefix
      rw [hTl, List.isPrefixOf_iff_prefix]
      exact List.prefix_append _ _
    rw [hpre] at rH
    obtain ⟨p, hpp⟩ : ∃ p, p = Bk.pad s.size := ⟨_, rfl⟩
    rw [← hpp] at rP hTs hp hps
    have e1 : ((T.size : Int) % 512 == 0) = true := by simp; omega
    have e2 : ((T.size : Int) == (s.size : Int) + (p : Int)) = true := by simp; omega
    have e3 : (T.size : Int) - (s.size : Int) < 512 := by omega
    have e4 : (s.size : Int) ≤ T.size := by omega
    have e5 : (T.size : Int) ≤ 4000 := by omega
    have e6 : (p : Int) < 512 := by omega
    have RF := Lib.hid rF
    have RT := Lib.hid rT
    have RX := Lib.hid rX
    have RP := Lib.hid rP
    have RH := Lib.hid rH
    clear rF rT rX rP rH hTT hTl hx hpre hT hTs hps hp hpp hbig
    go_enter Tryd.func7, Tryd.ntmps7
    go_wp2_with fail
    refine (blocked_any _).mono ?_
    rintro e w1 ⟨rfl, h1⟩
    have B1 := Lib.hid h1
    clear h1
    go_wp2_with fail
    refine (RF.out _).mono ?_
    rintro e w2 ⟨rfl, h2⟩
    have B2 := Lib.hid (thenB B1.out h2)
    clear h2 B1
    go_wp2_with fail
    refine (RP.out _).mono ?_
    rintro e w3 ⟨rfl, rfl⟩
    go_wp2_with fail
    refine (RH.out _).mono ?_
    rintro e w4 ⟨rfl, rfl⟩
    go_wp2_with fail
    refine (RX.out _).mono ?_
    rintro e w5 ⟨rfl, h5⟩
    have B5 := Lib.hid (thenB B2.out h5)
    clear h5 B2
    go_wp2_with fail
    refine (RT.out _).mono ?_
    rintro e w6 ⟨rfl, h6⟩
    have B6 := Lib.hid (thenB B5.out h6)
    clear h6 B5
    go_wp2_with fail
    go_ret
    exact ⟨by simp, B6.out⟩

end Go.Proofs.YtighfpcnmgplcaaDoor
