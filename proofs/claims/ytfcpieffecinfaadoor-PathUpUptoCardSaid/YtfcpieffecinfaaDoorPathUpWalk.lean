/-
  The walk of PathUp.
-/
import Derived.Test.YtfcpieffecinfaaDoorPathH
namespace Go.Proofs.YtfcpieffecinfaaDoor
open Go.RowKit

/-- path.Parts, of which the length alone is asked, from a first world on. -/
theorem count_of {w : World} (hm : ML w) (s : ByteArray) (hs : s.size ≤ 4000000) (n : Nat) (hn : (Pth.parts s.data.toList).length = n) :
    ∀ w', Below w.heap.size w w' → Calls Tryd.prog 14 #[.string s] w' fun e w'' => ∃ A cap, e = .returned (.slice A n cap) ∧ Below w.heap.size w w'' :=
  fun w' hb => (parts_any s w' hs (hm.below hb)).mono fun e w'' ⟨v, he, ⟨A, cap, hv, _⟩, h2⟩ => ⟨A, cap, by rw [he, hv, hn], thenB hb h2⟩

set_option maxRecDepth 100000 in
set_option maxHeartbeats 2000000 in
theorem pathUp_walk (a : ByteArray) (sa : a.size ≤ 1048576) (w : World) (hm : ML w) :
    Calls Tryd.prog 4 #[.string a] w fun e w' => e = .returned (.bool true) ∧ Below w.heap.size w w' := by
  have HW := Lib.hid (wayed_any w hm)
  have hr := at_of (w := w) fun w' hb => right_any a w' (by omega) (hm.below hb)
  cases hv : Pth.right a.data.toList
  · rw [hv] at hr
    have HR := Lib.hid hr
    clear hm hr hv
    go_enter Tryd.func4, Tryd.ntmps4
    go_wp2_with fail
    refine HW.out.mono ?_
    rintro e w1 ⟨rfl, h⟩
    have B := Lib.hid h
    clear h
    go_wp2_with fail
    refine (HR.out _ B.out).mono ?_
    rintro e w2 ⟨rfl, h⟩
    have B2 := Lib.hid h
    clear h
    go_wp2_with fail
    go_ret
    exact ⟨rfl, B2.out⟩
  · rw [hv] at hr
    obtain ⟨A, hA, hA0, ha, hpa, hl, hn, hz⟩ := Pth.right_of hv
    have hab : a = bs (Pth.join A) := by rw [← ha, bs_of]
    have hsz : a.size ≤ 120 := by rw [← list_size]; exact hl
    rw [ha] at hl hz
    have hup := at_of (w := w) fun w' _ => up_join hA hA0 (by omega) w'
    rw [← hab] at hup
    obtain ⟨D, hD⟩ : ∃ D, D = bs (Pth.join A.dropLast) := ⟨_, rfl⟩
    obtain ⟨L, hL⟩ : ∃ L, L = bs (A.getLast hA0) := ⟨_, rfl⟩
    rw [← hD, ← hL] at hup
    have hDl : D.data.toList = Pth.join A.dropLast := by rw [hD, bs_list]
    have hwhole := Pth.up_whole hA hA0
    have hDs : D.size ≤ 120 ∧ D.size + L.size ≤ 1000 := by
      have hj := Pth.join_last hA0
      have hls : L.size = (A.getLast hA0).length := by rw [hL, bs_size]
      have hds : D.size = (Pth.join A.dropLast).length := by rw [hD, bs_size]
      by_cases h : A.dropLast = []
      · rw [if_pos h] at hj; have h00 : D.size = 0 := by { rw [hds, h]; rfl }
        rw [hj] at hl; omega
      · rw [if_neg h] at hj; rw [hj] at hl; simp at hl; omega
    obtain ⟨hDs1, hDs2⟩ := hDs
    have hin := at_of (w := w) fun w' _ => in_any a D w' (by omega) (by omega)
    have ein : Pth.inn a.data.toList D.data.toList = true := by rw [ha, hDl]; exact Pth.up_in hA0
    rw [ein] at hin
    have hpD : (Pth.parts D.data.toList).length = A.length - 1 := by rw [hDl, Pth.parts_join (Pth.drop_cl hA).ok, List.length_dropLast]
    have c1 := count_of hm D (by omega) _ hpD
    have c2 := count_of hm a (by omega) A.length (by rw [hpa])
    obtain ⟨k, hk⟩ : ∃ k, A.length = k + 1 := ⟨A.length - 1, by have := List.length_pos_iff.2 hA0; omega⟩
    rw [hk] at c1 c2
    have hrD := at_of (w := w) fun w' hb => right_any D w' (by omega) (hm.below hb)
    have hways : (D.toList = [] ∧ (L.toList == a.toList) = true) ∨ (¬ D.toList = [] ∧ D.toList.isEmpty = false ∧ ((D ++ ⟨#[47]⟩ ++ L).toList == a.toList) = true ∧ Pth.right D.data.toList = true) := by
      by_cases h : Pth.join A.dropLast = []
      · rw [if_pos h] at hwhole
        refine .inl ⟨by rw [str_list, hDl, h], ?_⟩
        rw [str_list, str_list, hL, bs_list, ha, hwhole]; simp
      · rw [if_neg h] at hwhole
        have h1 : ¬ D.toList = [] := by rw [str_list, hDl]; exact h
        refine .inr ⟨h1, by simpa using h1, ?_, ?_⟩
        · rw [str_list, str_list, cat_list, cat_list, hDl, hL, bs_list, ha, ← hwhole]; simp
        · rw [hDl]
          refine Pth.up_right hA (fun e => h (by rw [e]; rfl)) hl (by omega) hz
    have H1 := Lib.hid hr
    have H2 := Lib.hid hup
    have H3 := Lib.hid hin
    have C1 := Lib.hid c1
    have C2 := Lib.hid c2
    have H4 := Lib.hid hrD
    have hk9 : k ≤ 1000 := by omega
    clear hm hr hv ha hpa hab hup hD hL hDl hwhole hin ein hpD c1 c2 hrD hk hl hz
    rcases hways with ⟨k1, k2⟩ | ⟨k1, k2, k3, k4⟩
    · have k0 : D.toList.isEmpty = true := by rw [k1]; rfl
      go_enter Tryd.func4, Tryd.ntmps4
      go_wp2_with fail
      refine HW.out.mono ?_
      rintro e w1 ⟨rfl, h⟩
      have B := Lib.hid h
      clear h
      go_wp2_with fail
      refine (H1.out _ B.out).mono ?_
      rintro e w2 ⟨rfl, h⟩
      have B2 := Lib.hid h
      clear h
      go_wp2_with fail
      refine (H2.out _ B2.out).mono ?_
      rintro e w3 ⟨rfl, h⟩
      have B3 := Lib.hid h
      clear h
      go_wp2_with fail
      refine (H3.out _ B3.out).mono ?_
      rintro e w4 ⟨rfl, h⟩
      have B4 := Lib.hid h
      clear h
      go_wp2_with fail
      refine (C1.out _ B4.out).mono ?_
      rintro e w5 ⟨A1, cap1, rfl, h⟩
      have B5 := Lib.hid h
      clear h
      go_wp2_with fail
      refine (C2.out _ B5.out).mono ?_
      rintro e w6 ⟨A2, cap2, rfl, h⟩
      have B6 := Lib.hid h
      clear h
      go_wp2_with fail
      go_ret
      exact ⟨by simp, B6.out⟩
    · rw [k4] at H4
      go_enter Tryd.func4, Tryd.ntmps4
      go_wp2_with fail
      refine HW.out.mono ?_
      rintro e w1 ⟨rfl, h⟩
      have B := Lib.hid h
      clear h
      go_wp2_with fail
      refine (H1.out _ B.out).mono ?_
      rintro e w2 ⟨rfl, h⟩
      have B2 := Lib.hid h
      clear h
      go_wp2_with fail
      refine (H2.out _ B2.out).mono ?_
      rintro e w3 ⟨rfl, h⟩
      have B3 := Lib.hid h
      clear h
      go_wp2_with fail
      refine (H3.out _ B3.out).mono ?_
      rintro e w4 ⟨rfl, h⟩
      have B4 := Lib.hid h
      clear h
      go_wp2_with fail
      refine (C1.out _ B4.out).mono ?_
      rintro e w5 ⟨A1, cap1, rfl, h⟩
      have B5 := Lib.hid h
      clear h
      go_wp2_with fail
      refine (C2.out _ B5.out).mono ?_
      rintro e w6 ⟨A2, cap2, rfl, h⟩
      have B6 := Lib.hid h
      clear h
      go_wp2_with fail
      refine (H4.out _ B6.out).mono ?_
      rintro e w7 ⟨rfl, h⟩
      have B7 := Lib.hid h
      clear h
      go_wp2_with fail
      go_ret
      exact ⟨by simp, B7.out⟩

end Go.Proofs.YtfcpieffecinfaaDoor
