/-
  The walk of PathAway.
-/
import Derived.Test.YtfcpieffecinfaaDoorPathH
namespace Go.Proofs.YtfcpieffecinfaaDoor
open Go.RowKit

set_option maxRecDepth 100000 in
set_option maxHeartbeats 2000000 in
theorem pathAway_walk (a : ByteArray) (sa : a.size ≤ 1048576) (b : ByteArray) (sb : b.size ≤ 1048576) (w : World) (hm : ML w) :
    Calls Tryd.prog 5 #[.string a, .string b] w fun e w' => e = .returned (.bool true) ∧ Below w.heap.size w w' := by
  have HW := Lib.hid (wayed_any w hm)
  have hr := at_of (w := w) fun w' hb => right_any a w' (by omega) (hm.below hb)
  have hr2 := at_of (w := w) fun w' hb => right_any b w' (by omega) (hm.below hb)
  cases hv : Pth.right a.data.toList
  · rw [hv] at hr
    have HR := Lib.hid hr
    clear hm hr hr2 hv
    go_enter Tryd.func5, Tryd.ntmps5
    go_wp2_with fail
    refine HW.out.mono ?_
    rintro e w1 ⟨rfl, h⟩
    have B := Lib.hid h
    clear h
    go_wp2_with fail
    refine (HR.out _ B.out).mono ?_
    rintro e w2 ⟨rfl, h⟩
    have B2 := Lib.hid h
    clear h
    go_wp2_with fail
    go_ret
    exact ⟨rfl, B2.out⟩
  cases hv2 : Pth.right b.data.toList
  · rw [hv] at hr
    rw [hv2] at hr2
    have HR := Lib.hid hr
    have HR2 := Lib.hid hr2
    clear hm hr hr2 hv hv2
    go_enter Tryd.func5, Tryd.ntmps5
    go_wp2_with fail
    refine HW.out.mono ?_
    rintro e w1 ⟨rfl, h⟩
    have B := Lib.hid h
    clear h
    go_wp2_with fail
    refine (HR.out _ B.out).mono ?_
    rintro e w2 ⟨rfl, h⟩
    have B2 := Lib.hid h
    clear h
    go_wp2_with fail
    refine (HR2.out _ B2.out).mono ?_
    rintro e w3 ⟨rfl, h⟩
    have B3 := Lib.hid h
    clear h
    go_wp2_with fail
    go_ret
    exact ⟨rfl, B3.out⟩
  rw [hv] at hr
  rw [hv2] at hr2
  obtain ⟨A, hA, hA0, ha, hpa, hl, hn, hz⟩ := Pth.right_of hv
  obtain ⟨C, hC, hC0, hb, hpb, hl2, hn2, hz2⟩ := Pth.right_of hv2
  have hab : a = bs (Pth.join A) := by rw [← ha, bs_of]
  have hbb : b = bs (Pth.join C) := by rw [← hb, bs_of]
  have hsz : a.size ≤ 120 := by rw [← list_size]; exact hl
  have hsz2 : b.size ≤ 120 := by rw [← list_size]; exact hl2
  rw [ha] at hl
  rw [hb] at hl2
  have haw := at_of (w := w) fun w' hb' => away_any a b w' (hm.below hb') (by omega) (by omega)
  have h1 := at_of (w := w) fun w' hb' => to_away hA hC hA0 hC0 (by omega) (by omega) w' (hm.below hb')
  have h2 := at_of (w := w) fun w' hb' => to_root hC (by omega) a w' (hm.below hb')
  rw [← hab, ← hbb, ← ha, ← hb] at h1
  rw [← hbb] at h2
  have e47 : bs (47 :: Pth.join C) = ⟨#[47]⟩ ++ b := ba_ext (by rw [cat_list, bs_list, hb]; rfl)
  rw [e47] at h2
  obtain ⟨T, hT⟩ : ∃ T, T = bs (Pth.away a.data.toList b.data.toList) := ⟨_, rfl⟩
  rw [← hT] at haw h1
  have HR := Lib.hid hr
  have HR2 := Lib.hid hr2
  have H3 := Lib.hid haw
  have H4 := Lib.hid h1
  have H5 := Lib.hid h2
  clear hm hr hr2 hv hv2 ha hb hpa hpb hl hl2 hz hz2 hn hn2 hab hbb haw h1 h2 e47 hT
  go_enter Tryd.func5, Tryd.ntmps5
  go_wp2_with fail
  refine HW.out.mono ?_
  rintro e w1 ⟨rfl, h⟩
  have B := Lib.hid h
  clear h
  go_wp2_with fail
  refine (HR.out _ B.out).mono ?_
  rintro e w2 ⟨rfl, h⟩
  have B2 := Lib.hid h
  clear h
  go_wp2_with fail
  refine (HR2.out _ B2.out).mono ?_
  rintro e w3 ⟨rfl, h⟩
  have B3 := Lib.hid h
  clear h
  go_wp2_with fail
  refine (H3.out _ B3.out).mono ?_
  rintro e w4 ⟨rfl, h⟩
  have B4 := Lib.hid h
  clear h
  go_wp2_with fail
  refine (H4.out _ B4.out).mono ?_
  rintro e w5 ⟨rfl, h⟩
  have B5 := Lib.hid h
  clear h
  go_wp2_with fail
  refine (H5.out _ B5.out).mono ?_
  rintro e w6 ⟨rfl, h⟩
  have B6 := Lib.hid h
  clear h
  go_wp2_with fail
  go_ret
  exact ⟨by simp, B6.out⟩

end Go.Proofs.YtfcpieffecinfaaDoor
