/-
  The walk of PathUnder.
-/
import Derived.Test.YtfcpieffecinfaaDoorPathG
namespace Go.Proofs.YtfcpieffecinfaaDoor
open Go.RowKit

set_option maxRecDepth 100000 in
set_option maxHeartbeats 2000000 in
theorem pathUnder_walk (a : ByteArray) (_sa : a.size ≤ 140737488351232) (b : ByteArray) (_sb : b.size ≤ 140737488351232) (c : ByteArray) (_sc : c.size ≤ 140737488351232) (w : World) (hm : ML w) :
    Calls Tryd.prog 3 #[.string a, .string b, .string c] w fun e w' => e = .returned (.bool true) ∧ Below w.heap.size w w' := by
  have HW := Lib.hid (wayed_any w hm)
  clear hm
  by_cases hbig : 400 < a.size + b.size + c.size
  · have hb' : (400 : Int) < (a.size : Int) + b.size + c.size := by omega
    clear hbig
    go_enter Tryd.func3, Tryd.ntmps3
    go_wp2_with fail
    refine HW.out.mono ?_
    rintro e w1 ⟨rfl, h⟩
    have B := Lib.hid h
    clear h
    go_wp2_with fail
    go_ret
    exact ⟨rfl, B.out⟩
  have hb' : ¬ (400 : Int) < (a.size : Int) + b.size + c.size := by omega
  have i1 := at_of (w := w) fun w' _ => in_any a b w' (by omega) (by omega)
  have i2 := at_of (w := w) fun w' _ => in_any b c w' (by omega) (by omega)
  have i3 := at_of (w := w) fun w' _ => in_any a c w' (by omega) (by omega)
  have i4 := at_of (w := w) fun w' _ => in_any b a w' (by omega) (by omega)
  have l1 : Pth.inn a.data.toList b.data.toList = true → Pth.inn b.data.toList c.data.toList = true → Pth.inn a.data.toList c.data.toList = true := Pth.inn_trans
  have l2 : a.toList ≠ [] → b.toList ≠ [] → Pth.inn a.data.toList b.data.toList = true → Pth.inn b.data.toList a.data.toList = true → a.toList = b.toList := by
    rw [str_list, str_list]; exact Pth.inn_anti
  obtain ⟨x1, hx1⟩ : ∃ x, x = Pth.inn a.data.toList b.data.toList := ⟨_, rfl⟩
  obtain ⟨x2, hx2⟩ : ∃ x, x = Pth.inn b.data.toList c.data.toList := ⟨_, rfl⟩
  obtain ⟨x3, hx3⟩ : ∃ x, x = Pth.inn a.data.toList c.data.toList := ⟨_, rfl⟩
  obtain ⟨x4, hx4⟩ : ∃ x, x = Pth.inn b.data.toList a.data.toList := ⟨_, rfl⟩
  rw [← hx1] at i1 l1 l2
  rw [← hx2] at i2 l1
  rw [← hx3] at i3 l1
  rw [← hx4] at i4 l2
  have I1 := Lib.hid i1
  have I2 := Lib.hid i2
  have I3 := Lib.hid i3
  have I4 := Lib.hid i4
  have L1 := Lib.hid l1
  have L2 := Lib.hid l2
  clear i1 i2 i3 i4 hx1 hx2 hx3 hx4 hbig l1 l2
  go_enter Tryd.func3, Tryd.ntmps3
  go_wp2_with fail
  refine HW.out.mono ?_
  rintro e w1 ⟨rfl, h⟩
  have B := Lib.hid h
  clear h
  go_wp2_with (first
    | (go_at_call 11; (with_reducible refine (I1.out _ B.out).mono ?_); rintro e w2 ⟨rfl, h⟩; clear B; have B := Lib.hid h; clear h)
    | (go_at_call 11; (with_reducible refine (I2.out _ B.out).mono ?_); rintro e w2 ⟨rfl, h⟩; clear B; have B := Lib.hid h; clear h)
    | (go_at_call 11; (with_reducible refine (I3.out _ B.out).mono ?_); rintro e w2 ⟨rfl, h⟩; clear B; have B := Lib.hid h; clear h)
    | (go_at_call 11; (with_reducible refine (I4.out _ B.out).mono ?_); rintro e w2 ⟨rfl, h⟩; clear B; have B := Lib.hid h; clear h))
  all_goals go_ret
  all_goals refine ⟨?_, B.out⟩
  all_goals
    have l1 := L1.out
    have l2 := L2.out
    clear L1 L2 HW I1 I2 I3 I4 B
  all_goals first | rfl | (simp_all; done)

end Go.Proofs.YtfcpieffecinfaaDoor
