/-
  The walk of PathOrder.
-/
import Derived.Test.YtfcpieffecinfaaDoorPathH
namespace Go.Proofs.YtfcpieffecinfaaDoor
open Go.RowKit

/-- What names in their order are to each other. -/
theorem order_law (a b c : List UInt8) :
    (Pth.cmp (Pth.parts a) (Pth.parts b) < 0 → Pth.cmp (Pth.parts b) (Pth.parts c) < 0 → Pth.cmp (Pth.parts a) (Pth.parts c) < 0) ∧
    (Pth.right a = true → Pth.right b = true → Pth.inn b a = true → a ≠ b → Pth.cmp (Pth.parts a) (Pth.parts b) < 0) ∧
    (Pth.right a = true → Pth.right b = true → Pth.right c = true → Pth.inn c a = true → Pth.cmp (Pth.parts a) (Pth.parts b) < 0 → Pth.cmp (Pth.parts b) (Pth.parts c) < 0 → Pth.inn b a = true) := by
  refine ⟨Pth.cmp_trans _ _ _, fun ra rb hi hne => ?_, fun ra rb rc hi h1 h2 => ?_⟩
  · obtain ⟨A, hA, hA0, ea, pa, _⟩ := Pth.right_of ra
    obtain ⟨B, hB, hB0, eb, pb, _⟩ := Pth.right_of rb
    rw [pa, pb]
    rw [ea, eb] at hi
    obtain ⟨R, hR⟩ := (Pth.inn_parts hB hA hA0 hB0).1 hi
    rw [hR]
    exact Pth.cmp_pre A R (fun e => hne (by rw [ea, eb, hR, e, List.append_nil]))
  · obtain ⟨A, hA, hA0, ea, pa, _⟩ := Pth.right_of ra
    obtain ⟨B, hB, hB0, eb, pb, _⟩ := Pth.right_of rb
    obtain ⟨C, hC, hC0, ec, pc, _⟩ := Pth.right_of rc
    rw [pa, pb] at h1
    rw [pb, pc] at h2
    rw [ea, ec] at hi
    obtain ⟨R, hR⟩ := (Pth.inn_parts hC hA hA0 hC0).1 hi
    rw [hR] at h2
    rw [ea, eb]
    exact (Pth.inn_parts hB hA hA0 hB0).2 (Pth.cmp_mid A B R h1 h2)

set_option maxRecDepth 100000 in
set_option maxHeartbeats 4000000 in
theorem pathOrder_main (a b c : ByteArray) (ha : a.size ≤ 200) (hb : b.size ≤ 200) (hc : c.size ≤ 200) (w : World) (hm : ML w) :
    Calls Tryd.prog 9 #[.string a, .string b, .string c] w fun e w' => e = .returned (.bool true) ∧ Below w.heap.size w w' := by
  have HW := Lib.hid (wayed_any w hm)
  have c1 := at_of (w := w) fun w' h => order_any a b w' (by omega) (by omega) (hm.below h)
  have c2 := at_of (w := w) fun w' h => order_any b a w' (by omega) (by omega) (hm.below h)
  have c3 := at_of (w := w) fun w' h => order_any b c w' (by omega) (by omega) (hm.below h)
  have c4 := at_of (w := w) fun w' h => order_any a c w' (by omega) (by omega) (hm.below h)
  have r1 := at_of (w := w) fun w' h => right_any a w' (by omega) (hm.below h)
  have r2 := at_of (w := w) fun w' h => right_any b w' (by omega) (hm.below h)
  have r3 := at_of (w := w) fun w' h => right_any c w' (by omega) (hm.below h)
  have i1 := at_of (w := w) fun w' _ => in_any b a w' (by omega) (by omega)
  have i2 := at_of (w := w) fun w' _ => in_any c a w' (by omega) (by omega)
  have pa : ∀ w', Below w.heap.size w w' → Calls Tryd.prog 14 #[.string a] w' fun e w'' => ∃ v, e = .returned v ∧ HasS w'' w'.heap.size v (Pth.parts a.data.toList) ∧ Below w'.heap.size w' w'' := fun w' h => parts_any a w' (by omega) (hm.below h)
  have pb : ∀ w', Below w.heap.size w w' → Calls Tryd.prog 14 #[.string b] w' fun e w'' => ∃ v, e = .returned v ∧ HasS w'' w'.heap.size v (Pth.parts b.data.toList) ∧ Below w'.heap.size w' w'' := fun w' h => parts_any b w' (by omega) (hm.below h)
  have la := Pth.parts_len a.data.toList
  have lb := Pth.parts_len b.data.toList
  rw [list_size] at la lb
  have hlaw := order_law a.data.toList b.data.toList c.data.toList
  have hant := Pth.cmp_anti (Pth.parts a.data.toList) (Pth.parts b.data.toList)
  have hant2 := Pth.cmp_anti (Pth.parts b.data.toList) (Pth.parts a.data.toList)
  have hzero := Pth.cmp_zero (Pth.parts a.data.toList) (Pth.parts b.data.toList)
  obtain ⟨P, hP⟩ : ∃ P, P = Pth.parts a.data.toList := ⟨_, rfl⟩
  obtain ⟨Q, hQ⟩ : ∃ Q, Q = Pth.parts b.data.toList := ⟨_, rfl⟩
  rw [← hP, ← hQ] at c1 c2 hant hant2 hzero hlaw
  rw [← hQ] at c3
  rw [← hP] at c4 pa la
  rw [← hQ] at pb lb
  have eqc : ∀ (W : World) (B C : Nat) (v u : Value), HasS W B v P → HasS W C u Q → Calls Tryd.prog 20 #[v, u] W fun e w' => e = .returned (.bool (decide (P = Q))) ∧ Below W.heap.size W w' := fun W B C v u h k => eq_any h k (by omega) (by omega)
  obtain ⟨q, hq⟩ : ∃ q, q = decide (P = Q) := ⟨_, rfl⟩
  rw [← hq] at eqc
  obtain ⟨x, hx⟩ : ∃ x, x = Pth.cmp P Q := ⟨_, rfl⟩
  obtain ⟨y, hy⟩ : ∃ y, y = Pth.cmp Q P := ⟨_, rfl⟩
  obtain ⟨z, hz⟩ : ∃ z, z = Pth.cmp Q (Pth.parts c.data.toList) := ⟨_, rfl⟩
  obtain ⟨u, hu⟩ : ∃ u, u = Pth.cmp P (Pth.parts c.data.toList) := ⟨_, rfl⟩
  obtain ⟨ra, hra⟩ : ∃ r, r = Pth.right a.data.toList := ⟨_, rfl⟩
  obtain ⟨rb, hrb⟩ : ∃ r, r = Pth.right b.data.toList := ⟨_, rfl⟩
  obtain ⟨rc, hrc⟩ : ∃ r, r = Pth.right c.data.toList := ⟨_, rfl⟩
  obtain ⟨j1, hj1⟩ : ∃ r, r = Pth.inn b.data.toList a.data.toList := ⟨_, rfl⟩
  obtain ⟨j2, hj2⟩ : ∃ r, r = Pth.inn c.data.toList a.data.toList := ⟨_, rfl⟩
  have hne : (a.data.toList ≠ b.data.toList) = (¬ a.toList = b.toList) := by rw [str_list, str_list]
  rw [hne] at hlaw
  rw [← hx, ← hz, ← hu, ← hra, ← hrb, ← hrc, ← hj1, ← hj2] at hlaw
  rw [← hx, ← hy] at hant hant2
  rw [← hx] at hzero c1
  rw [← hy] at c2
  rw [← hz] at c3
  rw [← hu] at c4
  rw [← hra] at r1
  rw [← hrb] at r2
  rw [← hrc] at r3
  rw [← hj1] at i1
  rw [← hj2] at i2
  have C1 := Lib.hid c1
  have C2 := Lib.hid c2
  have C3 := Lib.hid c3
  have C4 := Lib.hid c4
  have R1 := Lib.hid r1
  have R2 := Lib.hid r2
  have R3 := Lib.hid r3
  have I1 := Lib.hid i1
  have I2 := Lib.hid i2
  have PA := Lib.hid pa
  have PB := Lib.hid pb
  have EQ := Lib.hid eqc
  obtain ⟨l1, l2, l3⟩ := hlaw
  have L1 := Lib.hid l1
  have L2 := Lib.hid l2
  have L3 := Lib.hid l3
  have na : ¬ (200 : Int) < a.size := by omega
  have nb : ¬ (200 : Int) < b.size := by omega
  have nc : ¬ (200 : Int) < c.size := by omega
  have hways : (x < 0 ∧ 0 < y ∧ q = false) ∨ (x = 0 ∧ y ≤ 0 ∧ q = true) ∨ (0 < x ∧ y ≤ 0 ∧ q = false) := by
    rw [hq]
    rcases Int.lt_trichotomy x 0 with h | h | h
    · exact .inl ⟨h, hant.1 h, decide_eq_false fun e => by have := hzero.2 e; omega⟩
    · refine .inr (.inl ⟨h, ?_, decide_eq_true (hzero.1 h)⟩)
      rcases Int.lt_or_le 0 y with h2 | h2
      · have := hant.2 h2; omega
      · exact h2
    · refine .inr (.inr ⟨h, ?_, decide_eq_false fun e => by have := hzero.2 e; omega⟩)
      have := hant2.2 h; omega
  clear c1 c2 c3 c4 r1 r2 r3 i1 i2 pa pb la lb eqc hP hQ hq hx hy hz hu hra hrb hrc hj1 hj2 hne l1 l2 l3 hant hant2 hzero ha hb hc hm
  rcases hways with ⟨k1, k2, rfl⟩ | ⟨rfl, k2, rfl⟩ | ⟨k1, k2, rfl⟩
  · have k3 : ¬ (0 : Int) ≤ x := by omega
    have k4 : (x == 0) = false := beq_eq_false_iff_ne.2 (by omega)
    go_enter Tryd.func9, Tryd.ntmps9
    go_wp2_with fail
    refine HW.out.mono ?_
    rintro e w1 ⟨rfl, h⟩
    have B1 := Lib.hid h
    clear h
    go_wp2_with fail
    refine (C1.out _ B1.out).mono ?_
    rintro e w2 ⟨rfl, h⟩
    have B2 := Lib.hid h
    clear h
    go_wp2_with fail
    refine (C2.out _ B2.out).mono ?_
    rintro e w3 ⟨rfl, h⟩
    have B3 := Lib.hid h
    clear h
    go_wp2_with fail
    refine (PA.out _ B3.out).mono ?_
    rintro e w4 ⟨v, rfl, hv, h⟩
    have V4 := Lib.hid hv
    have B4 := Lib.hid (thenB B3.out h)
    clear hv h
    go_wp2_with fail
    refine (PB.out _ B4.out).mono ?_
    rintro e w5 ⟨v5, rfl, hv, h⟩
    have V5 := Lib.hid hv
    have V4' := Lib.hid (V4.out.below h)
    have B5 := Lib.hid (thenB B4.out h)
    clear hv h
    go_wp2_with fail
    refine (EQ.out _ _ _ _ _ V4'.out V5.out).mono ?_
    rintro e w6 ⟨rfl, h⟩
    have B := Lib.hid (thenB B5.out h)
    clear h
    go_wp2_with (first
      | (go_at_call 22; (with_reducible refine (C3.out _ B.out).mono ?_); rintro e w7 ⟨rfl, h⟩; clear B; have B := Lib.hid h; clear h)
      | (go_at_call 22; (with_reducible refine (C4.out _ B.out).mono ?_); rintro e w7 ⟨rfl, h⟩; clear B; have B := Lib.hid h; clear h)
      | (go_at_call 12; (with_reducible refine (R1.out _ B.out).mono ?_); rintro e w7 ⟨rfl, h⟩; clear B; have B := Lib.hid h; clear h)
      | (go_at_call 12; (with_reducible refine (R2.out _ B.out).mono ?_); rintro e w7 ⟨rfl, h⟩; clear B; have B := Lib.hid h; clear h)
      | (go_at_call 12; (with_reducible refine (R3.out _ B.out).mono ?_); rintro e w7 ⟨rfl, h⟩; clear B; have B := Lib.hid h; clear h)
      | (go_at_call 11; (with_reducible refine (I1.out _ B.out).mono ?_); rintro e w7 ⟨rfl, h⟩; clear B; have B := Lib.hid h; clear h)
      | (go_at_call 11; (with_reducible refine (I2.out _ B.out).mono ?_); rintro e w7 ⟨rfl, h⟩; clear B; have B := Lib.hid h; clear h))
    all_goals go_ret
    all_goals refine ⟨?_, B.out⟩
    all_goals
      have l1 := L1.out
      have l2 := L2.out
      have l3 := L3.out
      clear L1 L2 L3 HW C1 C2 C3 C4 R1 R2 R3 I1 I2 PA PB EQ B
    all_goals first | rfl | (simp_all; done) | (simp_all; omega)
  · have k3 : ¬ (0 : Int) < y := by omega
    go_enter Tryd.func9, Tryd.ntmps9
    go_wp2_with fail
    refine HW.out.mono ?_
    rintro e w1 ⟨rfl, h⟩
    have B1 := Lib.hid h
    clear h
    go_wp2_with fail
    refine (C1.out _ B1.out).mono ?_
    rintro e w2 ⟨rfl, h⟩
    have B2 := Lib.hid h
    clear h
    go_wp2_with fail
    refine (C2.out _ B2.out).mono ?_
    rintro e w3 ⟨rfl, h⟩
    have B3 := Lib.hid h
    clear h
    go_wp2_with fail
    refine (PA.out _ B3.out).mono ?_
    rintro e w4 ⟨v, rfl, hv, h⟩
    have V4 := Lib.hid hv
    have B4 := Lib.hid (thenB B3.out h)
    clear hv h
    go_wp2_with fail
    refine (PB.out _ B4.out).mono ?_
    rintro e w5 ⟨v5, rfl, hv, h⟩
    have V5 := Lib.hid hv
    have V4' := Lib.hid (V4.out.below h)
    have B5 := Lib.hid (thenB B4.out h)
    clear hv h
    go_wp2_with fail
    refine (EQ.out _ _ _ _ _ V4'.out V5.out).mono ?_
    rintro e w6 ⟨rfl, h⟩
    have B := Lib.hid (thenB B5.out h)
    clear h
    go_wp2_with (first
      | (go_at_call 22; (with_reducible refine (C3.out _ B.out).mono ?_); rintro e w7 ⟨rfl, h⟩; clear B; have B := Lib.hid h; clear h)
      | (go_at_call 22; (with_reducible refine (C4.out _ B.out).mono ?_); rintro e w7 ⟨rfl, h⟩; clear B; have B := Lib.hid h; clear h)
      | (go_at_call 12; (with_reducible refine (R1.out _ B.out).mono ?_); rintro e w7 ⟨rfl, h⟩; clear B; have B := Lib.hid h; clear h)
      | (go_at_call 12; (with_reducible refine (R2.out _ B.out).mono ?_); rintro e w7 ⟨rfl, h⟩; clear B; have B := Lib.hid h; clear h)
      | (go_at_call 12; (with_reducible refine (R3.out _ B.out).mono ?_); rintro e w7 ⟨rfl, h⟩; clear B; have B := Lib.hid h; clear h)
      | (go_at_call 11; (with_reducible refine (I1.out _ B.out).mono ?_); rintro e w7 ⟨rfl, h⟩; clear B; have B := Lib.hid h; clear h)
      | (go_at_call 11; (with_reducible refine (I2.out _ B.out).mono ?_); rintro e w7 ⟨rfl, h⟩; clear B; have B := Lib.hid h; clear h))
    all_goals go_ret
    all_goals refine ⟨?_, B.out⟩
    all_goals
      have l1 := L1.out
      have l2 := L2.out
      have l3 := L3.out
      clear L1 L2 L3 HW C1 C2 C3 C4 R1 R2 R3 I1 I2 PA PB EQ B
    all_goals first | rfl | (simp_all; done) | (simp_all; omega)
  · have k3 : ¬ x < 0 := by omega
    have k4 : (x == 0) = false := beq_eq_false_iff_ne.2 (by omega)
    have k5 : ¬ (0 : Int) < y := by omega
    have k6 : 0 ≤ x := by omega
    go_enter Tryd.func9, Tryd.ntmps9
    go_wp2_with fail
    refine HW.out.mono ?_
    rintro e w1 ⟨rfl, h⟩
    have B1 := Lib.hid h
    clear h
    go_wp2_with fail
    refine (C1.out _ B1.out).mono ?_
    rintro e w2 ⟨rfl, h⟩
    have B2 := Lib.hid h
    clear h
    go_wp2_with fail
    refine (C2.out _ B2.out).mono ?_
    rintro e w3 ⟨rfl, h⟩
    have B3 := Lib.hid h
    clear h
    go_wp2_with fail
    refine (PA.out _ B3.out).mono ?_
    rintro e w4 ⟨v, rfl, hv, h⟩
    have V4 := Lib.hid hv
    have B4 := Lib.hid (thenB B3.out h)
    clear hv h
    go_wp2_with fail
    refine (PB.out _ B4.out).mono ?_
    rintro e w5 ⟨v5, rfl, hv, h⟩
    have V5 := Lib.hid hv
    have V4' := Lib.hid (V4.out.below h)
    have B5 := Lib.hid (thenB B4.out h)
    clear hv h
    go_wp2_with fail
    refine (EQ.out _ _ _ _ _ V4'.out V5.out).mono ?_
    rintro e w6 ⟨rfl, h⟩
    have B := Lib.hid (thenB B5.out h)
    clear h
    go_wp2_with (first
      | (go_at_call 22; (with_reducible refine (C3.out _ B.out).mono ?_); rintro e w7 ⟨rfl, h⟩; clear B; have B := Lib.hid h; clear h)
      | (go_at_call 22; (with_reducible refine (C4.out _ B.out).mono ?_); rintro e w7 ⟨rfl, h⟩; clear B; have B := Lib.hid h; clear h)
      | (go_at_call 12; (with_reducible refine (R1.out _ B.out).mono ?_); rintro e w7 ⟨rfl, h⟩; clear B; have B := Lib.hid h; clear h)
      | (go_at_call 12; (with_reducible refine (R2.out _ B.out).mono ?_); rintro e w7 ⟨rfl, h⟩; clear B; have B := Lib.hid h; clear h)
      | (go_at_call 12; (with_reducible refine (R3.out _ B.out).mono ?_); rintro e w7 ⟨rfl, h⟩; clear B; have B := Lib.hid h; clear h)
      | (go_at_call 11; (with_reducible refine (I1.out _ B.out).mono ?_); rintro e w7 ⟨rfl, h⟩; clear B; have B := Lib.hid h; clear h)
      | (go_at_call 11; (with_reducible refine (I2.out _ B.out).mono ?_); rintro e w7 ⟨rfl, h⟩; clear B; have B := Lib.hid h; clear h))
    all_goals go_ret
    all_goals refine ⟨?_, B.out⟩
    all_goals
      have l1 := L1.out
      have l2 := L2.out
      have l3 := L3.out
      clear L1 L2 L3 HW C1 C2 C3 C4 R1 R2 R3 I1 I2 PA PB EQ B
    all_goals first | rfl | (simp_all; done) | (simp_all; omega)

set_option maxRecDepth 100000 in
theorem pathOrder_walk (a : ByteArray) (_sa : a.size ≤ 140737488351232) (b : ByteArray) (_sb : b.size ≤ 140737488351232) (c : ByteArray) (_sc : c.size ≤ 140737488351232) (w : World) (hm : ML w) :
    Calls Tryd.prog 9 #[.string a, .string b, .string c] w fun e w' => e = .returned (.bool true) ∧ Below w.heap.size w w' := by
  by_cases hs : a.size ≤ 200 ∧ b.size ≤ 200 ∧ c.size ≤ 200
  · exact pathOrder_main a b c hs.1 hs.2.1 hs.2.2 w hm
  · have HW := Lib.hid (wayed_any w hm)
    have hways : (200 : Int) < a.size ∨ (¬ (200 : Int) < a.size ∧ (200 : Int) < b.size) ∨ (¬ (200 : Int) < a.size ∧ ¬ (200 : Int) < b.size ∧ (200 : Int) < c.size) := by omega
    clear hm hs
    rcases hways with k1 | ⟨k1, k2⟩ | ⟨k1, k2, k3⟩
    all_goals
      go_enter Tryd.func9, Tryd.ntmps9
      go_wp2_with fail
      refine HW.out.mono ?_
      rintro e w1 ⟨rfl, h⟩
      have B := Lib.hid h
      clear h
      go_wp2_with fail
      go_ret
      exact ⟨rfl, B.out⟩

end Go.Proofs.YtfcpieffecinfaaDoor
