/-
  The walk of PathOnce.
-/
import Derived.Test.YtfcpieffecinfaaDoorPathH
namespace Go.Proofs.YtfcpieffecinfaaDoor
open Go.RowKit

set_option maxRecDepth 100000 in
set_option maxHeartbeats 2000000 in
theorem pathOnce_main (a b : ByteArray) (ha : a.size ≤ 200) (hb : b.size ≤ 200) (w : World) (hm : ML w) :
    Calls Tryd.prog 6 #[.string a, .string b] w fun e w' => e = .returned (.bool true) ∧ Below w.heap.size w w' := by
  have HW := Lib.hid (wayed_any w hm)
  obtain ⟨C, hC⟩ : ∃ C, C = bs (Pth.clean a.data.toList) := ⟨_, rfl⟩
  have hCl : C.data.toList = Pth.clean a.data.toList := by rw [hC, bs_list]
  have hCs : C.size ≤ 300 := by
    have := Pth.clean_len a.data.toList
    rw [← hCl, list_size, list_size] at this; omega
  have h1 := at_of (w := w) fun w' h => clean_any a w' (by omega) (hm.below h)
  have h2 := at_of (w := w) fun w' h => clean_any C w' (by omega) (hm.below h)
  have ho := Pth.clean_once a.data.toList
  rw [← hC] at h1
  rw [hCl, ho.1, ho.2, ← hC] at h2
  have hp : ∀ w', Below w.heap.size w w' → Calls Tryd.prog 14 #[.string C] w' fun e w'' => ∃ v, e = .returned v ∧ HasS w'' w'.heap.size v (Pth.cleanP a.data.toList).1 ∧ Below w.heap.size w w'' := fun w' h =>
    (parts_any C w' (by omega) (hm.below h)).mono fun e w'' ⟨v, he, h2, h3⟩ => ⟨v, he, by rw [hCl, Pth.clean_parts] at h2; exact h2, thenB h h3⟩
  have hll : (Pth.cleanP a.data.toList).1.length ≤ 1000 := by
    have := Pth.parts_len (Pth.clean a.data.toList)
    rw [Pth.clean_parts, ← hCl, list_size] at this; omega
  have hcl := Pth.cleanP_cl a.data.toList
  obtain ⟨L, hL⟩ : ∃ L, L = (Pth.cleanP a.data.toList).1 := ⟨_, rfl⟩
  rw [← hL] at hp hll hcl
  have n1 : decide ((⟨#[46, 46]⟩ : ByteArray).data.toList ∈ L) = false := decide_eq_false fun h => (hcl _ h).2 rfl
  have n2 : decide ((⟨#[46]⟩ : ByteArray).data.toList ∈ L) = false := decide_eq_false fun h => (hcl _ h).1.2.1 rfl
  have q1 : ∀ (W : World) (B : Nat) (v : Value), HasS W B v L → Calls Tryd.prog 18 #[v, .string ⟨#[46, 46]⟩] W fun e w' => e = .returned (.bool false) ∧ w' = W := fun W B v h => by
    have := has_any h (by omega) ⟨#[46, 46]⟩; rwa [n1] at this
  have q2 : ∀ (W : World) (B : Nat) (v : Value), HasS W B v L → Calls Tryd.prog 18 #[v, .string ⟨#[46]⟩] W fun e w' => e = .returned (.bool false) ∧ w' = W := fun W B v h => by
    have := has_any h (by omega) ⟨#[46]⟩; rwa [n2] at this
  have hr := at_of (w := w) fun w' h => right_any a w' (by omega) (hm.below h)
  have sl : ∀ X : ByteArray, (X ++ (⟨#[47]⟩ : ByteArray) ++ b).data.toList = X.data.toList ++ 47 :: b.data.toList := fun X => by rw [cat_list, cat_list]; simp
  have s1 : (⟨#[47]⟩ : ByteArray).size = 1 := rfl
  obtain ⟨X3, hX3⟩ : ∃ X : ByteArray, X = a ++ (⟨#[47]⟩ : ByteArray) ++ b := ⟨_, rfl⟩
  obtain ⟨X4, hX4⟩ : ∃ X : ByteArray, X = C ++ (⟨#[47]⟩ : ByteArray) ++ b := ⟨_, rfl⟩
  have z3 : X3.size ≤ 2000000 := by rw [hX3, ByteArray.size_append, ByteArray.size_append]; omega
  have z4 : X4.size ≤ 2000000 := by rw [hX4, ByteArray.size_append, ByteArray.size_append]; omega
  have h3 := at_of (w := w) fun w' h => clean_any X3 w' z3 (hm.below h)
  have h4 := at_of (w := w) fun w' h => clean_any X4 w' z4 (hm.below h)
  rw [hX3] at h3
  rw [hX4] at h4
  have hon := Pth.clean_on a.data.toList b.data.toList
  rw [sl, hon.1] at h3
  rw [sl, hCl] at h4
  obtain ⟨T, hT⟩ : ∃ T, T = bs (Pth.clean (Pth.clean a.data.toList ++ 47 :: b.data.toList)) := ⟨_, rfl⟩
  rw [← hT] at h3 h4
  have hlaw := hon.2
  obtain ⟨e1, he1⟩ : ∃ e1, e1 = Pth.cleanOk (a.data.toList ++ 47 :: b.data.toList) := ⟨_, rfl⟩
  obtain ⟨e2, he2⟩ : ∃ e2, e2 = Pth.cleanOk (Pth.clean a.data.toList ++ 47 :: b.data.toList) := ⟨_, rfl⟩
  rw [← he1] at h3 hlaw
  rw [← he2] at h4 hlaw
  have hrl : Pth.right a.data.toList = true → Pth.cleanOk a.data.toList = true ∧ C = a := fun h => by
    unfold Pth.right at h
    simp only [Bool.and_eq_true, beq_iff_eq] at h
    exact ⟨h.1.1.1.1.1, by rw [hC, h.1.1.1.1.2, bs_of]⟩
  obtain ⟨r, hrr⟩ : ∃ r, r = Pth.right a.data.toList := ⟨_, rfl⟩
  obtain ⟨ok, hok⟩ : ∃ ok, ok = Pth.cleanOk a.data.toList := ⟨_, rfl⟩
  rw [← hrr] at hr hrl
  rw [← hok] at h1 hrl hlaw
  have H1 := Lib.hid h1
  have H2 := Lib.hid h2
  have HP := Lib.hid hp
  have Q1 := Lib.hid q1
  have Q2 := Lib.hid q2
  have HR := Lib.hid hr
  have H3 := Lib.hid h3
  have H4 := Lib.hid h4
  have hways : (r = true ∧ ok = true ∧ (C.toList == a.toList) = true ∧ e1 = e2) ∨ (r = false ∧ ok = true ∧ e1 = e2) ∨ (r = false ∧ ok = false) := by
    cases r
    · cases ok
      · exact .inr (.inr ⟨rfl, rfl⟩)
      · exact .inr (.inl ⟨rfl, rfl, hlaw rfl⟩)
    · obtain ⟨k1, k2⟩ := hrl rfl
      exact .inl ⟨rfl, k1, by rw [k2]; simp, hlaw k1⟩
  have na : ¬ (200 : Int) < a.size := by omega
  have nb : ¬ (200 : Int) < b.size := by omega
  clear hX3 hX4 z3 z4 hm hC hCl h1 h2 ho hp hll hcl hL n1 n2 q1 q2 hr sl h3 h4 hon hT hlaw he1 he2 hrl hrr hok
  rcases hways with ⟨rfl, rfl, k1, rfl⟩ | ⟨rfl, rfl, rfl⟩ | ⟨rfl, rfl⟩
  case inl =>
    have k2 : (C.toList != a.toList) = false := by rw [bne, k1]; rfl
    go_enter Tryd.func6, Tryd.ntmps6
    go_wp2_with fail
    refine HW.out.mono ?_
    rintro e w1 ⟨rfl, h⟩
    have B1 := Lib.hid h
    clear h
    go_wp2_with fail
    refine (H1.out _ B1.out).mono ?_
    rintro e w2 ⟨rfl, h⟩
    have B2 := Lib.hid h
    clear h
    go_wp2_with fail
    refine (H2.out _ B2.out).mono ?_
    rintro e w3 ⟨rfl, h⟩
    have B3 := Lib.hid h
    clear h
    go_wp2_with fail
    refine (HP.out _ B3.out).mono ?_
    rintro e w4 ⟨v, rfl, hv, h⟩
    have B4 := Lib.hid h
    have V4 := Lib.hid hv
    clear h hv
    go_wp2_with fail
    refine (Q1.out _ _ _ V4.out).mono ?_
    rintro e w5 ⟨rfl, rfl⟩
    go_wp2_with fail
    refine (HP.out _ B4.out).mono ?_
    rintro e w6 ⟨v6, rfl, hv, h⟩
    have B6 := Lib.hid h
    have V6 := Lib.hid hv
    clear h hv
    go_wp2_with fail
    refine (Q2.out _ _ _ V6.out).mono ?_
    rintro e w7 ⟨rfl, rfl⟩
    go_wp2_with fail
    refine (HR.out _ B6.out).mono ?_
    rintro e w8 ⟨rfl, h⟩
    have B8 := Lib.hid h
    clear h
    go_wp2_with fail
    refine (H3.out _ B8.out).mono ?_
    rintro e w9 ⟨rfl, h⟩
    have B9 := Lib.hid h
    clear h
    go_wp2_with fail
    refine (H4.out _ B9.out).mono ?_
    rintro e w10 ⟨rfl, h⟩
    have B10 := Lib.hid h
    clear h
    go_wp2_with fail
    go_ret
    exact ⟨by simp, B10.out⟩
  all_goals
    go_enter Tryd.func6, Tryd.ntmps6
    go_wp2_with fail
    refine HW.out.mono ?_
    rintro e w1 ⟨rfl, h⟩
    have B1 := Lib.hid h
    clear h
    go_wp2_with fail
    refine (H1.out _ B1.out).mono ?_
    rintro e w2 ⟨rfl, h⟩
    have B2 := Lib.hid h
    clear h
    go_wp2_with fail
    refine (H2.out _ B2.out).mono ?_
    rintro e w3 ⟨rfl, h⟩
    have B3 := Lib.hid h
    clear h
    go_wp2_with fail
    refine (HP.out _ B3.out).mono ?_
    rintro e w4 ⟨v, rfl, hv, h⟩
    have B4 := Lib.hid h
    have V4 := Lib.hid hv
    clear h hv
    go_wp2_with fail
    refine (Q1.out _ _ _ V4.out).mono ?_
    rintro e w5 ⟨rfl, rfl⟩
    go_wp2_with fail
    refine (HP.out _ B4.out).mono ?_
    rintro e w6 ⟨v6, rfl, hv, h⟩
    have B6 := Lib.hid h
    have V6 := Lib.hid hv
    clear h hv
    go_wp2_with fail
    refine (Q2.out _ _ _ V6.out).mono ?_
    rintro e w7 ⟨rfl, rfl⟩
    go_wp2_with fail
    refine (HR.out _ B6.out).mono ?_
    rintro e w8 ⟨rfl, h⟩
    have B8 := Lib.hid h
    clear h
    go_wp2_with fail
    refine (H3.out _ B8.out).mono ?_
    rintro e w9 ⟨rfl, h⟩
    have B9 := Lib.hid h
    clear h
    go_wp2_with fail
    refine (H4.out _ B9.out).mono ?_
    rintro e w10 ⟨rfl, h⟩
    have B10 := Lib.hid h
    clear h
    go_wp2_with fail
    go_ret
    exact ⟨by simp, B10.out⟩

set_option maxRecDepth 100000 in
theorem pathOnce_walk (a : ByteArray) (_sa : a.size ≤ 140737488351232) (b : ByteArray) (_sb : b.size ≤ 140737488351232) (w : World) (hm : ML w) :
    Calls Tryd.prog 6 #[.string a, .string b] w fun e w' => e = .returned (.bool true) ∧ Below w.heap.size w w' := by
  by_cases ha : a.size ≤ 200
  · by_cases hb : b.size ≤ 200
    · exact pathOnce_main a b ha hb w hm
    · have HW := Lib.hid (wayed_any w hm)
      have k1 : ¬ (200 : Int) < a.size := by omega
      have k2 : (200 : Int) < b.size := by omega
      clear hm ha hb
      go_enter Tryd.func6, Tryd.ntmps6
      go_wp2_with fail
      refine HW.out.mono ?_
      rintro e w1 ⟨rfl, h⟩
      have B := Lib.hid h
      clear h
      go_wp2_with fail
      go_ret
      exact ⟨rfl, B.out⟩
  · have HW := Lib.hid (wayed_any w hm)
    have k1 : (200 : Int) < a.size := by omega
    clear hm ha
    go_enter Tryd.func6, Tryd.ntmps6
    go_wp2_with fail
    refine HW.out.mono ?_
    rintro e w1 ⟨rfl, h⟩
    have B := Lib.hid h
    clear h
    go_wp2_with fail
    go_ret
    exact ⟨rfl, B.out⟩

end Go.Proofs.YtfcpieffecinfaaDoor
