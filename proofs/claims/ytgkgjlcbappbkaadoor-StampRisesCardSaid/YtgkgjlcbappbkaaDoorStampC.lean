/-
  stamp.Before and Cut; days; timed.
-/
import Derived.Test.YtgkgjlcbappbkaaDoorStampB
namespace Go.Proofs.YtgkgjlcbappbkaaDoor
open Go.RowKit

def lessT (a b c d : Int) : Bool := decide (a < c ∨ (a = c ∧ b < d))
theorem before_any (a b c d : Int) (w : World) : Calls Tryd.prog 13 #[tm a b, tm c d] w fun e w' => e = .returned (.bool (lessT a b c d)) ∧ Below w.heap.size w w' := by
  have hways : (a < c ∧ lessT a b c d = true) ∨ (¬ a < c ∧ (a == c) = false ∧ lessT a b c d = false) ∨ (¬ a < c ∧ (a == c) = true ∧ b < d ∧ lessT a b c d = true) ∨ (¬ a < c ∧ (a == c) = true ∧ ¬ b < d ∧ lessT a b c d = false) := by
    unfold lessT
    by_cases h1 : a < c
    · exact .inl ⟨h1, decide_eq_true (.inl h1)⟩
    · by_cases h2 : a = c
      · by_cases h3 : b < d
        · exact .inr (.inr (.inl ⟨h1, by simpa using h2, h3, decide_eq_true (.inr ⟨h2, h3⟩)⟩))
        · exact .inr (.inr (.inr ⟨h1, by simpa using h2, h3, decide_eq_false (by omega)⟩))
      · exact .inr (.inl ⟨h1, by simpa using h2, decide_eq_false (by omega)⟩)
  obtain ⟨r, hr⟩ : ∃ r, r = lessT a b c d := ⟨_, rfl⟩
  rw [← hr] at hways ⊢
  clear hr
  rcases hways with ⟨k1, rfl⟩ | ⟨k1, k2, rfl⟩ | ⟨k1, k2, k3, rfl⟩ | ⟨k1, k2, k3, rfl⟩
  all_goals
    go_enter Tryd.func13, Tryd.ntmps13
    go_wp2_with fail
    go_ret
    exact ⟨by first | rfl | (simp <;> omega), ((Below.refl _ _).alloc (Nat.le_refl _) _).alloc (by simp) _⟩

theorem cut_any (a b : Int) (w : World) : Calls Tryd.prog 14 #[tm a b] w fun e w' => e = .returned (tm a 0) ∧ Below w.heap.size w w' := by
  go_enter Tryd.func14, Tryd.ntmps14
  go_wp2_with fail
  refine bodyPost_ret (v := tm a 0) (by simp [results, Tryd.results14, go_sem]) rfl ⟨rfl, ?_⟩
  repeat refine Below.setCell ?_ (by first | exact Nat.le_refl _ | simp) _
  exact ((Below.refl _ _).alloc (Nat.le_refl _) _).alloc (by simp) _

def secOf (a : Int) : Int := pickN a 2199023255553 - 1099511627776
def nanoOf (a : Int) : Int := pickN a 1000000000
theorem timed_bd (a b : Int) : -1099511627776 ≤ secOf a ∧ secOf a ≤ 1099511627776 ∧ 0 ≤ nanoOf b ∧ nanoOf b < 1000000000 := by
  have h1 := pickN_lo a 2199023255553 (by omega)
  have h2 := pickN_hi a 2199023255553 (by omega)
  have h3 := pickN_lo b 1000000000 (by omega)
  have h4 := pickN_hi b 1000000000 (by omega)
  unfold secOf nanoOf; omega
theorem timed_any (a b : Int) (w : World) : Calls Tryd.prog 9 #[.int .i64 a, .int .i64 b] w fun e w' => e = .returned (tm (secOf a) (nanoOf b)) ∧ Below w.heap.size w w' := by
  have h1 := pickN_lo a 2199023255553 (by omega)
  have h2 := pickN_hi a 2199023255553 (by omega)
  have hp1 := fun w => pick_any a 2199023255553 w (by omega) (by omega)
  have hp2 := fun w => pick_any b 1000000000 w (by omega) (by omega)
  unfold secOf nanoOf
  obtain ⟨x, hx⟩ : ∃ x, x = pickN a 2199023255553 := ⟨_, rfl⟩
  obtain ⟨y, hy⟩ : ∃ y, y = pickN b 1000000000 := ⟨_, rfl⟩
  rw [← hx] at hp1 h1 h2 ⊢
  rw [← hy] at hp2 ⊢
  have P1 := Lib.hid hp1
  have P2 := Lib.hid hp2
  clear hp1 hp2 hx hy
  go_enter Tryd.func9, Tryd.ntmps9
  go_wp2_with fail
  refine (P1.out _).mono ?_
  rintro e w1 ⟨rfl, rfl⟩
  go_wp2_with fail
  refine (P2.out _).mono ?_
  rintro e w1 ⟨rfl, rfl⟩
  go_wp2_with fail
  refine bodyPost_ret (v := tm (x - 1099511627776) y) (by simp [results, Tryd.results9, go_sem]) rfl ⟨rfl, ?_⟩
  repeat refine Below.setCell ?_ (by first | exact Nat.le_refl _ | simp) _
  exact (Below.refl _ _).alloc (Nat.le_refl _) _

/-- The days of a month. -/
theorem dimZ_eq (y : Int) (m : Nat) : (Cal.dimZ y m : Int) = if m = 2 then (if y % 4 = 0 ∧ (y % 100 ≠ 0 ∨ y % 400 = 0) then 29 else 28) else if m = 4 ∨ m = 6 ∨ m = 9 ∨ m = 11 then 30 else 31 := by
  unfold Cal.dimZ Cal.dim Cal.dimL Cal.lp
  have h4 : ((y % 400).toNat % 4 = 0) ↔ y % 4 = 0 := by omega
  have h1 : ((y % 400).toNat % 100 = 0) ↔ y % 100 = 0 := by omega
  have h0 : ((y % 400).toNat % 400 = 0) ↔ y % 400 = 0 := by omega
  by_cases hm : m = 2
  · rw [if_pos hm, if_pos hm]
    by_cases h : y % 4 = 0 ∧ (y % 100 ≠ 0 ∨ y % 400 = 0)
    · rw [if_pos h, if_pos ⟨h4.2 h.1, h.2.imp (fun a b => a (h1.1 b)) h0.2⟩]; rfl
    · rw [if_neg h, if_neg (fun k => h ⟨h4.1 k.1, k.2.imp (fun a b => a (h1.2 b)) h0.1⟩)]; rfl
  · rw [if_neg hm, if_neg hm]; split <;> rfl
theorem rem_zero (y k : Int) (hk : k = 4 ∨ k = 100 ∨ k = 400) : (y.tmod k == 0) = (y % k == 0) := by
  rw [Bool.eq_iff_iff, beq_iff_eq, beq_iff_eq]
  have hd := Int.dvd_iff_tmod_eq_zero (a := k) (b := y)
  have he := Int.dvd_iff_emod_eq_zero (a := k) (b := y)
  rw [← hd, ← he]
theorem days_any (y : Int) (m : Nat) (hm : 1 ≤ m) (hm2 : m ≤ 12) (hy1 : -1000000 ≤ y) (hy2 : y ≤ 1000000) (w : World) :
    Calls Tryd.prog 11 #[.int .i64 y, .int .i64 m] w fun e w' => e = .returned (.int .i64 (Cal.dimZ y m : Int)) ∧ w' = w := by
  rw [dimZ_eq]
  have t4 := rem_zero y 4 (.inl rfl)
  have t100 := rem_zero y 100 (.inr (.inl rfl))
  have t400 := rem_zero y 400 (.inr (.inr rfl))
  by_cases h2 : m = 2
  · subst h2
    rw [if_pos rfl]
    have hways : ((y % 4 == 0) = false ∧ ¬ (y % 4 = 0 ∧ (y % 100 ≠ 0 ∨ y % 400 = 0))) ∨ ((y % 4 == 0) = true ∧ (y % 100 == 0) = false ∧ (y % 4 = 0 ∧ (y % 100 ≠ 0 ∨ y % 400 = 0))) ∨ ((y % 4 == 0) = true ∧ (y % 100 == 0) = true ∧ (y % 400 == 0) = false ∧ ¬ (y % 4 = 0 ∧ (y % 100 ≠ 0 ∨ y % 400 = 0))) ∨ ((y % 4 == 0) = true ∧ (y % 100 == 0) = true ∧ (y % 400 == 0) = true ∧ (y % 4 = 0 ∧ (y % 100 ≠ 0 ∨ y % 400 = 0))) := by
      simp only [beq_iff_eq, beq_eq_false_iff_ne]
      omega
    rw [← t4, ← t100, ← t400] at hways
    clear t4 t100 t400
    rcases hways with ⟨k1, k2⟩ | ⟨k1, k2, k3⟩ | ⟨k1, k2, k3, k4⟩ | ⟨k1, k2, k3, k4⟩
    · rw [if_neg k2]
      clear k2
      go_enter Tryd.func11, Tryd.ntmps11
      go_wp2_with fail
      go_ret
      exact ⟨rfl, rfl⟩
    · rw [if_pos k3]
      have k5 : (y.tmod 100 != 0) = true := by rw [bne, k2]; rfl
      clear k3
      go_enter Tryd.func11, Tryd.ntmps11
      go_wp2_with fail
      go_ret
      exact ⟨rfl, rfl⟩
    · rw [if_neg k4]
      have k5 : (y.tmod 100 != 0) = false := by rw [bne, k2]; rfl
      clear k4
      go_enter Tryd.func11, Tryd.ntmps11
      go_wp2_with fail
      go_ret
      exact ⟨rfl, rfl⟩
    · rw [if_pos k4]
      have k5 : (y.tmod 100 != 0) = false := by rw [bne, k2]; rfl
      clear k4
      go_enter Tryd.func11, Tryd.ntmps11
      go_wp2_with fail
      go_ret
      exact ⟨rfl, rfl⟩
  · rw [if_neg h2]
    clear t4 t100 t400
    have hm3 : m = 1 ∨ m = 3 ∨ m = 4 ∨ m = 5 ∨ m = 6 ∨ m = 7 ∨ m = 8 ∨ m = 9 ∨ m = 10 ∨ m = 11 ∨ m = 12 := by omega
    clear h2 hm hm2
    rcases hm3 with rfl | rfl | rfl | rfl | rfl | rfl | rfl | rfl | rfl | rfl | rfl
    all_goals
      go_enter Tryd.func11, Tryd.ntmps11
      go_wp2_with fail
      go_ret
      exact ⟨rfl, rfl⟩

end Go.Proofs.YtgkgjlcbappbkaaDoor
