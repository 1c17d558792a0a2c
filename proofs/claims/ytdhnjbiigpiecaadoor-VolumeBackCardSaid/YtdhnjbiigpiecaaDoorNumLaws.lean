/-
  Octal numbers stand as their digits do: no program in sight.
-/
import Derived.Test.YtdhnjbiigpiecaaDoorNumPlain
import GoSem.Claims
namespace Num
open Go

def digs (n : Nat) : Nat → List UInt8
  | 0 => []
  | k + 1 => (48 + n / 8 ^ k % 8).toUInt8 :: digs n k

theorem digs_get (n k : Nat) : digs n k = (List.range k).map fun j => (48 + n / 8 ^ (k - 1 - j) % 8).toUInt8 := by
  induction k with
  | zero => rfl
  | succ k ih =>
    rw [digs, ih, List.range_succ_eq_map, List.map_cons, List.map_map]
    refine congr (congrArg List.cons (by rw [show k + 1 - 1 - 0 = k by omega])) (List.map_congr_left fun j hj => ?_)
    have hj : j < k := by simpa using hj
    simp only [Function.comp_apply]
    rw [show k + 1 - 1 - (j + 1) = k - 1 - j by omega]

theorem octal_digs (n w : Nat) (h : 1 ≤ w) : octal n w = digs n (w - 1) ++ [0] := by
  obtain ⟨k, rfl⟩ : ∃ k, w = k + 1 := ⟨w - 1, by omega⟩
  unfold octal
  rw [List.range_succ, List.map_append, show k + 1 - 1 = k by omega, digs_get]
  refine congr (congrArg HAppend.hAppend (List.map_congr_left fun j hj => ?_)) ?_
  · have hj : j < k := by simpa using hj
    unfold dig
    rw [if_neg (by omega), show k + 1 - 2 - j = k - 1 - j by omega]
  · simp [dig]

theorem digs_len (n k : Nat) : (digs n k).length = k := by rw [digs_get]; simp

theorem digit_toNat (x : Nat) : ((48 + x % 8).toUInt8).toNat = 48 + x % 8 := by
  simp [UInt8.toNat_ofNat']; omega

theorem less_digs (m n k : Nat) (r : List UInt8) (hr : Op.bytesLess r r = false) : Op.bytesLess (digs m k ++ r) (digs n k ++ r) = decide (m % 8 ^ k < n % 8 ^ k) := by
  induction k with
  | zero => simp [digs, hr, Nat.mod_one]
  | succ k ih =>
    have hm := Nat.mod_pow_succ (x := m) (b := 8) (k := k)
    have hn := Nat.mod_pow_succ (x := n) (b := 8) (k := k)
    have lm := Nat.mod_lt m (show 0 < 8 ^ k from Nat.pos_of_ne_zero (by simp))
    have ln := Nat.mod_lt n (show 0 < 8 ^ k from Nat.pos_of_ne_zero (by simp))
    rw [hm, hn]
    simp only [digs, List.cons_append]
    generalize m / 8 ^ k = x at *
    generalize n / 8 ^ k = y at *
    generalize m % 8 ^ k = u at *
    generalize n % 8 ^ k = v at *
    generalize 8 ^ k = p at *
    have dx : ((48 + x % 8).toUInt8 < (48 + y % 8).toUInt8) ↔ x % 8 < y % 8 := by
      rw [UInt8.lt_iff_toNat_lt, digit_toNat, digit_toNat]; omega
    have de : ((48 + x % 8).toUInt8 == (48 + y % 8).toUInt8) = decide (x % 8 = y % 8) := by
      by_cases h : x % 8 = y % 8
      · rw [h]; simp
      · have : (48 + x % 8).toUInt8 ≠ (48 + y % 8).toUInt8 := fun e => h (by
          have := congrArg UInt8.toNat e
          rw [digit_toNat, digit_toNat] at this; omega)
        rw [beq_eq_false_iff_ne.2 this, decide_eq_false h]
    have dd : decide ((48 + x % 8).toUInt8 < (48 + y % 8).toUInt8) = decide (x % 8 < y % 8) := by simp only [dx]
    simp only [Op.bytesLess]
    rw [de, ih, dd]
    rcases Nat.lt_trichotomy (x % 8) (y % 8) with h | h | h
    · have e1 : p * (x % 8) + p ≤ p * (y % 8) := by
        have := Nat.mul_le_mul_left p (show x % 8 + 1 ≤ y % 8 by omega)
        rwa [Nat.mul_add, Nat.mul_one] at this
      simp [h]; omega
    · simp [h]
    · have e1 : p * (y % 8) + p ≤ p * (x % 8) := by
        have := Nat.mul_le_mul_left p (show y % 8 + 1 ≤ x % 8 by omega)
        rwa [Nat.mul_add, Nat.mul_one] at this
      have h1 : ¬ x % 8 < y % 8 := by omega
      have h2 : ¬ x % 8 = y % 8 := by omega
      simp [h1, h2]; omega

theorem less_irr : ∀ l : List UInt8, Op.bytesLess l l = false
  | [] => rfl
  | a :: l => by simp [Op.bytesLess, less_irr l]

theorem lt_pow {n w : Nat} (hw : 2 ≤ w) (h : n ≤ most w) : n < 8 ^ (w - 1) := by
  have := pow_pos (w - 1)
  unfold most at h; omega

theorem less_octal (m n w : Nat) (hw : 2 ≤ w) (hm : m ≤ most w) (hn : n ≤ most w) : Op.bytesLess (octal m w) (octal n w) = decide (m < n) := by
  rw [octal_digs m w (by omega), octal_digs n w (by omega), less_digs _ _ _ _ (less_irr _), Nat.mod_eq_of_lt (lt_pow hw hm), Nat.mod_eq_of_lt (lt_pow hw hn)]

theorem octal_inj (m n w : Nat) (hw : 2 ≤ w) (hm : m ≤ most w) (hn : n ≤ most w) (h : octal m w = octal n w) : m = n := by
  have h1 := less_octal m n w hw hm hn
  have h2 := less_octal n m w hw hn hm
  rw [h, less_irr] at h1
  rw [h, less_irr] at h2
  have h1 := of_decide_eq_false h1.symm
  have h2 := of_decide_eq_false h2.symm
  omega

theorem eq_octal (m n w : Nat) (hw : 2 ≤ w) (hm : m ≤ most w) (hn : n ≤ most w) : (octal m w == octal n w) = decide (m = n) := by
  by_cases h : m = n
  · subst h; simp
  · have : octal m w ≠ octal n w := fun e => h (octal_inj m n w hw hm hn e)
    simp [h, this]

end Num
