/-
  Bytes shared out by a mask: no walk.
-/
import Derived.Test.YtighfpcnmgplcaaDoorBkPlain
namespace Bk

/-- the bytes whose places m tells are 0 -/
def za (m : Nat → Bool) : Nat → List UInt8 → List UInt8
  | _, [] => []
  | i, c :: l => (if m i then 0 else c) :: za m (i + 1) l
theorem za_len (m : Nat → Bool) (l : List UInt8) : ∀ i, (za m i l).length = l.length := by
  induction l with
  | nil => intro i; rfl
  | cons c l ih => intro i; simp [za, ih]
theorem za_get (m : Nat → Bool) (l : List UInt8) : ∀ i k, (za m i l)[k]? = l[k]?.map fun c => if m (i + k) then 0 else c := by
  induction l with
  | nil => intro i k; simp [za]
  | cons c l ih =>
    intro i k
    cases k with
    | zero => simp [za]
    | succ k => simp only [za, List.getElem?_cons_succ]; rw [ih, show i + 1 + k = i + (k + 1) by omega]
theorem za_congr (m n : Nat → Bool) (l : List UInt8) (h : ∀ j, j < l.length → m j = n j) : za m 0 l = za n 0 l := by
  apply List.ext_getElem?
  intro k
  rw [za_get, za_get, Nat.zero_add]
  by_cases hk : k < l.length
  · rw [h k hk]
  · rw [List.getElem?_eq_none (by omega)]; rfl
theorem za_none (l : List UInt8) : za (fun _ => false) 0 l = l := by
  apply List.ext_getElem?
  intro k
  rw [za_get]; simp
/-- the places below i that m tells -/
def upto (i : Nat) (m : Nat → Bool) : Nat → Bool := fun j => decide (j < i) && m j
theorem za_hit (m : Nat → Bool) (l : List UInt8) (i : Nat) (h : m i = true) : (za (upto i m) 0 l).set i 0 = za (upto (i + 1) m) 0 l := by
  apply List.ext_getElem?
  intro k
  rw [List.getElem?_set, za_get, za_get, za_len, Nat.zero_add]
  by_cases hk : i = k
  · subst hk
    by_cases hl : i < l.length
    · simp [upto, h, hl]
    · simp [hl]
  · have : upto i m k = upto (i + 1) m k := by
      unfold upto
      congr 1
      have : k < i ↔ k < i + 1 := by omega
      simp only [this]
    simp [hk, this]
theorem za_miss (m : Nat → Bool) (l : List UInt8) (i : Nat) (h : m i = false) : za (upto i m) 0 l = za (upto (i + 1) m) 0 l := by
  refine za_congr _ _ l fun j _ => ?_
  unfold upto
  by_cases hj : j = i
  · subst hj; simp [h]
  · congr 1
    have : j < i ↔ j < i + 1 := by omega
    simp only [this]

def ins : Nat → List UInt8 → Int
  | _, [] => 0
  | i, _ :: l => (if 148 ≤ i ∧ i < 156 then 32 else 0) + ins (i + 1) l
theorem ins_len (l : List UInt8) : ∀ i, ins i l = ins i (List.replicate l.length 0) := by
  induction l with
  | nil => intro i; rfl
  | cons c l ih => intro i; simp only [ins, List.length_cons, List.replicate_succ]; rw [ih]
theorem ins_512 : ins 0 (List.replicate 512 0) = 256 := by decide +kernel
theorem val_zero (sg : Bool) (i : Nat) : val sg i 0 = if 148 ≤ i ∧ i < 156 then 32 else 0 := by
  unfold val i8
  split
  · rfl
  · split <;> rfl
theorem sum_share (sg : Bool) (m n : Nat → Bool) (l : List UInt8) : ∀ i, (∀ j, i ≤ j → j < i + l.length → n j = !m j) → sumFrom sg i (za m i l) + sumFrom sg i (za n i l) = sumFrom sg i l + ins i l := by
  induction l with
  | nil => intro i _; rfl
  | cons c l ih =>
    intro i h
    have h1 := ih (i + 1) (fun j h1 h2 => h j (by omega) (by simp only [List.length_cons]; omega))
    have h0 := h i (Nat.le_refl _) (by simp only [List.length_cons]; omega)
    simp only [za, sumFrom, ins]
    rw [h0]
    have v0 := val_zero sg i
    cases m i
    · simp only [Bool.false_eq_true, if_false, Bool.not_false, if_true]
      rw [v0]; omega
    · simp only [if_true, Bool.not_true, Bool.false_eq_true, if_false]
      rw [v0]; omega
theorem share_law (sg : Bool) (m : Nat → Bool) (l : List UInt8) (h : l.length = 512) : sum sg l + 256 = sum sg (za (upto 512 m) 0 l) + sum sg (za (upto 512 fun j => !m j) 0 l) := by
  have h1 := sum_share sg (upto 512 m) (upto 512 fun j => !m j) l 0 (fun j _ h2 => by
    unfold upto
    rw [decide_eq_true (by omega : j < 512)]; simp)
  rw [ins_len, h, ins_512] at h1
  unfold sum
  omega

theorem sum_bd (sg : Bool) (l : List UInt8) : ∀ i, -255 * (l.length : Int) ≤ sumFrom sg i l ∧ sumFrom sg i l ≤ 255 * (l.length : Int) := by
  induction l with
  | nil => intro i; simp [sumFrom]
  | cons c l ih =>
    intro i
    have := ih (i + 1)
    have := val_bd sg i c
    simp only [sumFrom, List.length_cons]
    omega

end Bk
