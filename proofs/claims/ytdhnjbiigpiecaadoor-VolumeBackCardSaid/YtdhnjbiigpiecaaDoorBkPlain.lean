/-
  Blocks and the sums of headers: plain lists of bytes, no program in sight.
-/
import Derived.Test.YtdhnjbiigpiecaaDoorNumLaws
namespace Bk

/-- how many bytes are missing up to the end of a block -/
def pad (n : Nat) : Nat := (512 - n % 512) % 512
theorem pad_lt (n : Nat) : pad n < 512 := Nat.mod_lt _ (by decide)
theorem pad_sum (n : Nat) : (n + pad n) % 512 = 0 := by unfold pad; omega
theorem pad_zero (n : Nat) (h : n % 512 = 0) : pad n = 0 := by unfold pad; omega
def fill (l : List UInt8) : List UInt8 := l ++ List.replicate (pad l.length) 0
theorem fill_len (l : List UInt8) : (fill l).length = l.length + pad l.length := by simp [fill]
theorem fill_fill (l : List UInt8) : fill (fill l) = fill l := by
  have h : pad (fill l).length = 0 := pad_zero _ (by rw [fill_len]; exact pad_sum _)
  show fill l ++ List.replicate (pad (fill l).length) 0 = fill l
  rw [h]; simp
theorem pad_add (m n : Nat) (h : m % 512 = 0) : pad (m + n) = pad n := by unfold pad; omega
theorem fill_two (l m : List UInt8) : fill (fill l ++ m) = fill l ++ fill m := by
  have h : pad (fill l ++ m).length = pad m.length := by
    rw [List.length_append]; exact pad_add _ _ (by rw [fill_len]; exact pad_sum _)
  show fill l ++ m ++ List.replicate (pad (fill l ++ m).length) 0 = fill l ++ (m ++ List.replicate (pad m.length) 0)
  rw [h, List.append_assoc]

/-- a byte with a sign -/
def i8 (c : UInt8) : Int := if c.toNat < 128 then (c.toNat : Int) else (c.toNat : Int) - 256
/-- what byte i counts -/
def val (sg : Bool) (i : Nat) (c : UInt8) : Int := if 148 ≤ i ∧ i < 156 then 32 else if sg then i8 c else (c.toNat : Int)
def sumFrom (sg : Bool) : Nat → List UInt8 → Int
  | _, [] => 0
  | i, c :: l => val sg i c + sumFrom sg (i + 1) l
def sum (sg : Bool) (l : List UInt8) : Int := sumFrom sg 0 l

theorem u8_lt (c : UInt8) : c.toNat < 256 := c.toNat_lt
theorem val_lo (i : Nat) (c : UInt8) : 0 ≤ val false i c ∧ val false i c ≤ 255 := by
  have := u8_lt c
  unfold val; split <;> simp <;> omega
theorem val_bd (sg : Bool) (i : Nat) (c : UInt8) : -255 ≤ val sg i c ∧ val sg i c ≤ 255 := by
  have := u8_lt c
  unfold val i8; split
  · omega
  · split
    · split <;> omega
    · omega
theorem sum_lo (l : List UInt8) : ∀ i, 0 ≤ sumFrom false i l ∧ sumFrom false i l ≤ 255 * l.length := by
  induction l with
  | nil => intro i; simp [sumFrom]
  | cons c l ih =>
    intro i
    have := ih (i + 1)
    have := val_lo i c
    simp only [sumFrom, List.length_cons]
    omega
theorem sum_append (sg : Bool) (a b : List UInt8) : ∀ i, sumFrom sg i (a ++ b) = sumFrom sg i a + sumFrom sg (i + a.length) b := by
  induction a with
  | nil => intro i; simp [sumFrom]
  | cons c a ih =>
    intro i
    simp only [List.cons_append, sumFrom, List.length_cons]
    rw [ih (i + 1), show i + 1 + a.length = i + (a.length + 1) by omega]
    omega
theorem sum_mid (sg : Bool) (l : List UInt8) : ∀ i, 148 ≤ i → i + l.length ≤ 156 → sumFrom sg i l = 32 * l.length := by
  induction l with
  | nil => intro i _ _; simp [sumFrom]
  | cons c l ih =>
    intro i h1 h2
    simp only [List.length_cons] at h2 ⊢
    have := ih (i + 1) (by omega) (by omega)
    simp only [sumFrom, val]
    rw [if_pos (by omega), this]; omega

/-- A sum is that of what is around the field of the sum. -/
theorem sum_parts (sg : Bool) (l : List UInt8) (h : l.length = 512) : sum sg l = sumFrom sg 0 (l.take 148) + 256 + sumFrom sg 156 (l.drop 156) := by
  have e : l = l.take 148 ++ ((l.drop 148).take 8 ++ l.drop 156) := by
    have : l.drop 156 = (l.drop 148).drop 8 := by rw [List.drop_drop]
    rw [this, List.take_append_drop, List.take_append_drop]
  have e2 : sum sg l = sum sg (l.take 148 ++ ((l.drop 148).take 8 ++ l.drop 156)) := congrArg (sum sg) e
  rw [e2]
  unfold sum
  rw [sum_append, sum_append]
  have h1 : (l.take 148).length = 148 := by simp; omega
  have h2 : ((l.drop 148).take 8).length = 8 := by simp; omega
  rw [h1, h2, sum_mid sg _ 148 (by omega) (by rw [h2]; omega), h2]
  simp only [Nat.zero_add, Nat.reduceAdd]
  omega

/-- The sums with and without signs differ by some 256. -/
theorem sum_signs (l : List UInt8) : ∀ i, ∃ k : Nat, sumFrom true i l = sumFrom false i l - 256 * (k : Int) := by
  induction l with
  | nil => intro i; exact ⟨0, by simp [sumFrom]⟩
  | cons c l ih =>
    intro i
    obtain ⟨k, hk⟩ := ih (i + 1)
    have hv : ∃ j : Nat, val true i c = val false i c - 256 * (j : Int) := by
      unfold val i8
      by_cases h : 148 ≤ i ∧ i < 156
      · exact ⟨0, by rw [if_pos h, if_pos h]; omega⟩
      · by_cases h2 : c.toNat < 128
        · exact ⟨0, by rw [if_neg h, if_neg h]; simp [h2]⟩
        · exact ⟨1, by rw [if_neg h, if_neg h]; simp [h2]⟩
    obtain ⟨j, hj⟩ := hv
    exact ⟨j + k, by simp only [sumFrom]; rw [hk, hj]; omega⟩

/-- One byte that is another one. -/
theorem sum_bent (sg : Bool) (a b : List UInt8) (c d : UInt8) : sum sg (a ++ d :: b) = sum sg (a ++ c :: b) - val sg a.length c + val sg a.length d := by
  unfold sum
  rw [sum_append, sum_append]
  simp only [sumFrom, Nat.zero_add]
  omega

def sld (l : List UInt8) : List UInt8 := l.take 148 ++ Num.octal (sum false l).toNat 7 ++ [32] ++ l.drop 156
theorem octal_len (n w : Nat) : (Num.octal n w).length = w := by simp [Num.octal]
theorem seal_len (l : List UInt8) (h : l.length = 512) : (sld l).length = 512 := by
  unfold sld; simp [octal_len]; omega
theorem seal_take (l : List UInt8) (h : l.length = 512) : (sld l).take 148 = l.take 148 := by
  unfold sld
  rw [List.append_assoc, List.append_assoc, List.take_append_of_le_length (by simp; omega)]
  exact List.take_of_length_le (by simp; omega)
theorem seal_drop (l : List UInt8) (h : l.length = 512) : (sld l).drop 156 = l.drop 156 := by
  unfold sld
  rw [List.drop_append_of_le_length (by simp [octal_len]; omega)]
  rw [List.drop_of_length_le (by simp [octal_len]; omega)]
  rfl
theorem seal_field (l : List UInt8) (h : l.length = 512) : ((sld l).drop 148).take 8 = Num.octal (sum false l).toNat 7 ++ [32] := by
  unfold sld
  rw [List.append_assoc, List.append_assoc, List.drop_append_of_le_length (by simp; omega), List.drop_of_length_le (by simp; omega), List.nil_append, ← List.append_assoc,
    List.take_append_of_le_length (by simp [octal_len]), List.take_of_length_le (by simp [octal_len])]
theorem seal_sum (sg : Bool) (l : List UInt8) (h : l.length = 512) : sum sg (sld l) = sum sg l := by
  rw [sum_parts sg l h, sum_parts sg _ (seal_len l h), seal_take l h, seal_drop l h]
theorem sum_small (l : List UInt8) (h : l.length = 512) : (sum false l).toNat ≤ Num.most 7 ∧ ((sum false l).toNat : Int) = sum false l := by
  have := sum_lo l 0
  unfold sum
  have e : Num.most 7 = 262143 := by decide
  rw [e]; omega

end Bk
