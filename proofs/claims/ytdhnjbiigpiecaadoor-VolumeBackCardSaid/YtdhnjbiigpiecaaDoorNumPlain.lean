/-
  Numbers in fields: plain lists of bytes, no program in sight.
-/
namespace Num

/-- the greatest octal number of a field -/
def most (w : Nat) : Nat := 8 ^ (w - 1) - 1

theorem pow_le (k : Nat) (h : k ≤ 19) : 8 ^ k ≤ 144115188075855872 := by
  have : (8 : Nat) ^ k ≤ 8 ^ 19 := Nat.pow_le_pow_right (by omega) h
  omega
theorem pow_pos (k : Nat) : 1 ≤ 8 ^ k := Nat.pos_of_ne_zero (by simp)

/-- digit j of a field of w bytes -/
def dig (n w j : Nat) : Nat := if j + 1 = w then 0 else 48 + n / 8 ^ (w - 2 - j) % 8
def octal (n w : Nat) : List UInt8 := (List.range w).map fun j => (dig n w j).toUInt8

theorem dig_lt (n w j : Nat) : dig n w j < 256 := by unfold dig; split <;> omega

end Num
