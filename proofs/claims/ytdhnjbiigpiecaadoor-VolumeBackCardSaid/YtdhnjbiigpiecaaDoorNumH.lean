/-
  What is around a number is nothing: no walk.
-/
import Derived.Test.YtdhnjbiigpiecaaDoorNumR
import Derived.Test.YtdhnjbiigpiecaaDoorNumLaws
import Derived.Lib.Repeat
namespace Go.Proofs.YtdhnjbiigpiecaaDoor
open Go

theorem digs_mem (n k : Nat) : ∀ x ∈ Num.digs n k, 48 ≤ x.toNat ∧ x.toNat ≤ 55 := by
  induction k with
  | zero => intro x h; cases h
  | succ k ih =>
    intro x h
    rw [Num.digs] at h
    rcases List.mem_cons.1 h with rfl | h
    · rw [Num.digit_toNat]; omega
    · exact ih x h

theorem u8_not (x c : UInt8) (h : x.toNat ≠ c.toNat) : (x == c) = false := beq_eq_false_iff_ne.2 fun e => h (by rw [e])

theorem drop_all (p : UInt8 → Bool) (l : List UInt8) (hl : ∀ x ∈ l, p x = false) (t : List UInt8) (ht : ∀ x ∈ t, p x = true) : (t ++ l).dropWhile p = l := by
  induction t with
  | nil =>
    cases l with
    | nil => rfl
    | cons x l => simp [hl x (List.mem_cons_self ..)]
  | cons c t ih => rw [List.cons_append, List.dropWhile_cons_of_pos (ht c (List.mem_cons_self ..)), ih fun x hx => ht x (List.mem_cons_of_mem _ hx)]

theorem trimmed_tail (n k i : Nat) (t : List UInt8) (ht : ∀ x ∈ t, x = 32 ∨ x = 0) (hk : 1 ≤ k) : trimmed (List.replicate i 32 ++ Num.digs n k ++ t) = Num.digs n k := by
  obtain ⟨k, rfl⟩ : ∃ k', k = k' + 1 := ⟨k - 1, by omega⟩
  have hd := digs_mem n (k + 1)
  unfold trimmed
  have e1 : Lib.trimLeftB (List.replicate i 32 ++ Num.digs n (k + 1) ++ t) 32 = Num.digs n (k + 1) ++ t := by
    unfold Lib.trimLeftB
    rw [List.append_assoc]
    have h1 : ∀ (l : List UInt8), (List.replicate i 32 ++ l).dropWhile (fun x => x == (32 : UInt8)) = l.dropWhile (fun x => x == (32 : UInt8)) := by
      intro l
      induction i with
      | zero => rfl
      | succ i ih => rw [List.replicate_succ, List.cons_append, List.dropWhile_cons_of_pos (by decide), ih]
    rw [h1, Num.digs, List.cons_append, List.dropWhile_cons_of_neg]
    rw [u8_not _ _ (by rw [Num.digit_toNat]; have : (32 : UInt8).toNat = 32 := rfl; omega)]
    decide
  rw [e1]
  unfold Lib.trimRightS
  rw [List.reverse_append, drop_all, List.reverse_reverse]
  · intro x hx
    have := hd x (List.mem_reverse.1 hx)
    have h1 := u8_not x 32 (by have : (32 : UInt8).toNat = 32 := rfl; omega)
    have h2 := u8_not x 0 (by have : (0 : UInt8).toNat = 0 := rfl; omega)
    simp [List.contains, List.elem, h1, h2]
  · intro x hx
    rcases ht x (List.mem_reverse.1 hx) with rfl | rfl <;> decide

theorem readGo_digs (n k : Nat) (hn : n < 1152921504606846976) : readGo (Num.digs n k) (n / 8 ^ k) = some (some n) := by
  induction k with
  | zero => simp [Num.digs, readGo]
  | succ k ih =>
    have hle : n / 8 ^ (k + 1) ≤ n := Nat.div_le_self _ _
    rw [Num.digs, readGo, Num.digit_toNat, if_neg (by omega), if_neg (by omega)]
    have e : 8 * (n / 8 ^ (k + 1)) + (48 + n / 8 ^ k % 8 - 48) = n / 8 ^ k := by
      rw [Nat.pow_succ, ← Nat.div_div_eq_div_mul]
      omega
    rw [e, ih]

theorem read_tail (n W i : Nat) (t : List UInt8) (ht : ∀ x ∈ t, x = 32 ∨ x = 0) (hW : 2 ≤ W) (hW2 : W ≤ 20) (hn : n ≤ Num.most W) :
    readGo (trimmed (List.replicate i 32 ++ Num.digs n (W - 1) ++ t)) 0 = some (some n) := by
  rw [trimmed_tail n (W - 1) i t ht (by omega)]
  have hp := Num.pow_le (W - 1) (by omega)
  have hl := Num.lt_pow hW hn
  have := readGo_digs n (W - 1) (by omega)
  rw [Nat.div_eq_of_lt hl] at this
  exact this

theorem rd_tail (n W i : Nat) (t : List UInt8) (ht : ∀ x ∈ t, x = 32 ∨ x = 0) (hW : 2 ≤ W) (hW2 : W ≤ 20) (hn : n ≤ Num.most W) :
    rd (List.replicate i 32 ++ Num.digs n (W - 1) ++ t) = some (n : Int) := by
  have h := read_tail n W i t ht hW hW2 hn
  have hh : ∃ c l, List.replicate i 32 ++ Num.digs n (W - 1) ++ t = c :: l ∧ c.toNat < 128 := by
    cases i with
    | zero =>
      obtain ⟨k, hk⟩ : ∃ k, W - 1 = k + 1 := ⟨W - 2, by omega⟩
      rw [hk, Num.digs]
      exact ⟨_, _, rfl, by rw [Num.digit_toNat]; omega⟩
    | succ i => exact ⟨32, _, rfl, by decide⟩
  obtain ⟨c, l, e, hc⟩ := hh
  rw [e] at h ⊢
  simp only [rd]
  rw [if_pos hc, h]

theorem rd_octal (n W : Nat) (hW : 2 ≤ W) (hW2 : W ≤ 20) (hn : n ≤ Num.most W) : rd (Num.octal n W) = some (n : Int) := by
  have := rd_tail n W 0 [0] (by simp) hW hW2 hn
  rw [Num.octal_digs n W (by omega)]
  exact this

end Go.Proofs.YtdhnjbiigpiecaaDoor
