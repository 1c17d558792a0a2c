/-
  Unlike numbers, unlike fields.
-/
import Derived.Test.YtdhnjbiigpiecaaDoorNumW
namespace Go.Proofs.YtdhnjbiigpiecaaDoor

def Wr (n : Int) (W : Nat) (l : List UInt8) : Prop := (∃ m : Nat, n = m ∧ m ≤ Num.most W ∧ l = Num.octal m W) ∨ (InBin n W ∧ l = binLaw n W)

theorem wide_of_bin (n : Int) (W : Nat) (h2 : W ≤ 20) (hn1 : -9223372036854775808 ≤ n) (hn2 : n ≤ 9223372036854775807) (h : InBin n W) : wide (binLaw n W) = some n := by
  obtain ⟨h8, _, hr⟩ := h
  obtain ⟨k, rfl⟩ : ∃ k, W = k + 1 := ⟨W - 1, by omega⟩
  refine wide_bin n hn1 hn2 k ?_
  by_cases hk : k = 7
  · subst hk
    have := hr rfl
    rw [show (256 : Int) ^ 7 = 72057594037927936 from rfl]
    omega
  · have h64 : (256 : Int) ^ 8 ≤ 256 ^ k := by
      have := Nat.pow_le_pow_right (n := 256) (by decide) (show 8 ≤ k by omega)
      exact Int.ofNat_le.2 this
    rw [show (256 : Int) ^ 8 = 18446744073709551616 from rfl] at h64
    omega

theorem octal_head (m W : Nat) (h : 2 ≤ W) : ∃ c l, Num.octal m W = c :: l ∧ c.toNat < 128 := by
  rw [Num.octal_digs m W (by omega)]
  obtain ⟨k, hk⟩ : ∃ k, W - 1 = k + 1 := ⟨W - 2, by omega⟩
  rw [hk]
  exact ⟨_, _, rfl, by rw [Num.digit_toNat]; omega⟩

theorem bin_head (n : Int) (W : Nat) (h : 1 ≤ W) : ∃ c l, binLaw n W = c :: l ∧ 128 ≤ c.toNat := by
  obtain ⟨k, rfl⟩ : ∃ k, W = k + 1 := ⟨W - 1, by omega⟩
  rw [binLaw_cons]
  exact ⟨_, _, rfl, by split <;> decide⟩

theorem oct_ne_bin (m W : Nat) (n : Int) (h : 2 ≤ W) : Num.octal m W ≠ binLaw n W := fun e => by
  obtain ⟨c, l, h1, h2⟩ := octal_head m W h
  obtain ⟨d, l', h3, h4⟩ := bin_head n W (by omega)
  rw [h1, h3] at e
  have := (List.cons.inj e).1
  rw [this] at h2
  omega

theorem wr_one (a b : Int) (W : Nat) (s t : List UInt8) (h1 : 2 ≤ W) (h2 : W ≤ 20) (ha1 : -9223372036854775808 ≤ a) (ha2 : a ≤ 9223372036854775807) (hb1 : -9223372036854775808 ≤ b) (hb2 : b ≤ 9223372036854775807)
    (hs : Wr a W s) (ht : Wr b W t) : s = t ↔ a = b := by
  rcases hs with ⟨m, rfl, hm, rfl⟩ | ⟨hA, rfl⟩
  · rcases ht with ⟨n, rfl, hn, rfl⟩ | ⟨hB, rfl⟩
    · constructor
      · intro e; rw [Num.octal_inj m n W h1 hm hn e]
      · intro e; rw [show m = n by omega]
    · constructor
      · intro e; exact absurd e (oct_ne_bin m W b h1)
      · intro e; have := hB.2.1; omega
  · rcases ht with ⟨n, rfl, hn, rfl⟩ | ⟨hB, rfl⟩
    · constructor
      · intro e; exact absurd e.symm (oct_ne_bin n W a h1)
      · intro e; have := hA.2.1; omega
    · constructor
      · intro e
        have e1 := wide_of_bin a W h2 ha1 ha2 hA
        have e2 := wide_of_bin b W h2 hb1 hb2 hB
        rw [e, e2] at e1
        exact (Option.some.inj e1).symm
      · intro e; rw [e]

end Go.Proofs.YtdhnjbiigpiecaaDoor
