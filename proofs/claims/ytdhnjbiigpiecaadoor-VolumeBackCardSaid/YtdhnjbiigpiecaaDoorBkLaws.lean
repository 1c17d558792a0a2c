/-
  What is sealed is right, and what is bent is not: no walk.
-/
import Derived.Test.YtdhnjbiigpiecaaDoorBkPlain
import Derived.Test.YtdhnjbiigpiecaaDoorNumH
namespace Go.Proofs.YtdhnjbiigpiecaaDoor

/-- the number that a header tells as its sum -/
def toldL (l : List UInt8) : Option Int := rd ((l.drop 148).take 8)
def rightL (l : List UInt8) : Bool := match toldL l with
  | none => false
  | some n => decide (Bk.sum false l = n) || decide (Bk.sum true l = n)

theorem told_seal (l : List UInt8) (h : l.length = 512) : toldL (Bk.sld l) = some (Bk.sum false l) := by
  unfold toldL
  obtain ⟨h1, h2⟩ := Bk.sum_small l h
  rw [Bk.seal_field l h, Num.octal_digs _ _ (by decide), List.append_assoc]
  have := rd_tail (Bk.sum false l).toNat 7 0 ([0] ++ [32]) (by simp) (by decide) (by decide) h1
  rw [← h2]; exact this
theorem right_seal (l : List UInt8) (h : l.length = 512) : rightL (Bk.sld l) = true := by
  unfold rightL
  rw [told_seal l h, Bk.seal_sum false l h]
  simp

/-- One byte out of the sum's field that is another one. -/
theorem field_bent (a b : List UInt8) (c d : UInt8) (h : a.length < 148 ∨ 156 ≤ a.length) : toldL (a ++ d :: b) = toldL (a ++ c :: b) := by
  unfold toldL
  congr 1
  rcases h with h | h
  · have e : ∀ x : UInt8, (a ++ x :: b).drop 148 = b.drop (148 - a.length - 1) := fun x => by
      rw [List.drop_append, List.drop_of_length_le (by omega), List.nil_append, show 148 - a.length = (148 - a.length - 1) + 1 by omega, List.drop_succ_cons]
      congr 1
    rw [e c, e d]
  · have e : ∀ x : UInt8, ((a ++ x :: b).drop 148).take 8 = (a.drop 148).take 8 := fun x => by
      rw [List.drop_append_of_le_length (by omega), List.take_append_of_le_length (by simp; omega)]
    rw [e c, e d]

theorem right_bent (l a b : List UInt8) (c d : UInt8) (hl : l.length = 512) (he : Bk.sld l = a ++ c :: b) (h : a.length < 148 ∨ 156 ≤ a.length) : rightL (a ++ d :: b) = decide (d = c) := by
  by_cases hd : d = c
  · subst hd
    rw [← he, right_seal l hl]; simp
  · rw [decide_eq_false hd]
    have h1 := told_seal l hl
    rw [he] at h1
    have h2 := Bk.seal_sum false l hl
    rw [he] at h2
    unfold rightL
    rw [field_bent a b c d h, h1]
    have b1 := Bk.sum_bent false a b c d
    obtain ⟨k, hk⟩ := Bk.sum_signs (a ++ d :: b) 0
    have hc := Bk.u8_lt c
    have hd' := Bk.u8_lt d
    have hne : c.toNat ≠ d.toNat := fun e => hd (UInt8.toNat_inj.1 e.symm)
    have v1 : Bk.val false a.length c = (c.toNat : Int) := by unfold Bk.val; rw [if_neg (by omega)]; rfl
    have v2 : Bk.val false a.length d = (d.toNat : Int) := by unfold Bk.val; rw [if_neg (by omega)]; rfl
    have hs : Bk.sum true (a ++ d :: b) = Bk.sum false (a ++ d :: b) - 256 * (k : Int) := hk
    rw [h2, v1, v2] at b1
    have n1 : ¬ Bk.sum false (a ++ d :: b) = Bk.sum false l := by omega
    have n2 : ¬ Bk.sum true (a ++ d :: b) = Bk.sum false l := by omega
    simp [n1, n2]

/-- Two bytes out of the sum's field that change their places. -/
theorem right_swap (l a b e : List UInt8) (c d : UInt8) (hl : l.length = 512) (he : Bk.sld l = a ++ c :: (b ++ d :: e)) (h1 : a.length < 148) (h2 : 156 ≤ a.length + 1 + b.length) :
    rightL (a ++ d :: (b ++ c :: e)) = true := by
  have t1 := told_seal l hl
  have s1 := Bk.seal_sum false l hl
  rw [he] at t1 s1
  have f1 := field_bent a (b ++ d :: e) c d (.inl h1)
  have f2 := field_bent (a ++ d :: b) e d c (.inr (by simp; omega))
  have b1 := Bk.sum_bent false a (b ++ d :: e) c d
  have b2 := Bk.sum_bent false (a ++ d :: b) e d c
  simp only [List.append_assoc, List.cons_append] at f2 b2
  have v1 : ∀ x, Bk.val false a.length x = (x.toNat : Int) := fun x => by unfold Bk.val; rw [if_neg (by omega)]; rfl
  have v2 : ∀ x, Bk.val false (a ++ d :: b).length x = (x.toNat : Int) := fun x => by unfold Bk.val; rw [if_neg (by simp; omega)]; rfl
  rw [v1, v1] at b1
  rw [v2, v2] at b2
  unfold rightL
  rw [f2, f1, t1]
  have : Bk.sum false (a ++ d :: (b ++ c :: e)) = Bk.sum false l := by omega
  simp [this]

end Go.Proofs.YtdhnjbiigpiecaaDoor
