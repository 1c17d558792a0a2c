/-
  Days and dates at every day, and seconds: no program in sight.
-/
import Derived.Test.YtgkgjlcbappbkaaDoorCalPlain
namespace Cal
/-- Year, month, day of a day since 1970. -/
def era (n : Int) : Int := (n + 719468) / 146097
def plc (n : Int) : Nat := ((n + 719468) % 146097).toNat
def yz (n : Int) : Int := (civ (plc n)).1 + 400 * era n
def mz (n : Int) : Nat := (civ (plc n)).2.1
def dz (n : Int) : Nat := (civ (plc n)).2.2
/-- Days of a month of any year. -/
def dimZ (y : Int) (m : Nat) : Nat := dim (y % 400).toNat m
theorem plc_lt (n : Int) : plc n < 146097 := by unfold plc; omega
theorem plc_eq (n : Int) : ((plc n : Nat) : Int) = (n + 719468) % 146097 := by unfold plc; omega
theorem civ_le {i : Nat} (h : i < 146097) : (civ i).1 ≤ 400 := by
  obtain ⟨y, d, hy, _, _, _, _, e⟩ := civ_at h
  rw [e]; unfold ymd; split <;> simp <;> omega
theorem dimZ_civ (y : Nat) (e : Int) (m : Nat) : dimZ ((y : Int) + 400 * e) m = dim y m := by
  unfold dimZ
  have h : (((y : Int) + 400 * e) % 400).toNat = y % 400 := by omega
  rw [h]
  have h2 := dim_400 (y % 400) (y / 400) m
  rw [← h2]
  congr 1; omega
theorem date_vld (n : Int) : 1 ≤ mz n ∧ mz n ≤ 12 ∧ 1 ≤ dz n ∧ dz n ≤ dimZ (yz n) (mz n) := by
  obtain ⟨a, b, c, d⟩ := civ_vld (plc_lt n)
  refine ⟨a, b, c, ?_⟩
  unfold yz
  rw [dimZ_civ]; exact d
/-- The next date. -/
def Next (y : Int) (m d : Nat) (y2 : Int) (m2 d2 : Nat) : Prop :=
  if d + 1 ≤ dimZ y m then y2 = y ∧ m2 = m ∧ d2 = d + 1 else if m + 1 ≤ 12 then y2 = y ∧ m2 = m + 1 ∧ d2 = 1 else y2 = y + 1 ∧ m2 = 1 ∧ d2 = 1
theorem date_next (n : Int) : Next (yz n) (mz n) (dz n) (yz (n + 1)) (mz (n + 1)) (dz (n + 1)) := by
  have hp := plc_eq n
  have hp1 := plc_eq (n + 1)
  have hl := plc_lt n
  have hl1 := plc_lt (n + 1)
  have key : ∀ (x : Dt) (e e2 : Int) (x2 : Dt), (((next x).1 : Nat) : Int) + 400 * e = (x2.1 : Nat) + 400 * e2 → (next x).2 = x2.2 → Next (((x.1 : Nat) : Int) + 400 * e) x.2.1 x.2.2 ((x2.1 : Nat) + 400 * e2) x2.2.1 x2.2.2 := by
    intro x e e2 x2 h1 h2
    unfold Next
    rw [dimZ_civ]
    unfold next at h1 h2
    split
    · rename_i h; rw [if_pos h] at h1 h2
      exact ⟨by rw [← h1], by rw [← h2], by rw [← h2]⟩
    · rename_i h; rw [if_neg h] at h1 h2
      split
      · rename_i h'; rw [if_pos h'] at h1 h2
        exact ⟨by rw [← h1], by rw [← h2], by rw [← h2]⟩
      · rename_i h'; rw [if_neg h'] at h1 h2
        exact ⟨by rw [← h1]; simp; omega, by rw [← h2], by rw [← h2]⟩
  rcases Nat.lt_or_ge (plc n + 1) 146097 with h | h
  · have e1 : plc (n + 1) = plc n + 1 := by unfold era plc at *; omega
    have e2 : era (n + 1) = era n := by unfold era plc at *; omega
    have hn := civ_next h
    unfold yz mz dz
    rw [e1, e2, ← hn]
    exact key _ _ _ _ rfl rfl
  · have e0 : plc n = 146096 := by omega
    have e1 : plc (n + 1) = 0 := by unfold era plc at *; omega
    have e2 : era (n + 1) = era n + 1 := by unfold era plc at *; omega
    unfold yz mz dz
    rw [e0, e1, e2]
    refine key _ _ _ _ ?_ ?_
    · rw [civ_wrap]; simp; omega
    · rw [civ_wrap]
theorem date_400 (n : Int) : yz (n + 146097) = yz n + 400 ∧ mz (n + 146097) = mz n ∧ dz (n + 146097) = dz n := by
  have e1 : plc (n + 146097) = plc n := by unfold plc; omega
  have e2 : era (n + 146097) = era n + 1 := by unfold era; omega
  unfold yz mz dz
  rw [e1, e2]
  exact ⟨by omega, rfl, rfl⟩

/-- Three numbers one against three, in their order. -/
def Lt3 (a b c x y z : Int) : Prop := a < x ∨ (a = x ∧ (b < y ∨ (b = y ∧ c < z)))
theorem Lt3.trans {a b c x y z u v w : Int} (h : Lt3 a b c x y z) (k : Lt3 x y z u v w) : Lt3 a b c u v w := by unfold Lt3 at *; omega
theorem next_lt {y : Int} {m d : Nat} {y2 : Int} {m2 d2 : Nat} (h : Next y m d y2 m2 d2) : Lt3 y m d y2 m2 d2 := by
  unfold Next at h
  unfold Lt3
  split at h
  · omega
  · split at h <;> omega
theorem date_lt (n : Int) (k : Nat) : Lt3 (yz n) (mz n) (dz n) (yz (n + (k + 1 : Nat))) (mz (n + (k + 1 : Nat))) (dz (n + (k + 1 : Nat))) := by
  induction k with
  | zero => exact next_lt (date_next n)
  | succ k ih =>
    have h := next_lt (date_next (n + (k + 1 : Nat)))
    have e : n + (k + 1 : Nat) + 1 = n + (k + 1 + 1 : Nat) := by omega
    rw [e] at h
    exact ih.trans h
theorem date_rises {n k : Int} (h : n < k) : Lt3 (yz n) (mz n) (dz n) (yz k) (mz k) (dz k) := by
  obtain ⟨j, hj⟩ : ∃ j : Nat, k = n + (j + 1 : Nat) := ⟨(k - n - 1).toNat, by omega⟩
  rw [hj]; exact date_lt n j

/-- A time's day, and the seconds of the day. -/
def dayOf (s : Int) : Int := s / 86400
def restOf (s : Int) : Int := s % 86400
/-- The six numbers of a time. -/
def date (s : Int) : List Int := [yz (dayOf s), mz (dayOf s), dz (dayOf s), restOf s / 3600, restOf s / 60 % 60, restOf s % 60]
def cmpL : List Int → List Int → Int
  | [], [] => 0
  | [], _ :: _ => -1
  | _ :: _, [] => 1
  | a :: r, b :: q => if a < b then -1 else if b < a then 1 else cmpL r q
theorem cmp_self (l : List Int) : cmpL l l = 0 := by
  induction l with
  | nil => rfl
  | cons a r ih => unfold cmpL; rw [if_neg (Int.lt_irrefl a), if_neg (Int.lt_irrefl a)]; exact ih
theorem date_cmp {s t : Int} (h : s < t) : cmpL (date s) (date t) = -1 ∧ cmpL (date t) (date s) = 1 := by
  have key : Lt3 (yz (dayOf s)) (mz (dayOf s)) (dz (dayOf s)) (yz (dayOf t)) (mz (dayOf t)) (dz (dayOf t)) ∨ (dayOf s = dayOf t ∧ Lt3 (restOf s / 3600) (restOf s / 60 % 60) (restOf s % 60) (restOf t / 3600) (restOf t / 60 % 60) (restOf t % 60)) := by
    by_cases hd : dayOf s < dayOf t
    · exact .inl (date_rises hd)
    · right
      have e : dayOf s = dayOf t := by unfold dayOf at *; omega
      refine ⟨e, ?_⟩
      have h1 : restOf s < restOf t := by unfold dayOf restOf at *; omega
      have h2 : 0 ≤ restOf s := by unfold restOf; omega
      have h3 : restOf t < 86400 := by unfold restOf; omega
      unfold Lt3
      omega
  unfold date
  rcases key with h | ⟨e, h⟩
  · unfold Lt3 at h
    rcases h with h | ⟨h1, h | ⟨h2, h⟩⟩
    · exact ⟨by simp only [cmpL]; rw [if_pos h], by simp only [cmpL]; rw [if_neg (by omega), if_pos h]⟩
    · exact ⟨by simp only [cmpL]; rw [if_neg (by omega), if_neg (by omega), if_pos h], by simp only [cmpL]; rw [if_neg (by omega), if_neg (by omega), if_neg (by omega), if_pos h]⟩
    · exact ⟨by simp only [cmpL]; rw [if_neg (by omega), if_neg (by omega), if_neg (by omega), if_neg (by omega), if_pos h], by simp only [cmpL]; rw [if_neg (by omega), if_neg (by omega), if_neg (by omega), if_neg (by omega), if_neg (by omega), if_pos h]⟩
  · rw [e]
    unfold Lt3 at h
    simp only [cmpL, Int.lt_irrefl, if_false]
    rcases h with h | ⟨h1, h | ⟨h2, h⟩⟩
    · exact ⟨by rw [if_pos h], by rw [if_neg (by omega), if_pos h]⟩
    · exact ⟨by rw [if_neg (by omega), if_neg (by omega), if_pos h], by rw [if_neg (by omega), if_neg (by omega), if_neg (by omega), if_pos h]⟩
    · exact ⟨by rw [if_neg (by omega), if_neg (by omega), if_neg (by omega), if_neg (by omega), if_pos h], by rw [if_neg (by omega), if_neg (by omega), if_neg (by omega), if_neg (by omega), if_neg (by omega), if_pos h]⟩
end Cal
