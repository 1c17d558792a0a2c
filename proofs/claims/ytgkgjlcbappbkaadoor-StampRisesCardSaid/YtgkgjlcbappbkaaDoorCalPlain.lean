/-
  Days and dates, in plain words: no program in sight.
-/
import Derived.Test.YtgkgjlcbappbkaaDoorBase
namespace Cal
/-- Days before year y of an era (years begin in March). -/
def f (y : Nat) : Nat := 365 * y + y / 4 - y / 100 + y / 400
def lp (y : Nat) : Nat := if y % 4 = 0 ∧ (y % 100 ≠ 0 ∨ y % 400 = 0) then 1 else 0
theorem f_succ (y : Nat) : f (y + 1) = f y + 365 + lp (y + 1) := by
  unfold f lp
  by_cases h4 : (y + 1) % 4 = 0
  · by_cases h100 : (y + 1) % 100 = 0
    · by_cases h400 : (y + 1) % 400 = 0
      · rw [if_pos ⟨h4, .inr h400⟩]; omega
      · rw [if_neg (by rintro ⟨_, h | h⟩ <;> contradiction)]; omega
    · rw [if_pos ⟨h4, .inl h100⟩]; omega
  · rw [if_neg (fun h => h4 h.1)]; omega
theorem lp_le (y : Nat) : lp y ≤ 1 := by unfold lp; split <;> omega
theorem f_lt (y : Nat) : f y < f (y + 1) := by rw [f_succ]; omega
theorem f_mono {a b : Nat} (h : a ≤ b) : f a ≤ f b := by
  induction b with
  | zero => rw [Nat.le_zero.1 h]; exact Nat.le_refl _
  | succ b ih =>
    rcases Nat.lt_or_ge a (b + 1) with h1 | h1
    · exact Nat.le_trans (ih (by omega)) (Nat.le_of_lt (f_lt b))
    · rw [Nat.le_antisymm h h1]; exact Nat.le_refl _
theorem f_400 : f 400 = 146097 := by decide
theorem f_split (y : Nat) (h : y ≤ 399) : f y = 365 * y + y / 4 - y / 100 := by unfold f; omega
theorem year_of : ∀ (n i : Nat), i < f n → ∃ y, y < n ∧ f y ≤ i ∧ i < f (y + 1)
  | 0, i, h => by simp [f] at h
  | n + 1, i, h => by
    by_cases h1 : i < f n
    · obtain ⟨y, hy, h2, h3⟩ := year_of n i h1
      exact ⟨y, by omega, h2, h3⟩
    · exact ⟨n, by omega, by omega, h⟩
/-- The year of a place of an era, as the code has it. -/
def g (i : Nat) : Nat := i - i / 1460 + i / 36524 - i / 146096
def yr (i : Nat) : Nat := g i / 365
theorem g_succ (i : Nat) : g i ≤ g (i + 1) := by unfold g; omega
theorem g_mono {a b : Nat} (h : a ≤ b) : g a ≤ g b := by
  induction b with
  | zero => rw [Nat.le_zero.1 h]; exact Nat.le_refl _
  | succ b ih =>
    rcases Nat.lt_or_ge a (b + 1) with h1 | h1
    · exact Nat.le_trans (ih (by omega)) (g_succ b)
    · rw [Nat.le_antisymm h h1]; exact Nat.le_refl _
def ends : Nat → Bool
  | 0 => true
  | y + 1 => Nat.ble (365 * y) (g (f y)) && Nat.blt (g (f (y + 1) - 1)) (365 * (y + 1)) && ends y
theorem ends_all : ends 400 = true := by decide +kernel
theorem ends_at : ∀ (n y : Nat), ends n = true → y < n → 365 * y ≤ g (f y) ∧ g (f (y + 1) - 1) < 365 * (y + 1)
  | 0, y, _, h => absurd h (Nat.not_lt_zero y)
  | n + 1, y, h, hy => by
    unfold ends at h
    simp only [Bool.and_eq_true] at h
    rcases Nat.lt_or_ge y n with h1 | h1
    · exact ends_at n y h.2 h1
    · obtain rfl : y = n := by omega
      exact ⟨Nat.le_of_ble_eq_true h.1.1, Nat.le_of_ble_eq_true h.1.2⟩
theorem yr_eq {i y : Nat} (hy : y < 400) (h1 : f y ≤ i) (h2 : i < f (y + 1)) : yr i = y := by
  obtain ⟨a, b⟩ := ends_at 400 y ends_all hy
  have c := g_mono h1
  have d := g_mono (by omega : i ≤ f (y + 1) - 1)
  unfold yr; omega

/-- Month and day of a day of a year that begins in March. -/
def mo (d : Nat) : Nat := (5 * d + 2) / 153
def da (d : Nat) : Nat := d - (153 * mo d + 2) / 5 + 1
/-- Days of a month: L: one more in February. -/
def dimL (m L : Nat) : Nat := if m = 2 then 28 + L else if m = 4 ∨ m = 6 ∨ m = 9 ∨ m = 11 then 30 else 31
def dim (y m : Nat) : Nat := dimL m (lp y)
theorem dim_far (m L K : Nat) (h : m ≠ 2) : dimL m L = dimL m K := by unfold dimL; rw [if_neg h, if_neg h]
theorem dim_400 (y e m : Nat) : dim (y + 400 * e) m = dim y m := by
  unfold dim lp
  have h4 : (y + 400 * e) % 4 = y % 4 := by omega
  have h1 : (y + 400 * e) % 100 = y % 100 := by omega
  have h2 : (y + 400 * e) % 400 = y % 400 := by omega
  rw [h4, h1, h2]

abbrev Dt := Nat × Nat × Nat
/-- Year, month and day of day d of year y. -/
def ymd (y d : Nat) : Dt := if mo d < 10 then (y, mo d + 3, da d) else (y + 1, mo d - 9, da d)
def next (x : Dt) : Dt := if x.2.2 + 1 ≤ dim x.1 x.2.1 then (x.1, x.2.1, x.2.2 + 1) else if x.2.1 + 1 ≤ 12 then (x.1, x.2.1 + 1, 1) else (x.1 + 1, 1, 1)
/-- What is to be asked of a day of a year: in its month, and the next. -/
def okDay (L d : Nat) : Bool :=
  (if mo d < 10 then decide (1 ≤ da d) && decide (da d ≤ dimL (mo d + 3) 0) else decide (1 ≤ da d) && decide (da d ≤ dimL (mo d - 9) L)) && decide (mo d ≤ 11) &&
  (if d < 364 + L then
    (if mo d < 10 then (if da d + 1 ≤ dimL (mo d + 3) 0 then decide (mo (d + 1) = mo d ∧ da (d + 1) = da d + 1) else decide (mo (d + 1) = mo d + 1 ∧ da (d + 1) = 1))
     else (if da d + 1 ≤ dimL (mo d - 9) L then decide (mo (d + 1) = mo d ∧ da (d + 1) = da d + 1) else decide (mo (d + 1) = mo d + 1 ∧ da (d + 1) = 1)))
   else decide (mo d = 11 ∧ da d = dimL 2 L))
def okDays : Nat → Bool
  | 0 => true
  | n + 1 => (decide (n = 365) || okDay 0 n) && okDay 1 n && okDays n
theorem okDays_all : okDays 366 = true := by decide +kernel
theorem okDays_at : ∀ (n d : Nat), okDays n = true → d < n → (d = 365 ∨ okDay 0 d = true) ∧ okDay 1 d = true
  | 0, d, _, h => absurd h (Nat.not_lt_zero d)
  | n + 1, d, h, hd => by
    unfold okDays at h
    simp only [Bool.and_eq_true, Bool.or_eq_true, decide_eq_true_eq] at h
    rcases Nat.lt_or_ge d n with h1 | h1
    · exact okDays_at n d h.2 h1
    · obtain rfl : d = n := by omega
      exact h.1
theorem okDay_at (L d : Nat) (hL : L ≤ 1) (hd : d ≤ 364 + L) : okDay L d = true := by
  obtain ⟨h0, h1⟩ := okDays_at 366 d okDays_all (by omega)
  rcases Nat.lt_or_ge L 1 with h | h
  · obtain rfl : L = 0 := by omega
    exact h0.resolve_left (by omega)
  · obtain rfl : L = 1 := by omega
    exact h1
theorem month_le (L d : Nat) (hL : L ≤ 1) (hd : d ≤ 364 + L) : mo d ≤ 11 ∧ 1 ≤ da d ∧ da d ≤ 31 := by
  have h := okDay_at L d hL hd
  unfold okDay at h
  simp only [Bool.and_eq_true, decide_eq_true_eq] at h
  refine ⟨h.1.2, ?_⟩
  have h1 := h.1.1
  have hb : ∀ m K, K ≤ 1 → dimL m K ≤ 31 := fun m K hK => by unfold dimL; split; omega; split <;> omega
  split at h1
  · simp only [Bool.and_eq_true, decide_eq_true_eq] at h1
    exact ⟨h1.1, Nat.le_trans h1.2 (hb _ _ (by omega))⟩
  · simp only [Bool.and_eq_true, decide_eq_true_eq] at h1
    exact ⟨h1.1, Nat.le_trans h1.2 (hb _ _ hL)⟩
/-- A date as it may be. -/
def Vld (x : Dt) : Prop := 1 ≤ x.2.1 ∧ x.2.1 ≤ 12 ∧ 1 ≤ x.2.2 ∧ x.2.2 ≤ dim x.1 x.2.1
theorem ymd_vld (y d : Nat) (hd : d ≤ 364 + lp (y + 1)) : Vld (ymd y d) := by
  have hL := lp_le (y + 1)
  have h := okDay_at _ d hL hd
  unfold okDay at h
  simp only [Bool.and_eq_true, decide_eq_true_eq] at h
  have h1 := h.1.1
  have h2 := h.1.2
  unfold ymd
  by_cases hm : mo d < 10
  · rw [if_pos hm] at h1 ⊢
    simp only [Bool.and_eq_true, decide_eq_true_eq] at h1
    refine ⟨by simp, by simp; omega, h1.1, ?_⟩
    show da d ≤ dimL (mo d + 3) (lp y)
    rw [dim_far _ _ 0 (by omega)]; exact h1.2
  · rw [if_neg hm] at h1 ⊢
    simp only [Bool.and_eq_true, decide_eq_true_eq] at h1
    exact ⟨by simp; omega, by simp; omega, h1.1, h1.2⟩
theorem ymd_next (y d : Nat) (hd : d < 364 + lp (y + 1)) : next (ymd y d) = ymd y (d + 1) := by
  have hL := lp_le (y + 1)
  have h := okDay_at _ d hL (by omega)
  unfold okDay at h
  simp only [Bool.and_eq_true, decide_eq_true_eq] at h
  have h2 := h.1.2
  have h3 := h.2
  rw [if_pos hd] at h3
  by_cases hm : mo d < 10
  · rw [if_pos hm] at h3
    have e : ymd y d = (y, mo d + 3, da d) := by unfold ymd; rw [if_pos hm]
    have ed : dim y (mo d + 3) = dimL (mo d + 3) 0 := dim_far _ _ 0 (by omega)
    rw [e]
    unfold next
    simp only [ed]
    by_cases hl : da d + 1 ≤ dimL (mo d + 3) 0
    · rw [if_pos hl] at h3 ⊢
      obtain ⟨a, b⟩ := of_decide_eq_true h3
      unfold ymd; rw [a, b, if_pos hm]
    · rw [if_neg hl] at h3 ⊢
      obtain ⟨a, b⟩ := of_decide_eq_true h3
      unfold ymd
      rw [a, b]
      by_cases h9 : mo d = 9
      · rw [if_neg (by omega), if_neg (by omega), h9]
      · rw [if_pos (by omega), if_pos (by omega)]
  · rw [if_neg hm] at h3
    have e : ymd y d = (y + 1, mo d - 9, da d) := by unfold ymd; rw [if_neg hm]
    rw [e]
    unfold next
    show (if da d + 1 ≤ dimL (mo d - 9) (lp (y + 1)) then _ else _) = _
    by_cases hl : da d + 1 ≤ dimL (mo d - 9) (lp (y + 1))
    · rw [if_pos hl] at h3 ⊢
      obtain ⟨a, b⟩ := of_decide_eq_true h3
      unfold ymd; rw [a, b, if_neg hm]
    · rw [if_neg hl] at h3 ⊢
      obtain ⟨a, b⟩ := of_decide_eq_true h3
      unfold ymd
      rw [a, b, if_pos (by simp; omega), if_neg (by omega)]
      simp; omega
theorem ymd_last (y d : Nat) (hd : d = 364 + lp (y + 1)) : next (ymd y d) = ymd (y + 1) 0 := by
  have hL := lp_le (y + 1)
  have h := okDay_at _ d hL (by omega)
  unfold okDay at h
  simp only [Bool.and_eq_true] at h
  have h3 := h.2
  rw [if_neg (by omega)] at h3
  obtain ⟨a, b⟩ := of_decide_eq_true h3
  have e : ymd y d = (y + 1, 2, da d) := by unfold ymd; rw [if_neg (by omega), a]
  have e0 : ymd (y + 1) 0 = (y + 1, 3, 1) := by unfold ymd; rw [if_pos (by decide)]; rfl
  rw [e, e0]
  unfold next
  show (if da d + 1 ≤ dimL 2 (lp (y + 1)) then _ else _) = _
  rw [if_neg (by omega)]
  rfl

/-- The date of a place of an era. -/
def civ (i : Nat) : Dt := ymd (yr i) (i - (365 * yr i + yr i / 4 - yr i / 100))
theorem civ_at {i : Nat} (h : i < 146097) : ∃ y d, y < 400 ∧ yr i = y ∧ d ≤ 364 + lp (y + 1) ∧ i = f y + d ∧ i - (365 * y + y / 4 - y / 100) = d ∧ civ i = ymd y d := by
  obtain ⟨y, hy, h1, h2⟩ := year_of 400 i (by rw [f_400]; exact h)
  have e := yr_eq hy h1 h2
  have hs := f_succ y
  have hf := f_split y (by omega)
  refine ⟨y, i - f y, hy, e, by omega, by omega, by rw [← hf], ?_⟩
  unfold civ; rw [e, ← hf]
theorem civ_vld {i : Nat} (h : i < 146097) : Vld (civ i) := by
  obtain ⟨y, d, _, _, hd, _, _, e⟩ := civ_at h
  rw [e]; exact ymd_vld y d hd
theorem civ_next {i : Nat} (h : i + 1 < 146097) : next (civ i) = civ (i + 1) := by
  obtain ⟨y, d, hy, _, hd, hi, _, e⟩ := civ_at (by omega : i < 146097)
  obtain ⟨y2, d2, hy2, e1, hd2, hi2, _, e2⟩ := civ_at h
  have hs := f_succ y
  rw [e, e2]
  rcases Nat.lt_or_ge d (364 + lp (y + 1)) with hlt | hge
  · have : yr (i + 1) = y := yr_eq hy (by omega) (by omega)
    obtain rfl : y2 = y := e1.symm.trans this
    obtain rfl : d2 = d + 1 := by omega
    exact ymd_next _ _ hlt
  · have hy3 : y + 1 < 400 := by
      rcases Nat.lt_or_ge (y + 1) 400 with h1 | h1
      · exact h1
      · have : f 400 ≤ f (y + 1) := f_mono h1
        rw [f_400] at this; omega
    have hs2 := f_succ (y + 1)
    have : yr (i + 1) = y + 1 := yr_eq hy3 (by omega) (by omega)
    obtain rfl : y2 = y + 1 := e1.symm.trans this
    obtain rfl : d2 = 0 := by omega
    exact ymd_last y d (by omega)
theorem civ_wrap : next (civ 146096) = ((civ 0).1 + 400, (civ 0).2.1, (civ 0).2.2) := by decide
end Cal
