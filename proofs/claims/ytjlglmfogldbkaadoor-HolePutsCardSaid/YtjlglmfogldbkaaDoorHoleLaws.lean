/-
  Which pieces are a map of a file: no program in sight.
-/
import Derived.Test.YtjlglmfogldbkaaDoorHolePlain
namespace Hol

def castP (p : Pc) : Int × Int := ((p.1 : Int), (p.2 : Int))
/-- pieces behind lo (the end of the one ahead; -1: there is none) -/
def rightGo (size : Int) : Int → List (Int × Int) → Bool
  | _, [] => true
  | lo, (a, s) :: r => if s < 1 ∨ a < 0 ∨ size < s ∨ size - s < a then false else if a ≤ lo then false else rightGo size (a + s) r
def rightI (ps : List (Int × Int)) (size : Int) : Bool := decide (0 ≤ size) && decide (ps.length ≤ 20) && rightGo size (-1) ps

theorem right_asc (n : Nat) : ∀ (ps : List (Int × Int)) (lo : Nat), rightGo n ((lo : Int) - 1) ps = true → ∃ qs : List Pc, ps = qs.map castP ∧ Asc n lo qs := by
  intro ps
  induction ps with
  | nil => intro lo _; exact ⟨[], rfl, trivial⟩
  | cons p r ih =>
    obtain ⟨a, s⟩ := p
    intro lo h
    simp only [rightGo] at h
    by_cases h1 : s < 1 ∨ a < 0 ∨ (n : Int) < s ∨ (n : Int) - s < a
    · rw [if_pos h1] at h; cases h
    · rw [if_neg h1] at h
      by_cases h2 : a ≤ (lo : Int) - 1
      · rw [if_pos h2] at h; cases h
      · rw [if_neg h2] at h
        obtain ⟨a, rfl⟩ := Int.eq_ofNat_of_zero_le (show 0 ≤ a by omega)
        obtain ⟨s, rfl⟩ := Int.eq_ofNat_of_zero_le (show 0 ≤ s by omega)
        have e : (a : Int) + (s : Int) = ((a + s + 1 : Nat) : Int) - 1 := by omega
        rw [e] at h
        obtain ⟨qs, rfl, hq⟩ := ih (a + s + 1) h
        exact ⟨(a, s) :: qs, rfl, by omega, by omega, by omega, hq⟩
theorem asc_right (n : Nat) : ∀ (qs : List Pc) (lo : Nat), Asc n lo qs → rightGo n ((lo : Int) - 1) (qs.map castP) = true := by
  intro qs
  induction qs with
  | nil => intro lo _; rfl
  | cons p r ih =>
    obtain ⟨a, s⟩ := p
    intro lo h
    obtain ⟨h1, h2, h3, h4⟩ := h
    have := ih (a + s + 1) h4
    simp only [List.map_cons, castP, rightGo]
    rw [if_neg (by omega), if_neg (by omega)]
    have e : (a : Int) + (s : Int) = ((a + s + 1 : Nat) : Int) - 1 := by omega
    rw [e]; exact this

theorem asc_size (n : Nat) : ∀ (qs : List Pc) (lo : Nat), Asc n lo qs → lo ≤ n + 1 → size qs + lo ≤ n + 1 := by
  intro qs
  induction qs with
  | nil => intro lo _ h; simpa [size] using h
  | cons p r ih =>
    obtain ⟨a, s⟩ := p
    intro lo h hlo
    obtain ⟨h1, h2, h3, h4⟩ := h
    have := ih (a + s + 1) h4 (by omega)
    have e : size ((a, s) :: r) = s + size r := by simp [size]
    omega

theorem find_asc (l : List UInt8) (st : Nat) (h : 1 ≤ st) : Asc l.length 0 (find l st) := by
  have h1 := acc_ord l st h (rounds l.length st) (Nat.le_refl _)
  have h2 := (rounds_bd l.length st h).1
  rw [Nat.min_eq_right h2] at h1
  exact h1.asc

theorem take_len (l : List UInt8) : ∀ (qs : List Pc) (lo : Nat), Asc l.length lo qs → (take l qs).length = size qs := by
  intro qs
  induction qs with
  | nil => intro _ _; rfl
  | cons p r ih =>
    obtain ⟨a, s⟩ := p
    intro lo h
    have := ih _ h.2.2.2
    have e : size ((a, s) :: r) = s + size r := by simp [size]
    show (cut l (a, s) ++ take l r).length = _
    rw [List.length_append, cut_len l (a, s) h.2.2.1, this, e]

/-- What is found, taken and put again is the text. -/
theorem back_law (l : List UInt8) (st : Nat) (h : 1 ≤ st) : put (take l (find l st)) (find l st) l.length = l := by
  refine put_back l l.length rfl (find l st) 0 _ (find_asc l st h) (List.length_replicate ..) fun i hi => ?_
  by_cases hl : i < l.length
  · rw [List.getElem?_replicate, if_pos hl, List.getElem?_eq_getElem hl]
    congr 1
    have h2 := (rounds_bd l.length st h).1
    symm
    refine acc_rest l st h (rounds l.length st) (Nat.le_refl _) i hl (by omega) fun ⟨p, hp, hip⟩ => hi ⟨p, List.mem_reverse.2 hp, hip⟩
  · rw [List.getElem?_eq_none (by rw [List.length_replicate]; omega), List.getElem?_eq_none (by omega)]

theorem each_law (l : List UInt8) (st : Nat) : ∀ p ∈ find l st, p.1 % st = 0 ∧ zeros (cut l p) = false := fun p hp =>
  acc_each l st (rounds l.length st) (Nat.le_refl _) p (List.mem_reverse.1 hp)

/-- What is put is there, and all else is 0. -/
theorem puts_law (d : List UInt8) (qs : List Pc) (n : Nat) (h : Asc n 0 qs) (hd : size qs = d.length) :
    (put d qs n).length = n ∧ take (put d qs n) qs = d ∧ ∀ i, i < n → (∃ p ∈ qs, InP i p) ∨ (put d qs n)[i]? = some 0 := by
  obtain ⟨h1, _, h3, h4⟩ := putGo_low n qs 0 (List.replicate n 0) d h (List.length_replicate ..) hd
  refine ⟨h1, h4, fun i hi => ?_⟩
  by_cases hp : ∃ p ∈ qs, InP i p
  · exact .inl hp
  · right
    show (putGo _ d qs)[i]? = _
    rw [h3 i hp, List.getElem?_replicate, if_pos hi]

end Hol
