/-
  A set and its negation, as patterns. No program in sight.
-/
import Derived.Test.YtpoofienimigaaaGlobLaws
namespace Glb

theorem set_end : ∀ (n : Nat) (l : List UInt8) (first : Bool) (acc : UInt8 → Bool), (first = true → l ≠ []) → l.length < n → (∀ b ∈ l, b ≠ 92 ∧ b ≠ 93) → ∃ acc', setLoop n first acc (l ++ [93]) = some (acc', [])
  | 0, _, _, _, _, hn, _ => absurd hn (Nat.not_lt_zero _)
  | n + 1, [], first, acc, hf, _, _ => by
    cases first
    · exact ⟨acc, by simp [setLoop, endB]⟩
    · exact absurd rfl (hf rfl)
  | n + 1, c :: r, first, acc, _, hn, hs => by
    have hc := hs c (by simp)
    have hr : ∀ b ∈ r, b ≠ 92 ∧ b ≠ 93 := fun b hb => hs b (by simp [hb])
    have h0 : endB first (c :: r ++ [93]) = false := by simp [endB, hc.2]
    have h1 : one (c :: r ++ [93]) = some (c, r ++ [93]) := by simp [one, hc.1]
    have hn' : r.length < n := by simp at hn; omega
    simp only [setLoop, h0, h1, Bool.false_eq_true, if_false]
    by_cases hg : ranged (r ++ [93]) = true
    · rw [if_pos hg]
      cases r with
      | nil => simp [ranged] at hg
      | cons d r' =>
        cases r' with
        | nil => simp [ranged] at hg
        | cons e r'' =>
          have he := hr e (by simp)
          have h2 : one (d :: e :: r'' ++ [93]).tail = some (e, r'' ++ [93]) := by simp [one, he.1]
          simp only [h2]
          exact set_end n r'' false _ (fun h => by cases h) (by simp at hn'; omega) (fun b hb => hr b (by simp [hb]))
    · rw [if_neg hg]
      exact set_end n r false _ (fun h => by cases h) hn' hr

theorem toks_set (set : List UInt8) (h0 : set ≠ []) (hs : ∀ b ∈ set, b ≠ 92 ∧ b ≠ 93) (hb : negB set = false) :
    ∃ acc : UInt8 → Bool, toks (91 :: (set ++ [93])) = some [⟨false, false, fun x => (acc x != false) && x != 47⟩] ∧ toks (91 :: 33 :: (set ++ [93])) = some [⟨false, false, fun x => (acc x != true) && x != 47⟩] := by
  obtain ⟨acc, ha⟩ := set_end ((set ++ [93]).length + 1) set true (fun _ => false) (fun _ => h0) (by simp; omega) hs
  have n1 : negB (set ++ [93]) = false := by
    cases set with
    | nil => exact absurd rfl h0
    | cons c r => exact hb
  have n2 : negB (33 :: (set ++ [93])) = true := rfl
  refine ⟨acc, ?_, ?_⟩
  · have p1 : setP (set ++ [93]) = some (⟨false, false, fun x => (acc x != false) && x != 47⟩, []) := by
      simp only [setP, n1, Bool.false_eq_true, if_false, ha]
    have x1 : next (91 :: (set ++ [93])) = some (⟨false, false, fun x => (acc x != false) && x != 47⟩, []) := by
      simp only [next]
      rw [if_neg (by decide), if_neg (by decide), if_pos trivial, p1]
    simp only [toks, List.length_cons, parse, x1]
    cases h : (set ++ [93]).length <;> simp [parse]
  · have p1 : setP (33 :: (set ++ [93])) = some (⟨false, false, fun x => (acc x != true) && x != 47⟩, []) := by
      simp only [setP, n2, if_true, List.tail_cons, ha]
    have x1 : next (91 :: 33 :: (set ++ [93])) = some (⟨false, false, fun x => (acc x != true) && x != 47⟩, []) := by
      simp only [next]
      rw [if_neg (by decide), if_neg (by decide), if_pos trivial, p1]
    simp only [toks, List.length_cons, parse, x1]
    simp [parse]

theorem either_law (set : List UInt8) (c : UInt8) (hl : set.length ≤ 40) (h0 : set ≠ []) (hs : ∀ b ∈ set, b ≠ 92 ∧ b ≠ 93) (hb : negB set = false) :
    ∃ a : Bool, mres (91 :: (set ++ [93])) [c] = (a && c != 47, 0) ∧ mres (91 :: 33 :: (set ++ [93])) [c] = (!a && c != 47, 0) := by
  obtain ⟨acc, h1, h2⟩ := toks_set set h0 hs hb
  refine ⟨acc c, ?_, ?_⟩
  · have l1 : ¬ 120 < (91 :: (set ++ [93])).length := by simp; omega
    rw [mres, if_neg l1, if_neg (by simp), h1]
    simp [matchB, reach, step, start]
  · have l1 : ¬ 120 < (91 :: 33 :: (set ++ [93])).length := by simp; omega
    rw [mres, if_neg l1, if_neg (by simp), h2]
    simp [matchB, reach, step, start]

end Glb

