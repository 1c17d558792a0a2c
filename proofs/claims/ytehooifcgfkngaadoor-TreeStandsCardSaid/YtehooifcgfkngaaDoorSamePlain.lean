/-
  Two trees, name by name: what Same keeps while it goes.
-/
import Derived.Test.YtehooifcgfkngaaDoorTreePlain3
namespace Tre
open Pth

def setN (f : Nat → Option Nat) (i k : Nat) : Nat → Option Nat := fun x => if x = i then some k else f x
/-- What is known behind the names L: each is in both trees with the same file, and f and h tell the files' partners. -/
structure Inv (t u : T) (L : List (Bs × Nat)) (f h : Nat → Option Nat) : Prop where
  sub : ∀ p ∈ L, p ∈ t.ents
  ok : ∀ p ∈ L, ∃ k, look u.ents p.1 = some k ∧ t.file p.2 = u.file k ∧ f p.2 = some k ∧ h k = some p.2
  fo : ∀ i k, f i = some k → ∃ p ∈ L, p.2 = i ∧ look u.ents p.1 = some k
  ho : ∀ k i, h k = some i → ∃ p ∈ L, p.2 = i ∧ look u.ents p.1 = some k

theorem Inv.nil (t u : T) : Inv t u [] (fun _ => none) (fun _ => none) := ⟨by simp, by simp, fun _ _ h => by simp at h, fun _ _ h => by simp at h⟩
section
variable {t u : T} {L : List (Bs × Nat)} {f h : Nat → Option Nat} {p : Bs × Nat} {k : Nat}
theorem Inv.lacks (hp : p ∈ t.ents) (hl : look u.ents p.1 = none) : ¬ Same t u := fun s => by
  obtain ⟨k, hk, _⟩ := s.2.1 p hp; rw [hl] at hk; cases hk
theorem Inv.unlike (hp : p ∈ t.ents) (hl : look u.ents p.1 = some k) (hf : t.file p.2 ≠ u.file k) : ¬ Same t u := fun s => by
  obtain ⟨k', hk, e⟩ := s.2.1 p hp; rw [hl] at hk; cases hk; exact hf e
theorem Inv.clashF (I : Inv t u L f h) (hp : p ∈ t.ents) (hl : look u.ents p.1 = some k) {k' : Nat} (hf : f p.2 = some k') (hne : k' ≠ k) : ¬ Same t u := fun s => by
  obtain ⟨q, hq, e, hlq⟩ := I.fo _ _ hf
  exact hne ((s.2.2 q (I.sub q hq) p hp _ _ hlq hl).1 e)
theorem Inv.clashH (I : Inv t u L f h) (hp : p ∈ t.ents) (hl : look u.ents p.1 = some k) {i : Nat} (hh : h k = some i) (hne : i ≠ p.2) : ¬ Same t u := fun s => by
  obtain ⟨q, hq, e, hlq⟩ := I.ho _ _ hh
  exact hne (e ▸ (s.2.2 q (I.sub q hq) p hp _ _ hlq hl).2 rfl)
theorem Inv.more (I : Inv t u L f h) (hp : p ∈ t.ents) (hl : look u.ents p.1 = some k) (hf : t.file p.2 = u.file k) (h1 : ∀ k', f p.2 = some k' → k' = k) (h2 : ∀ i, h k = some i → i = p.2) :
    Inv t u (L ++ [p]) (setN f p.2 k) (setN h k p.2) := by
  refine ⟨fun q hq => ?_, fun q hq => ?_, fun i m e => ?_, fun m i e => ?_⟩
  · rcases List.mem_append.1 hq with hq | hq
    · exact I.sub q hq
    · rw [List.mem_singleton.1 hq]; exact hp
  · rcases List.mem_append.1 hq with hq | hq
    · obtain ⟨m, e1, e2, e3, e4⟩ := I.ok q hq
      refine ⟨m, e1, e2, ?_, ?_⟩
      · unfold setN
        by_cases e : q.2 = p.2
        · rw [if_pos e]; rw [e] at e3; rw [h1 m e3]
        · rw [if_neg e]; exact e3
      · unfold setN
        by_cases e : m = k
        · rw [if_pos e]; rw [e] at e4; rw [h2 _ e4]
        · rw [if_neg e]; exact e4
    · rw [List.mem_singleton.1 hq]
      exact ⟨k, hl, hf, by simp [setN], by simp [setN]⟩
  · unfold setN at e
    split at e
    · rename_i e'
      cases e
      exact ⟨p, by simp, e'.symm, hl⟩
    · obtain ⟨q, hq, e1, e2⟩ := I.fo _ _ e
      exact ⟨q, by simp [hq], e1, e2⟩
  · unfold setN at e
    split at e
    · rename_i e'
      cases e
      exact ⟨p, by simp, rfl, by rw [e']; exact hl⟩
    · obtain ⟨q, hq, e1, e2⟩ := I.ho _ _ e
      exact ⟨q, by simp [hq], e1, e2⟩
theorem Inv.same (I : Inv t u L f h) (hw : ∀ p ∈ t.ents, p ∈ L) (hn : t.ents.length = u.ents.length) : Same t u := by
  refine ⟨hn, fun p hp => ?_, fun p hp q hq k m e1 e2 => ?_⟩
  · obtain ⟨k, e1, e2, _⟩ := I.ok p (hw p hp)
    exact ⟨k, e1, e2⟩
  · obtain ⟨k', a1, _, a3, a4⟩ := I.ok p (hw p hp)
    obtain ⟨m', b1, _, b3, b4⟩ := I.ok q (hw q hq)
    rw [e1] at a1; cases a1
    rw [e2] at b1; cases b1
    constructor
    · intro e; rw [e, b3] at a3; cases a3; rfl
    · intro e; subst e; rw [b4] at a4; exact (Option.some.inj a4).symm
end

end Tre
