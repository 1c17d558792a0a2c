/-
  Who owns a file, when it was changed, its mode: told of one name, they hold for all the names of that file and for no other.
-/
import Derived.Test.YtehooifcgfkngaaDoorTreePlain3
namespace Tre
open Pth

theorem told {t : T} {a : Bs} {i : Nat} (ha : look t.ents a = some i) {x : Deed} (hx : 6 ≤ x.what ∧ x.what ≤ 8) (hn : x.name = a) (hr : rightN (changed (t.file i) x) = true) :
    (act t x).2 = 0 ∧ (act t x).1.ents = t.ents ∧ (act t x).1.nx = t.nx ∧ ∀ k, (act t x).1.file k = if k = i then changed (t.file i) x else t.file k := by
  rw [act_change ha ⟨by omega, hx.2⟩ hn]
  unfold change
  rw [if_neg (by omega), if_neg (by omega), hr, if_neg (by simp)]
  refine ⟨rfl, rfl, rfl, fun k => ?_⟩
  unfold T.file
  simp only [upd]
  by_cases e : k = i
  · subst e; simp
  · rw [if_neg e, if_neg e]

theorem right_7 {n m : Nd} (hr : rightN n = true) (hu : 0 ≤ m.uid ∧ m.uid < 1000) (hg : 0 ≤ m.gid ∧ m.gid < 1000) : rightN { n with uid := m.uid, gid := m.gid } = true := by
  unfold rightN at hr ⊢
  simp only [Bool.and_eq_true] at hr ⊢
  obtain ⟨⟨⟨⟨h1, ⟨⟨⟨h2, h3⟩, h4⟩, h5⟩⟩, h6⟩, h7⟩, h8⟩ := hr
  refine ⟨⟨⟨⟨h1, ⟨⟨⟨h2, ?_⟩, ?_⟩, h5⟩⟩, h6⟩, h7⟩, h8⟩
  · unfold inR; simp; omega
  · unfold inR; simp; omega
theorem right_8 {n m : Nd} (hr : rightN n = true) (hs : stampR m.sec m.nano = true) : rightN { n with sec := m.sec, nano := m.nano } = true := by
  unfold rightN at hr ⊢
  simp only [Bool.and_eq_true] at hr ⊢
  obtain ⟨⟨⟨⟨h1, ⟨⟨⟨h2, h3⟩, h4⟩, h5⟩⟩, h6⟩, h7⟩, h8⟩ := hr
  exact ⟨⟨⟨⟨h1, ⟨⟨⟨h2, h3⟩, h4⟩, hs⟩⟩, h6⟩, h7⟩, h8⟩
theorem right_6 {n : Nd} {q : Int} (hr : rightN n = true) (hq : 0 ≤ q ∧ q < 4096) : rightN { n with mode := q } = true := by
  unfold rightN at hr ⊢
  simp only [Bool.and_eq_true] at hr ⊢
  obtain ⟨⟨⟨⟨h1, ⟨⟨⟨h2, h3⟩, h4⟩, h5⟩⟩, h6⟩, h7⟩, h8⟩ := hr
  refine ⟨⟨⟨⟨h1, ⟨⟨⟨?_, h3⟩, h4⟩, h5⟩⟩, h6⟩, h7⟩, h8⟩
  unfold inR; simp; omega

/-- The three tellings of TreeOwns. -/
theorem owns {t : T} {a c : Bs} {i k : Nat} (ha : look t.ents a = some i) (hc : look t.ents c = some k) (hr : rightN (t.file i) = true) {m : Nd} {q : Int} (hu : 0 ≤ m.uid ∧ m.uid < 1000) (hg : 0 ≤ m.gid ∧ m.gid < 1000) (hs : stampR m.sec m.nano = true) (hq : 0 ≤ q ∧ q < 4096) {t1 t2 t3 : T × Int}
    (h1 : t1 = act t ⟨7, a, [], 0, m⟩) (h2 : t2 = act t1.1 ⟨8, a, [], 0, m⟩) (h3 : t3 = act t2.1 ⟨6, a, [], q, zero⟩) :
    t1.2 = 0 ∧ t2.2 = 0 ∧ t3.2 = 0 ∧ look t3.1.ents c = some k ∧ t3.1.file k = (if t.alike a c = true then { t.file k with uid := m.uid, gid := m.gid, sec := m.sec, nano := m.nano, mode := q } else t.file k) := by
  have r1 := right_7 hr hu hg
  have c1 : changed (t.file i) ⟨7, a, [], 0, m⟩ = { t.file i with uid := m.uid, gid := m.gid } := by simp [changed]
  obtain ⟨e1, n1, _, f1⟩ := told ha (x := ⟨7, a, [], 0, m⟩) ⟨by simp, by simp⟩ rfl (by rw [c1]; exact r1)
  rw [c1] at f1
  rw [← h1] at e1 n1 f1
  have a1 : look t1.1.ents a = some i := by rw [n1]; exact ha
  have g1 : t1.1.file i = { t.file i with uid := m.uid, gid := m.gid } := by rw [f1, if_pos rfl]
  have r2 := right_8 r1 hs
  have c2 : changed (t1.1.file i) ⟨8, a, [], 0, m⟩ = { t.file i with uid := m.uid, gid := m.gid, sec := m.sec, nano := m.nano } := by rw [g1]; simp [changed]
  obtain ⟨e2, n2, _, f2⟩ := told a1 (x := ⟨8, a, [], 0, m⟩) ⟨by simp, by simp⟩ rfl (by rw [c2]; exact r2)
  rw [c2] at f2
  rw [← h2] at e2 n2 f2
  have a2 : look t2.1.ents a = some i := by rw [n2]; exact a1
  have g2 : t2.1.file i = { t.file i with uid := m.uid, gid := m.gid, sec := m.sec, nano := m.nano } := by rw [f2, if_pos rfl]
  have r3 := right_6 r2 hq
  have c3 : changed (t2.1.file i) ⟨6, a, [], q, zero⟩ = { t.file i with uid := m.uid, gid := m.gid, sec := m.sec, nano := m.nano, mode := q } := by rw [g2]; simp [changed]
  obtain ⟨e3, n3, _, f3⟩ := told a2 (x := ⟨6, a, [], q, zero⟩) ⟨by simp, by simp⟩ rfl (by rw [c3]; exact r3)
  rw [c3] at f3
  rw [← h3] at e3 n3 f3
  refine ⟨e1, e2, e3, by rw [n3, n2, n1]; exact hc, ?_⟩
  rw [alike_of ha hc, f3]
  by_cases e : k = i
  · subst e; simp
  · have e' : ¬ (i == k) = true := by simp; exact fun h => e h.symm
    rw [if_neg e, if_neg e', f2, if_neg e, f1, if_neg e]

end Tre
