/-
  hole.Find, as a value and an error's value.
-/
import Derived.Test.YtjlglmfogldbkaaDoorHoleE
namespace Go.Proofs.YtjlglmfogldbkaaDoor
open Go.RowKit

/-- What Find leaves: the pieces, or that there are too many. -/
def FindV (B : Nat) (qs : List Hol.Pc) (v E : Value) (w' : World) : Prop := (qs.length ≤ 20 ∧ E = .nilIface ∧ HasP w' B v qs) ∨ (20 < qs.length ∧ E = .iface 39 (.int .i64 4) ∧ v = .slice none 0 0)
def FindR (w : World) (qs : List Hol.Pc) (e : Ending) (w' : World) : Prop := ∃ v E, e = .returned (.tuple #[v, E]) ∧ FindV w.heap.size qs v E w' ∧ Below w.heap.size w w'

theorem find_any (s : ByteArray) (st : Nat) (w : World) (hs : s.size ≤ 1000) (h1 : 1 ≤ st) (h2 : st ≤ 1000) :
    Calls Tryd.prog 8 #[.string s, .int .i64 st] w (FindR w (Hol.find s.data.toList st)) := by
  have h := find_walk s st (min st (max s.size 1)) w hs h1 h2 rfl
  have e := Hol.find_min s.data.toList st h1
  rw [list_size] at e
  rw [e] at h
  refine h.mono fun en w' hp => ?_
  unfold FindPost at hp
  by_cases hl : 20 < (Hol.find s.data.toList st).length
  · rw [if_pos hl] at hp
    exact ⟨_, _, hp.1, .inr ⟨hl, rfl, rfl⟩, hp.2⟩
  · rw [if_neg hl] at hp
    obtain ⟨v, he, hv, hb⟩ := hp
    exact ⟨v, _, he, .inl ⟨by omega, rfl, hv⟩, hb⟩

end Go.Proofs.YtjlglmfogldbkaaDoor
