/-
  slices.ContainsFunc of records; what a merge is as an argument.
-/
import Derived.Test.YtkhkjacnoiopcaaGreatDoorZal
import Derived.Test.YtkhkjacnoiopcaaGreatDoorZbc
import Derived.Test.YtkhkjacnoiopcaaGreatDoorZay
import Derived.OrdersHeld
set_option linter.unusedVariables false
set_option linter.unusedSimpArgs false

set_option linter.unusedVariables false
set_option linter.unusedSimpArgs false
namespace Go.Proofs.YtkhkjacnoiopcaaGreatDoor
open Go.RowKit

/-- What came of a call, as an argument. -/
theorem pairs_of_has {w : World} {B : Nat} {v : Value} {M : List Px.Rec} (h : HasR w B v M) (hl : M.length ≤ 1000000) (hz : ∀ r ∈ M, r.1.length ≤ 140737488351232 ∧ r.2.length ≤ 140737488351232) : PairsIn w v M := by
  rcases h.ways with ⟨rfl, rfl⟩ | ⟨g, cap, rfl, _, hg, hc, hr⟩
  · exact ⟨none, 0, rfl, Nat.le_refl _, by simp, (fun r hr => by cases hr), .inl rfl⟩
  · exact ⟨_, cap, rfl, hc, by omega, hz, .inr ⟨g, 0, rfl, hg, hr⟩⟩
theorem merge_sub {l M : List Px.Rec} (h : Px.IsMerge l M) : M ⊆ l := fun p hp => Px.lastV_mem ((h.2 p.1 p.2).1 hp).1
theorem merge_len {l M : List Px.Rec} (h : Px.IsMerge l M) : M.length ≤ l.length :=
  (Px.apart_nodup h.apart).length_le_of_subset (merge_sub h)
theorem merge_in {w : World} {B : Nat} {v : Value} {l M : List Px.Rec} (hv : HasR w B v M) (h : Px.IsMerge l M) (hl : l.length ≤ 1000000) (hz : ∀ r ∈ l, r.1.length ≤ 140737488351232 ∧ r.2.length ≤ 140737488351232) : PairsIn w v M :=
  pairs_of_has hv (Nat.le_trans (merge_len h) hl) fun r hr => hz r (merge_sub h hr)
theorem PairsIn.sizes {w : World} {v : Value} {l : List Px.Rec} (h : PairsIn w v l) : ∀ r ∈ l, r.1.length ≤ 140737488351232 ∧ r.2.length ≤ 140737488351232 := by
  obtain ⟨_, _, _, _, _, h, _⟩ := h; exact h
theorem PairsIn.form {w : World} {v : Value} {l : List Px.Rec} (h : PairsIn w v l) : ∃ X cap, v = .slice X l.length cap := by
  obtain ⟨X, cap, rfl, _⟩ := h; exact ⟨X, cap, rfl⟩
/-- Two lists behind a slice of slices. -/
theorem lists_two {w : World} {g : Nat} {u v : Value} {a b : List Px.Rec} (h0 : w.cell? ⟨g, 0, none⟩ = some u) (h1 : w.cell? ⟨g, 1, none⟩ = some v) (ha : PairsIn w u a) (hb : PairsIn w v b) : ListsIn w g [a, b] := fun i hi => by
  rcases (by simp at hi; omega : i = 0 ∨ i = 1) with rfl | rfl
  · exact ⟨u, h0, ha⟩
  · exact ⟨v, h1, hb⟩
end Go.Proofs.YtkhkjacnoiopcaaGreatDoor

set_option linter.unusedVariables false
set_option linter.unusedSimpArgs false
namespace Go.Proofs.YtkhkjacnoiopcaaGreatDoor

/-- One operation is taken first; where it writes and what is listed behind it are told. -/
theorem wpAnyH_takeD {P : Program} {md : Region.Mode} {ops : Array Oper} {Q : Exit → Act → World → Prop} {S : World → Prop} {i : Nat} {d : Tmp} {oi : Oper} {v : Value} {fuel : Nat} {listed listed' : Array Bool} {a : Act} {w : World} (hi : ops[i]? = some oi) (hd : oi.dst = some d)
    (hl : listed.setIfInBounds i true = listed') (hs : Region.noSelect ops = true) (hf : Region.free md ops listed i = true) (hr : (Region.ready md ops listed).contains i = true)
    (hQ : ∀ c a w, Q (.panic c) (a.put (some d) v) w → Q (.panic c) a w) (hy : YieldsIf P ops S oi v a) (hS : S w) (h : wpAnyH P md ops Q S fuel listed' (a.put (some d) v) w) : wpAnyH P md ops Q S (fuel + 1) listed a w := by
  subst hl
  refine wpAnyH_take hi hs hf hr ?_ hy hS ?_
  · rw [hd]; exact hQ
  · rw [hd]; exact h

end Go.Proofs.YtkhkjacnoiopcaaGreatDoor
