/-
  slices.ContainsFunc of records; what a merge is as an argument.
-/
import Derived.Test.YtjafjhhmjfpmoaaDoorPaxP
import Derived.Test.YtjafjhhmjfpmoaaDoorPaxO
namespace Go.Proofs.YtjafjhhmjfpmoaaDoor
open Go.RowKit

theorem index_none (X : Option Addr) (y : Nat) (fv : Value) (w : World) :
    Calls Tryd.prog 36 #[.slice X 0 y, fv] w fun e w' => e = .returned (.int .i64 (-1)) ∧ Below w.heap.size w w' := by
  go_enter Tryd.func36, Tryd.ntmps36
  go_wp2_with fail
  refine wp_loop_rounds 1 ?_
  rw [rounds_succ]
  go_wp2_with fail
  go_ret
  exact ⟨rfl, Below.refl _ _⟩
/-- slices.IndexFunc at a list that came in. -/
theorem index_in {w : World} {v : Value} {l : List Px.Rec} (h : PairsIn w v l) (p : Px.Rec → Bool) (g : Nat) (lb : Array Value) (eg : ∀ args w, (callFunc g args).run Tryd.prog w = .ok (.enter g args) w) (hl : l.length ≤ 1000000)
    (hp : ∀ r ∈ l, ∀ w', Below w.heap.size w w' → Calls Tryd.prog g (#[prv (bs r.1) (bs r.2)] ++ lb) w' fun e w'' => e = .returned (.bool (p r)) ∧ Below w'.heap.size w' w'') :
    Calls Tryd.prog 36 #[v, .func (.func g) #[] lb] w fun e w' => e = .returned (.int .i64 (idxP p l)) ∧ Below w.heap.size w w' := by
  obtain ⟨X, cap, rfl, _, _, _, hX⟩ := h
  rcases hX with rfl | ⟨b, off, rfl, hb, hr⟩
  · exact index_none X cap _ w
  · exact index_rows l b off cap p g lb eg w hb hr hl hp
theorem idxP_any (p : Px.Rec → Bool) (l : List Px.Rec) : decide (idxP p l ≥ 0) = l.any p := by
  rcases idxP_ways p l with ⟨e, h⟩ | ⟨i, hi, e, h, _⟩
  · have h2 : l.any p = false := List.any_eq_false.2 fun x hx => by rw [h x hx]; simp
    rw [e, h2]; rfl
  · have h2 : l.any p = true := List.any_eq_true.2 ⟨l[i], List.getElem_mem hi, h⟩
    rw [e, h2]
    exact decide_eq_true (by omega)

set_option maxRecDepth 100000 in
theorem contains_in {w : World} {v : Value} {l : List Px.Rec} (h : PairsIn w v l) (p : Px.Rec → Bool) (g : Nat) (lb : Array Value) (eg : ∀ args w, (callFunc g args).run Tryd.prog w = .ok (.enter g args) w) (hl : l.length ≤ 1000000)
    (hp : ∀ r ∈ l, ∀ w', Below w.heap.size w w' → Calls Tryd.prog g (#[prv (bs r.1) (bs r.2)] ++ lb) w' fun e w'' => e = .returned (.bool (p r)) ∧ Below w'.heap.size w' w'') :
    Calls Tryd.prog 18 #[v, .func (.func g) #[] lb] w fun e w' => e = .returned (.bool (l.any p)) ∧ Below w.heap.size w w' := by
  have IX := Lib.hid (index_in h p g lb eg hl hp)
  have HA := Lib.hid (idxP_any p l)
  obtain ⟨K, hK⟩ : ∃ K, K = idxP p l := ⟨_, rfl⟩
  rw [← hK] at IX HA
  clear h hp hK
  go_enter Tryd.func18, Tryd.ntmps18
  go_wp2_with fail
  refine IX.out.mono ?_
  rintro e w1 ⟨rfl, h1⟩
  have B1 := Lib.hid h1
  clear h1
  go_wp2_with fail
  go_ret
  exact ⟨by have := HA.out; simp_all, B1.out⟩

/-- What came of a call, as an argument. -/
theorem pairs_of_has {w : World} {B : Nat} {v : Value} {M : List Px.Rec} (h : HasR w B v M) (hl : M.length ≤ 1000000) (hz : ∀ r ∈ M, r.1.length ≤ 140737488351232 ∧ r.2.length ≤ 140737488351232) : PairsIn w v M := by
  rcases h.ways with ⟨rfl, rfl⟩ | ⟨g, cap, rfl, _, hg, hc, hr⟩
  · exact ⟨none, 0, rfl, Nat.le_refl _, by simp, (fun r hr => by cases hr), .inl rfl⟩
  · exact ⟨_, cap, rfl, hc, by omega, hz, .inr ⟨g, 0, rfl, hg, hr⟩⟩
theorem merge_sub {l M : List Px.Rec} (h : Px.IsMerge l M) : M ⊆ l := fun p hp => Px.lastV_mem ((h.2 p.1 p.2).1 hp).1
theorem merge_len {l M : List Px.Rec} (h : Px.IsMerge l M) : M.length ≤ l.length :=
  (Px.apart_nodup h.apart).length_le_of_subset (merge_sub h)
theorem merge_in {w : World} {B : Nat} {v : Value} {l M : List Px.Rec} (hv : HasR w B v M) (h : Px.IsMerge l M) (hl : l.length ≤ 1000000) (hz : ∀ r ∈ l, r.1.length ≤ 140737488351232 ∧ r.2.length ≤ 140737488351232) : PairsIn w v M :=
  pairs_of_has hv (Nat.le_trans (merge_len h) hl) fun r hr => hz r (merge_sub h hr)
theorem PairsIn.sizes {w : World} {v : Value} {l : List Px.Rec} (h : PairsIn w v l) : ∀ r ∈ l, r.1.length ≤ 140737488351232 ∧ r.2.length ≤ 140737488351232 := by
  obtain ⟨_, _, _, _, _, h, _⟩ := h; exact h
theorem PairsIn.form {w : World} {v : Value} {l : List Px.Rec} (h : PairsIn w v l) : ∃ X cap, v = .slice X l.length cap := by
  obtain ⟨X, cap, rfl, _⟩ := h; exact ⟨X, cap, rfl⟩
theorem sizes_app {a b : List Px.Rec} {n : Nat} (ha : ∀ r ∈ a, r.1.length ≤ n ∧ r.2.length ≤ n) (hb : ∀ r ∈ b, r.1.length ≤ n ∧ r.2.length ≤ n) : ∀ r ∈ a ++ b, r.1.length ≤ n ∧ r.2.length ≤ n := fun r hr => by
  rcases List.mem_append.1 hr with h | h
  · exact ha r h
  · exact hb r h

/-- Two lists behind a slice of slices. -/
theorem lists_two {w : World} {g : Nat} {u v : Value} {a b : List Px.Rec} (h0 : w.cell? ⟨g, 0, none⟩ = some u) (h1 : w.cell? ⟨g, 1, none⟩ = some v) (ha : PairsIn w u a) (hb : PairsIn w v b) : ListsIn w g [a, b] := fun i hi => by
  rcases (by simp at hi; omega : i = 0 ∨ i = 1) with rfl | rfl
  · exact ⟨u, h0, ha⟩
  · exact ⟨v, h1, hb⟩
theorem lists_three {w : World} {g : Nat} {u v x : Value} {a b c : List Px.Rec} (h0 : w.cell? ⟨g, 0, none⟩ = some u) (h1 : w.cell? ⟨g, 1, none⟩ = some v) (h2 : w.cell? ⟨g, 2, none⟩ = some x) (ha : PairsIn w u a) (hb : PairsIn w v b) (hc : PairsIn w x c) : ListsIn w g [a, b, c] := fun i hi => by
  rcases (by simp at hi; omega : i = 0 ∨ i = 1 ∨ i = 2) with rfl | rfl | rfl
  · exact ⟨u, h0, ha⟩
  · exact ⟨v, h1, hb⟩
  · exact ⟨x, h2, hc⟩
theorem lists_one {w : World} {g : Nat} {u : Value} {a : List Px.Rec} (h0 : w.cell? ⟨g, 0, none⟩ = some u) (ha : PairsIn w u a) : ListsIn w g [a] := fun i hi => by
  rcases (by simp at hi; omega : i = 0) with rfl
  exact ⟨u, h0, ha⟩

end Go.Proofs.YtjafjhhmjfpmoaaDoor
