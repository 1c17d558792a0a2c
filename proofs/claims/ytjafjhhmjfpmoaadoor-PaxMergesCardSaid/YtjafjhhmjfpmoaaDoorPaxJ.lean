/-
  A list of records as an argument.
-/
import Derived.Test.YtjafjhhmjfpmoaaDoorPaxR
import Derived.Deep.SlicePairs
import Derived.OpenShut
import Derived.SizedLaws
namespace Go.Proofs.YtjafjhhmjfpmoaaDoor
open Go.RowKit

theorem weightsAll_mem {H : Type} {P : Program} {e : TypeId} : ∀ {l : List (DataW H)} {d : DataW H} {n : Nat}, d ∈ l → n ∈ d.weights P e → n ∈ DataW.weightsAll P e l
  | x :: r, d, n, hd, hn => by
    simp only [DataW.weightsAll]
    rcases List.mem_cons.1 hd with rfl | hd
    · exact List.mem_append_left _ hn
    · exact List.mem_append_right _ (weightsAll_mem hd hn)

/-- A slice of records that came in. -/
def PairsIn (W : World) (v : Value) (l : List Px.Rec) : Prop :=
  ∃ X cap, v = .slice X l.length cap ∧ l.length ≤ cap ∧ l.length ≤ 4398046510976 ∧ (∀ r ∈ l, r.1.length ≤ 140737488351232 ∧ r.2.length ≤ 140737488351232) ∧ (l = [] ∨ ∃ b off, X = some ⟨b, off, none⟩ ∧ b < W.heap.size ∧ RowR W b off l)
theorem PairsIn.below {W W' : World} {v : Value} {l : List Px.Rec} (h : PairsIn W v l) (hb : Below W.heap.size W W') : PairsIn W' v l := by
  obtain ⟨X, cap, e, h1, h2, h3, h4⟩ := h
  exact ⟨X, cap, e, h1, h2, h3, h4.imp id fun ⟨b, off, e1, e2, e3⟩ => ⟨b, off, e1, Nat.lt_of_lt_of_le e2 hb.size, e3.below hb e2⟩⟩

set_option maxRecDepth 100000 in
theorem pairs_of {H : Type} {enc : TypeId × Value → H} {W : World} {v : Value} {d : DataW H} {ps : List MemPlace} {base : Nat} (hok : Value.okWide Tryd.prog W .any base 23 v)
    (h : DataW.Trod enc Tryd.prog W 0 (fun _ => true) true 23 v d ps) (hz : ∀ n ∈ d.weights Tryd.prog 23, n ≤ reachBytes) : ∃ l, PairsIn W v l := by
  obtain ⟨a0, len, cap, rfl⟩ := WideShapes.okWide_slice Tryd.underlying23 hok
  obtain ⟨fuel, hf⟩ := h
  rcases Deep.open_slice_pairs Tryd.underlying23 Tryd.underlying32 (by kernel_rfl) rfl rfl (by kernel_rfl) (by kernel_rfl) hf with ⟨hcs, _⟩ | ⟨a, len', cap', m, n, V0, V1, D0, D1, P0, P1, hcs, _, hl, _, hm, hx, hc⟩
  · obtain ⟨rfl, rfl, rfl⟩ : a0 = none ∧ len = 0 ∧ cap = 0 := by simpa [Value.cells] using hcs
    exact ⟨[], none, 0, rfl, Nat.le_refl _, by simp, (fun r hr => by cases hr), .inl rfl⟩
  · obtain ⟨rfl, rfl, rfl⟩ : a0 = some a ∧ len = len' ∧ cap = cap' := by simpa [Value.cells] using hcs
    have hm' : m = cap := by simpa using hm
    subst hm'
    obtain ⟨hxd, _⟩ := Prod.mk.inj hx
    have hV : ∀ i, i < m → ∃ x y : ByteArray, V0 i = .string x ∧ V1 i = .string y ∧ D0 i = .lit (.string x.data.toList) ∧ D1 i = .lit (.string y.data.toList) := fun i hi => by
      obtain ⟨_, _, h0, h1⟩ := hc i hi
      obtain ⟨x, e0, x0, _⟩ := DataW.trod_string Tryd.underlying9 h0
      obtain ⟨y, e1, x1, _⟩ := DataW.trod_string Tryd.underlying9 h1
      exact ⟨x, y, by simpa using e0, by simpa using e1, (Prod.mk.inj x0).1, (Prod.mk.inj x1).1⟩
    obtain ⟨f, hf2⟩ := Deep.choose_lt (α := ByteArray × ByteArray) (p := fun i q => V0 i = .string q.1 ∧ V1 i = .string q.2 ∧ D0 i = .lit (.string q.1.data.toList) ∧ D1 i = .lit (.string q.2.data.toList)) (n := m) (fun i hi => by
      obtain ⟨x, y, h⟩ := hV i hi
      exact ⟨(x, y), h⟩)
    have hw := hz
    rw [hxd] at hw
    simp only [DataW.weights, Tryd.underlying23] at hw
    have hlen : (len + (m - len)) * Tryd.prog.bytesOf 32 ≤ reachBytes := by
      have := hw _ (List.mem_cons_self ..)
      simpa using this
    have hb32 : Tryd.prog.bytesOf 32 = 32 := by kernel_rfl
    rw [hb32] at hlen
    unfold reachBytes at hlen
    have hst : ∀ j, j < len → (f j).1.size ≤ 140737488351232 ∧ (f j).2.size ≤ 140737488351232 := fun j hj => by
      obtain ⟨_, _, d0, d1⟩ := hf2 j (by omega)
      have hel : (DataW.agg [D0 j, D1 j]) ∈ (List.range len).map fun i => DataW.agg [D0 i, D1 i] := List.mem_map.2 ⟨j, List.mem_range.2 hj, rfl⟩
      have hin : ∀ n, n ∈ (DataW.agg [D0 j, D1 j]).weights Tryd.prog 32 → n ≤ reachBytes := fun n hn =>
        hw n (List.mem_cons_of_mem _ (List.mem_append_left _ (weightsAll_mem hel hn)))
      have hwt : (DataW.agg [D0 j, D1 j]).weights Tryd.prog 32 = [(f j).1.size, (f j).2.size] := by
        rw [d0, d1]
        simp [DataW.weights, DataW.weightsEach, Tryd.underlying32]
      rw [hwt] at hin
      have a1 := hin (f j).1.size (by simp)
      have a2 := hin (f j).2.size (by simp)
      unfold reachBytes at a1 a2
      exact ⟨by omega, by omega⟩
    refine ⟨(List.range len).map fun i => ((f i).1.data.toList, (f i).2.data.toList), some a, m, by simp, by simpa using hl, by simp; omega, ?_, ?_⟩
    · intro r hr
      obtain ⟨i, hi, rfl⟩ := List.mem_map.1 hr
      have := hst i (List.mem_range.1 hi)
      simpa using this
    · by_cases h0 : len = 0
      · subst h0; exact .inl rfl
      · right
        obtain ⟨b, off, spot⟩ := a
        have hspot : spot = none := by simpa [Addr.add] using World.cell?_spot (hc 0 (by omega)).1
        subst hspot
        have hb := (hc 0 (by omega)).1
        rw [WideShapes.add_plain] at hb
        refine ⟨b, off, rfl, World.block_lt_of_cell? W ⟨b, off + 0 * 2, none⟩ hb, fun j hj => ?_⟩
        have hj' : j < len := by simpa using hj
        obtain ⟨c1, c2, _⟩ := hc j (by omega)
        obtain ⟨e1, e2, _⟩ := hf2 j (by omega)
        rw [WideShapes.add_plain] at c1 c2
        rw [e1] at c1
        rw [e2] at c2
        simp only [List.getElem_map, List.getElem_range, bs_of]
        exact ⟨c1, by rw [show off + j * 2 + 1 = off + (j * 2 + 1) by omega]; exact c2⟩

end Go.Proofs.YtjafjhhmjfpmoaaDoor
