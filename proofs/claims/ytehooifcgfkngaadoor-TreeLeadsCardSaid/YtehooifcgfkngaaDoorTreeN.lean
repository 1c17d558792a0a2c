/-
  A list of actions as an argument.
-/
import Derived.Test.YtehooifcgfkngaaDoorTreeM
import Derived.Deep.SlicePairs
import Derived.OpenShut
import Derived.SizedLaws
namespace Go.Proofs.YtehooifcgfkngaaDoor
open Go.RowKit Go.Maps Tre

theorem weightsAll_mem {H : Type} {P : Program} {e : TypeId} : ∀ {l : List (DataW H)} {d : DataW H} {n : Nat}, d ∈ l → n ∈ d.weights P e → n ∈ DataW.weightsAll P e l
  | x :: r, d, n, hd, hn => by
    simp only [DataW.weightsAll]
    rcases List.mem_cons.1 hd with rfl | hd
    · exact List.mem_append_left _ hn
    · exact List.mem_append_right _ (weightsAll_mem hd hn)

section
variable {H : Type} {enc : TypeId × Value → H} {w : World} {base : Nat} {sp : Nat → Bool} {held : Bool}
def timeD (s n : Int) : DataW H := .agg [.lit (.int .i64 s), .lit (.int .i64 n)]
def nodeD (n : Nd) : DataW H := .agg [.lit (.int .u8 n.kind), .lit (.int .i64 n.mode), .lit (.int .i64 n.uid), .lit (.int .i64 n.gid), timeD n.sec n.nano, .lit (.string n.data), .lit (.string n.link), .lit (.int .i64 n.major), .lit (.int .i64 n.minor)]
def deedD (x : Deed) : DataW H := .agg [.lit (.int .i64 x.what), .lit (.string x.name), .lit (.string x.to), .lit (.int .i64 x.n), nodeD x.node]
theorem one_int : Tryd.prog.cellsOf 3 = 1 := by kernel_rfl
theorem one_u8 : Tryd.prog.cellsOf 5 = 1 := by kernel_rfl
theorem one_str : Tryd.prog.cellsOf 9 = 1 := by kernel_rfl
theorem two_time : Tryd.prog.cellsOf 33 = 2 := by kernel_rfl
theorem ten_node : Tryd.prog.cellsOf 35 = 10 := by kernel_rfl
theorem ft_act : Tryd.prog.cellsOf 43 = 14 := by kernel_rfl

set_option maxRecDepth 100000 in
theorem time_of {fuel : Nat} {cs : List Value} {x : DataW H × List MemPlace} (h : DataW.trod enc Tryd.prog w base sp held fuel 33 cs = some x) : ∃ s n : Int, cs = [.int .i64 s, .int .i64 n] ∧ x.1 = timeD s n := by
  obtain ⟨xs, n, rfl, rfl, hlen, hxl, hf⟩ := DataW.trod_struct Tryd.underlying33 h
  rw [two_time] at hlen
  match cs, hlen with
  | [c0, c1], _ =>
    match xs, hxl with
    | [y0, y1], _ =>
      have f0 := hf 0 _ rfl
      have f1 := hf 1 _ rfl
      simp only [one_int, List.drop, List.take, List.getElem?_cons_zero, List.getElem?_cons_succ] at f0 f1
      obtain ⟨s, e0, rfl, _⟩ := DataW.trod_int Tryd.underlying3 f0
      obtain ⟨m, e1, rfl, _⟩ := DataW.trod_int Tryd.underlying3 f1
      cases e0; cases e1
      exact ⟨s, m, rfl, rfl⟩
set_option maxRecDepth 100000 in
theorem node_of {fuel : Nat} {cs : List Value} {x : DataW H × List MemPlace} (h : DataW.trod enc Tryd.prog w base sp held fuel 35 cs = some x) : ∃ n : Nd, cs = (ndc n).toList ∧ x.1 = nodeD n ∧ n.kind ≤ 255 := by
  obtain ⟨xs, n, rfl, rfl, hlen, hxl, hf⟩ := DataW.trod_struct Tryd.underlying35 h
  rw [ten_node] at hlen
  match cs, hlen with
  | [c0, c1, c2, c3, c4, c5, c6, c7, c8, c9], _ =>
    match xs, hxl with
    | [y0, y1, y2, y3, y4, y5, y6, y7, y8], _ =>
      have f0 := hf 0 _ rfl
      have f1 := hf 1 _ rfl
      have f2 := hf 2 _ rfl
      have f3 := hf 3 _ rfl
      have f4 := hf 4 _ rfl
      have f5 := hf 5 _ rfl
      have f6 := hf 6 _ rfl
      have f7 := hf 7 _ rfl
      have f8 := hf 8 _ rfl
      simp only [one_int, one_u8, one_str, two_time, List.drop, List.take, List.getElem?_cons_zero, List.getElem?_cons_succ] at f0 f1 f2 f3 f4 f5 f6 f7 f8
      obtain ⟨k, e0, rfl, wf⟩ := DataW.trod_int Tryd.underlying5 f0
      obtain ⟨a1, e1, rfl, _⟩ := DataW.trod_int Tryd.underlying3 f1
      obtain ⟨a2, e2, rfl, _⟩ := DataW.trod_int Tryd.underlying3 f2
      obtain ⟨a3, e3, rfl, _⟩ := DataW.trod_int Tryd.underlying3 f3
      obtain ⟨s, m, e4, e4'⟩ := time_of f4
      obtain ⟨a5, e5, rfl, _⟩ := DataW.trod_string Tryd.underlying9 f5
      obtain ⟨a6, e6, rfl, _⟩ := DataW.trod_string Tryd.underlying9 f6
      obtain ⟨a7, e7, rfl, _⟩ := DataW.trod_int Tryd.underlying3 f7
      obtain ⟨a8, e8, rfl, _⟩ := DataW.trod_int Tryd.underlying3 f8
      have hb : 0 ≤ k ∧ k < 256 := by have := bounds_u8 wf; omega
      have hk : ((k.toNat : Nat) : Int) = k := Int.toNat_of_nonneg hb.1
      cases e0; cases e1; cases e2; cases e3; cases e4; cases e5; cases e6; cases e7; cases e8
      refine ⟨⟨k.toNat, a1, a2, a3, s, m, a5.data.toList, a6.data.toList, a7, a8⟩, ?_, ?_, by simp only; omega⟩
      · unfold ndc; simp only [hk, bs_of]
      · unfold nodeD; simp only [List.map, e4', hk]
set_option maxRecDepth 100000 in
theorem deed_of {fuel : Nat} {cs : List Value} {x : DataW H × List MemPlace} (h : DataW.trod enc Tryd.prog w base sp held fuel 43 cs = some x) : ∃ n : Deed, cs = (dvc n).toList ∧ x.1 = deedD n ∧ n.node.kind ≤ 255 := by
  obtain ⟨xs, n, rfl, rfl, hlen, hxl, hf⟩ := DataW.trod_struct Tryd.underlying43 h
  rw [ft_act] at hlen
  match cs, hlen with
  | [c0, c1, c2, c3, c4, c5, c6, c7, c8, c9, c10, c11, c12, c13], _ =>
    match xs, hxl with
    | [y0, y1, y2, y3, y4], _ =>
      have f0 := hf 0 _ rfl
      have f1 := hf 1 _ rfl
      have f2 := hf 2 _ rfl
      have f3 := hf 3 _ rfl
      have f4 := hf 4 _ rfl
      simp only [one_int, one_str, ten_node, List.drop, List.take, List.getElem?_cons_zero, List.getElem?_cons_succ] at f0 f1 f2 f3 f4
      obtain ⟨a0, e0, rfl, _⟩ := DataW.trod_int Tryd.underlying3 f0
      obtain ⟨a1, e1, rfl, _⟩ := DataW.trod_string Tryd.underlying9 f1
      obtain ⟨a2, e2, rfl, _⟩ := DataW.trod_string Tryd.underlying9 f2
      obtain ⟨a3, e3, rfl, _⟩ := DataW.trod_int Tryd.underlying3 f3
      obtain ⟨m, e4, e4', hk⟩ := node_of f4
      cases e0; cases e1; cases e2; cases e3; cases e4
      refine ⟨⟨a0, a1.data.toList, a2.data.toList, a3, m⟩, ?_, ?_, hk⟩
      · unfold dvc; simp only [bs_of]
      · unfold deedD; simp only [List.map, e4']
theorem deed_weights (x : Deed) : (deedD x : DataW H).weights Tryd.prog 43 = [x.name.length, x.to.length, x.node.data.length, x.node.link.length] := by
  simp [deedD, nodeD, timeD, DataW.weights, DataW.weightsEach, Tryd.underlying43, Tryd.underlying35, Tryd.underlying33]
end

instance : Inhabited Deed := ⟨⟨0, [], [], 0, zero⟩⟩
def RowD (W : World) (b off : Nat) (l : List Deed) : Prop := ∀ (j : Nat) (hj : j < l.length) (k : Nat), k < 14 → W.cell? ⟨b, off + j * 14 + k, none⟩ = (dvc l[j])[k]?
theorem RowD.below {W W' : World} {b off D : Nat} {l : List Deed} (h : RowD W b off l) (hb : Below D W W') (hD : b < D) : RowD W' b off l := fun j hj k hk => (hb.cell (p := ⟨b, off + j * 14 + k, none⟩) hD).trans (h j hj k hk)
def Fits (x : Deed) : Prop := x.node.kind ≤ 255 ∧ x.name.length ≤ 140737488351232 ∧ x.to.length ≤ 140737488351232 ∧ x.node.data.length ≤ 140737488351232 ∧ x.node.link.length ≤ 140737488351232
/-- A slice of actions that came in. -/
def DeedsIn (W : World) (v : Value) (l : List Deed) : Prop :=
  ∃ X cap, v = .slice X l.length cap ∧ l.length ≤ cap ∧ l.length ≤ 1000000000000 ∧ (∀ x ∈ l, Fits x) ∧ (l = [] ∨ ∃ b off, X = some ⟨b, off, none⟩ ∧ b < W.heap.size ∧ RowD W b off l)
theorem DeedsIn.below {W W' : World} {v : Value} {l : List Deed} (h : DeedsIn W v l) (hb : Below W.heap.size W W') : DeedsIn W' v l := by
  obtain ⟨X, cap, e, h1, h2, h3, h4⟩ := h
  exact ⟨X, cap, e, h1, h2, h3, h4.imp id fun ⟨b, off, e1, e2, e3⟩ => ⟨b, off, e1, Nat.lt_of_lt_of_le e2 hb.size, e3.below hb e2⟩⟩

set_option maxRecDepth 100000 in
theorem deeds_of {H : Type} {enc : TypeId × Value → H} {W : World} {v : Value} {d : DataW H} {ps : List MemPlace} {base : Nat} (hok : Value.okWide Tryd.prog W .any base 22 v)
    (h : DataW.Trod enc Tryd.prog W 0 (fun _ => true) true 22 v d ps) (hz : ∀ n ∈ d.weights Tryd.prog 22, n ≤ reachBytes) : ∃ l, DeedsIn W v l := by
  obtain ⟨a0, len, cap, rfl⟩ := WideShapes.okWide_slice Tryd.underlying22 hok
  obtain ⟨fuel, hf⟩ := h
  rcases Deep.open_slice Tryd.underlying22 hf with ⟨hcs, _⟩ | ⟨a, len', cap', m, n, D, Pl, hcs, _, hl, hcm, hm, hx, hi⟩
  · obtain ⟨rfl, rfl, rfl⟩ : a0 = none ∧ len = 0 ∧ cap = 0 := by simpa [Value.cells] using hcs
    exact ⟨[], none, 0, rfl, Nat.le_refl _, by simp, (fun r hr => by cases hr), .inl rfl⟩
  · obtain ⟨rfl, rfl, rfl⟩ : a0 = some a ∧ len = len' ∧ cap = cap' := by simpa [Value.cells] using hcs
    have hm' : m = cap := by simpa using hm
    subst hm'
    obtain ⟨hxd, _⟩ := Prod.mk.inj hx
    obtain ⟨f, hf2⟩ := Deep.choose_lt (α := Deed) (p := fun i x => (W.cells? 0 (a.add (i * 14)) 14 = some (dvc x).toList) ∧ D i = deedD x ∧ x.node.kind ≤ 255) (n := m) (fun i hi' => by
      obtain ⟨cs', hc, ht⟩ := hi i hi'
      rw [ft_act] at hc
      obtain ⟨x, rfl, hx2, hk⟩ := deed_of ht
      exact ⟨x, hc, hx2, hk⟩)
    have hw := hz
    rw [hxd] at hw
    simp only [DataW.weights, Tryd.underlying22] at hw
    have hlen : (len + (m - len)) * Tryd.prog.bytesOf 43 ≤ reachBytes := by
      have := hw _ (List.mem_cons_self ..)
      simpa using this
    have hb32 : Tryd.prog.bytesOf 43 = 144 := by kernel_rfl
    rw [hb32] at hlen
    unfold reachBytes at hlen
    have hst : ∀ j, j < len → Fits (f j) := fun j hj => by
      obtain ⟨_, d0, hk⟩ := hf2 j (by omega)
      have hel : D j ∈ (List.range len).map D := List.mem_map.2 ⟨j, List.mem_range.2 hj, rfl⟩
      have hin : ∀ n, n ∈ (D j).weights Tryd.prog 43 → n ≤ reachBytes := fun n hn =>
        hw n (List.mem_cons_of_mem _ (List.mem_append_left _ (weightsAll_mem hel hn)))
      rw [d0, deed_weights] at hin
      have a1 := hin (f j).name.length (by simp)
      have a2 := hin (f j).to.length (by simp)
      have a3 := hin (f j).node.data.length (by simp)
      have a4 := hin (f j).node.link.length (by simp)
      unfold reachBytes at a1 a2 a3 a4
      exact ⟨hk, by omega, by omega, by omega, by omega⟩
    refine ⟨(List.range len).map f, some a, m, by simp, by simpa using hl, by simp; omega, ?_, ?_⟩
    · intro r hr
      obtain ⟨i, hi', rfl⟩ := List.mem_map.1 hr
      exact hst i (List.mem_range.1 hi')
    · by_cases h0 : len = 0
      · subst h0; exact .inl rfl
      · right
        have hat : ∀ j, j < m → ∀ k, k < 14 → W.cell? ((a.add (j * 14)).add k) = (dvc (f j))[k]? := fun j hj k hk => by
          obtain ⟨_, _, hcl⟩ := World.cells?_some (hf2 j hj).1
          rw [hcl k hk]; simp
        obtain ⟨b, off, spot⟩ := a
        have hspot : spot = none := by
          have := hat 0 (by omega) 0 (by omega)
          simp only [Nat.zero_mul] at this
          have h2 : W.cell? ((⟨b, off, spot⟩ : Addr).add 0 |>.add 0) = some (.int .i64 (f 0).what) := this
          simpa [Addr.add] using World.cell?_spot h2
        subst hspot
        have h00 := hat 0 (by omega) 0 (by omega)
        rw [WideShapes.add_plain, WideShapes.add_plain] at h00
        refine ⟨b, off, rfl, World.block_lt_of_cell? W ⟨b, off + 0 * 14 + 0, none⟩ (u := .int .i64 (f 0).what) h00, fun j hj k hk => ?_⟩
        have hj' : j < len := by simpa using hj
        have := hat j (by omega) k hk
        rw [WideShapes.add_plain, WideShapes.add_plain] at this
        rw [this]
        simp

end Go.Proofs.YtehooifcgfkngaaDoor
