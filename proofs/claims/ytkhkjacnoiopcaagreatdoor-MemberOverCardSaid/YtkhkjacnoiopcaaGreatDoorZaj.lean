/-
  A member as an argument.
-/
import Derived.Test.YtkhkjacnoiopcaaGreatDoorZai
import Derived.Deep.SlicePairs
import Derived.OpenShut
import Derived.SizedLaws
set_option linter.unusedVariables false
set_option linter.unusedSimpArgs false

set_option linter.unusedVariables false
set_option linter.unusedSimpArgs false
namespace Go.Proofs.YtkhkjacnoiopcaaGreatDoor
open Go.RowKit Tre Pk

def timeD {H : Type} (s n : Int) : DataW H := .agg [.lit (.int .i64 s), .lit (.int .i64 n)]
theorem one_int : Tryz.prog.cellsOf 3 = 1 := by kernel_rfl
theorem one_u8 : Tryz.prog.cellsOf 5 = 1 := by kernel_rfl
theorem one_str : Tryz.prog.cellsOf 9 = 1 := by kernel_rfl
theorem two_time : Tryz.prog.cellsOf 23 = 2 := by kernel_rfl
section
variable {H : Type} {enc : TypeId × Value → H} {w : World} {base : Nat} {sp : Nat → Bool} {held : Bool}
set_option maxRecDepth 100000 in
theorem time_of {fuel : Nat} {cs : List Value} {x : DataW H × List MemPlace} (h : DataW.trod enc Tryz.prog w base sp held fuel 23 cs = some x) : ∃ s n : Int, cs = [.int .i64 s, .int .i64 n] ∧ x.1 = timeD s n := by
  obtain ⟨xs, n, rfl, rfl, hlen, hxl, hf⟩ := DataW.trod_struct Tryz.underlying23 h
  rw [two_time] at hlen
  match cs, hlen with
  | [c0, c1], _ =>
    match xs, hxl with
    | [y0, y1], _ =>
      have f0 := hf 0 _ rfl
      have f1 := hf 1 _ rfl
      simp only [one_int, List.drop, List.take, List.getElem?_cons_zero, List.getElem?_cons_succ] at f0 f1
      obtain ⟨s, e0, rfl, _⟩ := DataW.trod_int Tryz.underlying3 f0
      obtain ⟨m, e1, rfl, _⟩ := DataW.trod_int Tryz.underlying3 f1
      cases e0; cases e1
      exact ⟨s, m, rfl, rfl⟩
end
section
variable {H : Type} {enc : TypeId × Value → H} {W : World} {base : Nat} {sp : Nat → Bool} {held : Bool}
theorem ft_ent : Tryz.prog.cellsOf 26 = 15 := by kernel_rfl
theorem one_ps : Tryz.prog.cellsOf 24 = 1 := by kernel_rfl

set_option maxRecDepth 100000 in
theorem pcs_of_cells {fuel : Nat} {c : Value} {x : DataW H × List MemPlace} (hf : DataW.trod enc Tryz.prog W 0 (fun _ => true) true fuel 24 [c] = some x) : ∃ l, Pcs W c l ∧ ((∀ n ∈ x.1.weights Tryz.prog 24, n ≤ reachBytes) → l.length ≤ 10000000000000) := by
  have hx : x = (x.1, x.2) := rfl
  rw [hx] at hf
  rcases Deep.open_slice_pairs Tryz.underlying24 Tryz.underlying79 (by kernel_rfl) rfl rfl (by kernel_rfl) (by kernel_rfl) hf with ⟨hcs, _⟩ | ⟨a, len, cap, m, n, V0, V1, D0, D1, P0, P1, hcs, _, hl, _, hm, hxd, hc⟩
  · obtain rfl : c = .slice none 0 0 := by simpa using hcs
    exact ⟨[], ⟨none, 0, rfl, fun j hj => absurd hj (by simp)⟩, fun _ => Nat.zero_le _⟩
  · obtain rfl : c = .slice (some a) len cap := by simpa using hcs
    have hm' : m = cap := by simpa using hm
    subst hm'
    have hV : ∀ i, i < m → ∃ x y : Int, V0 i = .int .i64 x ∧ V1 i = .int .i64 y := fun i hi => by
      obtain ⟨_, _, h0, h1⟩ := hc i hi
      obtain ⟨x, e0, _⟩ := DataW.trod_int Tryz.underlying3 h0
      obtain ⟨y, e1, _⟩ := DataW.trod_int Tryz.underlying3 h1
      exact ⟨x, y, by simpa using e0, by simpa using e1⟩
    obtain ⟨f, hf2⟩ := Deep.choose_lt (α := Int × Int) (p := fun i q => V0 i = .int .i64 q.1 ∧ V1 i = .int .i64 q.2) (n := m) (fun i hi => by
      obtain ⟨x, y, h⟩ := hV i hi
      exact ⟨(x, y), h⟩)
    refine ⟨(List.range len).map f, ⟨some a, m, by simp, fun j hj => ?_⟩, fun hz => ?_⟩
    · have hj' : j < len := by simpa using hj
      obtain ⟨b, off, spot⟩ := a
      have hspot : spot = none := by simpa [Addr.add] using World.cell?_spot (hc 0 (by omega)).1
      subst hspot
      obtain ⟨c1, c2, _⟩ := hc j (by omega)
      obtain ⟨e1, e2⟩ := hf2 j (by omega)
      rw [WideShapes.add_plain] at c1 c2
      rw [e1] at c1
      rw [e2] at c2
      exact ⟨b, off, rfl, World.block_lt_of_cell? W ⟨b, off + j * 2, none⟩ c1, by rw [c1]; simp, by rw [show off + j * 2 + 1 = off + (j * 2 + 1) by omega, c2]; simp⟩
    · have hd := (Prod.mk.inj hxd).1
      rw [hd] at hz
      simp only [DataW.weights, Tryz.underlying24] at hz
      have h1 : (len + (m - len)) * Tryz.prog.bytesOf 79 ≤ reachBytes := by
        have := hz _ (List.mem_cons_self ..)
        simpa using this
      have hb : Tryz.prog.bytesOf 79 = 16 := by kernel_rfl
      rw [hb] at h1
      unfold reachBytes at h1
      rw [List.length_map, List.length_range]
      omega

def entD (e : Ent) (md : DataW H) : DataW H := .agg [.lit (.string e.name), .lit (.int .u8 e.kind), .lit (.int .i64 e.mode), .lit (.int .i64 e.uid), .lit (.int .i64 e.gid), .lit (.int .i64 e.size), timeD e.sec e.nano, .lit (.string e.link), .lit (.string e.user), .lit (.string e.group), .lit (.int .i64 e.major), .lit (.int .i64 e.minor), .lit (.string e.data), md]
/-- What an argument's member may measure. -/
structure Came (W : World) (e : Ent) (mv : Value) : Prop where
  kind : e.kind ≤ 255
  size : e.size ≤ 9223372036854775807
  name : e.name.length ≤ 140737488351232
  link : e.link.length ≤ 140737488351232
  user : e.user.length ≤ 140737488351232
  group : e.group.length ≤ 140737488351232
  data : e.data.length ≤ 140737488351232
  map : e.map.length ≤ 10000000000000
  pcs : Pcs W mv e.map

set_option maxRecDepth 100000 in
theorem ent_of {fuel : Nat} {cs : List Value} {x : DataW H × List MemPlace} (h : DataW.trod enc Tryz.prog W 0 (fun _ => true) true fuel 26 cs = some x) :
    ∃ (e : Ent) (mv : Value) (md : DataW H), cs = (evc e mv).toList ∧ x.1 = entD e md ∧ e.kind ≤ 255 ∧ e.size ≤ 9223372036854775807 ∧ Pcs W mv e.map ∧ ((∀ n ∈ md.weights Tryz.prog 24, n ≤ reachBytes) → e.map.length ≤ 10000000000000) := by
  obtain ⟨xs, n, rfl, rfl, hlen, hxl, hf⟩ := DataW.trod_struct Tryz.underlying26 h
  rw [ft_ent] at hlen
  match cs, hlen with
  | [c0, c1, c2, c3, c4, c5, c6, c7, c8, c9, c10, c11, c12, c13, c14], _ =>
    match xs, hxl with
    | [y0, y1, y2, y3, y4, y5, y6, y7, y8, y9, y10, y11, y12, y13], _ =>
      have f0 := hf 0 _ rfl
      have f1 := hf 1 _ rfl
      have f2 := hf 2 _ rfl
      have f3 := hf 3 _ rfl
      have f4 := hf 4 _ rfl
      have f5 := hf 5 _ rfl
      have f6 := hf 6 _ rfl
      have f7 := hf 7 _ rfl
      have f8 := hf 8 _ rfl
      have f9 := hf 9 _ rfl
      have f10 := hf 10 _ rfl
      have f11 := hf 11 _ rfl
      have f12 := hf 12 _ rfl
      have f13 := hf 13 _ rfl
      simp only [one_int, one_u8, one_str, two_time, one_ps, List.drop, List.take, List.getElem?_cons_zero, List.getElem?_cons_succ] at f0 f1 f2 f3 f4 f5 f6 f7 f8 f9 f10 f11 f12 f13
      obtain ⟨a0, e0, x0, _⟩ := DataW.trod_string Tryz.underlying9 f0
      obtain ⟨k, e1, x1, wf⟩ := DataW.trod_int Tryz.underlying5 f1
      obtain ⟨a2, e2, x2, _⟩ := DataW.trod_int Tryz.underlying3 f2
      obtain ⟨a3, e3, x3, _⟩ := DataW.trod_int Tryz.underlying3 f3
      obtain ⟨a4, e4, x4, _⟩ := DataW.trod_int Tryz.underlying3 f4
      obtain ⟨a5, e5, x5, w5⟩ := DataW.trod_int Tryz.underlying3 f5
      obtain ⟨s, m, e6, x6⟩ := time_of f6
      obtain ⟨a7, e7, x7, _⟩ := DataW.trod_string Tryz.underlying9 f7
      obtain ⟨a8, e8, x8, _⟩ := DataW.trod_string Tryz.underlying9 f8
      obtain ⟨a9, e9, x9, _⟩ := DataW.trod_string Tryz.underlying9 f9
      obtain ⟨a10, e10, x10, _⟩ := DataW.trod_int Tryz.underlying3 f10
      obtain ⟨a11, e11, x11, _⟩ := DataW.trod_int Tryz.underlying3 f11
      obtain ⟨a12, e12, x12, _⟩ := DataW.trod_string Tryz.underlying9 f12
      obtain ⟨l13, p13, b13⟩ := pcs_of_cells f13
      have hb : 0 ≤ k ∧ k < 256 := by have := bounds_u8 wf; omega
      have hk : ((k.toNat : Nat) : Int) = k := Int.toNat_of_nonneg hb.1
      cases e0; cases e1; cases e2; cases e3; cases e4; cases e5; cases e6; cases e7; cases e8; cases e9; cases e10; cases e11; cases e12
      subst x0 x1 x2 x3 x4 x5 x7 x8 x9 x10 x11 x12
      refine ⟨⟨a0.data.toList, k.toNat, a2, a3, a4, a5, s, m, a7.data.toList, a8.data.toList, a9.data.toList, a10, a11, a12.data.toList, l13⟩, c14, y13.1, ?_, ?_, by simp only; omega, (bounds_i64 w5).2, p13, b13⟩
      · unfold evc; simp only [hk, bs_of]
      · unfold entD; simp only [List.map, x6, hk]
set_option maxRecDepth 100000 in
theorem ent_weights (e : Ent) (md : DataW H) : (entD e md : DataW H).weights Tryz.prog 26 = [e.name.length, e.link.length, e.user.length, e.group.length, e.data.length] ++ md.weights Tryz.prog 24 := by
  simp [entD, timeD, DataW.weights, DataW.weightsEach, Tryz.underlying26, Tryz.underlying23]
set_option maxRecDepth 100000 in
theorem came_of {fuel : Nat} {cs : List Value} {x : DataW H × List MemPlace} (h : DataW.trod enc Tryz.prog W 0 (fun _ => true) true fuel 26 cs = some x) (hz : ∀ n ∈ x.1.weights Tryz.prog 26, n ≤ reachBytes) :
    ∃ (e : Ent) (mv : Value), cs = (evc e mv).toList ∧ Came W e mv := by
  obtain ⟨e, mv, md, hc, hx, hk, hs, hp, hm⟩ := ent_of h
  rw [hx, ent_weights] at hz
  have z := fun n hn => hz n (List.mem_append_left _ hn)
  have a1 := z e.name.length (by simp)
  have a2 := z e.link.length (by simp)
  have a3 := z e.user.length (by simp)
  have a4 := z e.group.length (by simp)
  have a5 := z e.data.length (by simp)
  unfold reachBytes at a1 a2 a3 a4 a5
  exact ⟨e, mv, hc, hk, hs, by omega, by omega, by omega, by omega, by omega, hm fun n hn => hz n (List.mem_append_right _ hn), hp⟩
set_option maxRecDepth 100000 in
theorem ent_open {v : Value} {d : DataW H} {ps : List MemPlace} (hok : Value.okWide Tryz.prog W .any base 26 v)
    (h : DataW.Trod enc Tryz.prog W 0 (fun _ => true) true 26 v d ps) (hz : ∀ n ∈ d.weights Tryz.prog 26, n ≤ reachBytes) : ∃ (e : Ent) (mv : Value), v = ev e mv ∧ Came W e mv := by
  obtain ⟨cs, rfl, hsz⟩ := WideShapes.okWide_struct Tryz.underlying26 hok
  obtain ⟨fuel, hf⟩ := h
  obtain ⟨e, mv, hc, hcm⟩ := came_of hf hz
  refine ⟨e, mv, ?_, hcm⟩
  unfold ev
  simp only [Value.cells] at hc
  rw [Array.toList_inj.1 hc]

end
end Go.Proofs.YtkhkjacnoiopcaaGreatDoor
