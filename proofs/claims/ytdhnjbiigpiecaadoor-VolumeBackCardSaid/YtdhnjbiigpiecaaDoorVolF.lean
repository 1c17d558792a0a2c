/-
  slices.Clone, slices.Delete of texts; a pair of texts swapped.
-/
import Derived.Test.YtdhnjbiigpiecaaDoorVolE
import Derived.Laws.IdiomCopy
import Derived.Deep.Slices
import Derived.Deep.Grids
namespace Go.Proofs.YtdhnjbiigpiecaaDoor
open Go.RowKit

theorem clone_row {w : World} {g cap : Nat} {l : List (List UInt8)} (hrow : RowS w g 0 l) (hl : l.length ≤ 100) :
    Calls Tryd.prog 10 #[.slice (some ⟨g, 0, none⟩) l.length cap] w fun e w' => ∃ v', e = .returned v' ∧ HasT w' w.heap.size v' l ∧ Below w.heap.size w w' := by
  refine (Tryd.slices_Clone_string g 0 l.length cap (l.map bs) w (by simp) (by omega) (fun j hj => ?_)).mono ?_
  · have hj' : j < l.length := by simpa using hj
    rw [hrow j hj']
    simp [List.getD, hj']
  · rintro e w' ⟨v', rfl, ho, _, hb⟩
    refine ⟨v', rfl, ?_, hb⟩
    have e : ((l.map bs).take l.length).map Value.string = txCells l := by
      rw [List.take_of_length_le (by simp)]
      simp [txCells]
    rw [e] at ho
    exact ho

theorem strsOf_list (l : List (List UInt8)) : Lib.strsOf (fun i => bs (l.getD i [])) l.length = l := by
  unfold Lib.strsOf
  apply List.ext_getElem?
  intro i
  by_cases h : i < l.length
  · simp [h, bs_list, List.getD]
  · simp [h]

theorem delete_texts {w : World} {B : Nat} {v : Value} {l : List (List UInt8)} (h : HasT w B v l) (hB : B ≤ w.heap.size) (k : Nat) (hk : k < l.length) :
    Calls Tryd.prog 11 #[v, .int .i64 k, .int .i64 ((k : Int) + 1)] w fun e w' => ∃ g cap, e = .returned (.slice (some ⟨g, 0, none⟩) (l.take k ++ l.drop (k + 1)).length cap) ∧ g < w'.heap.size ∧ RowS w' g 0 (l.take k ++ l.drop (k + 1)) ∧ Below B w w' := by
  rcases h.ways with ⟨_, h0⟩ | ⟨g, cap, cur, rfl, hg1, hg, hc, hblk, _, hcm, hrow⟩
  · rw [h0] at hk; cases hk
  · have hln : (l.take k ++ l.drop (k + 1)).length = l.length - 1 := by rw [List.length_append, List.length_take, List.length_drop]; omega
    have hd := Tryd.slices_Delete_string_cells g 0 l.length cap k (k + 1) (fun i => bs (l.getD i [])) w hc (by unfold maxLen at hcm; exact hcm) (by omega) (by omega) (fun j hj => by rw [hrow j hj]; simp [List.getD, hj]) (fun j hj => hblk.frozen _)
    rw [strsOf_list, show (((k + 1 : Nat) : Int)) = (k : Int) + 1 by omega] at hd
    refine hd.mono ?_
    rintro e w' ⟨rfl, q, rfl⟩
    refine ⟨g, cap, by rw [hln, show k + 1 - k = 1 by omega], ?_, fun j hj => ?_, ?_⟩
    · rw [size_setCells]; exact hg
    · have hj2 : j < ((l.take k ++ l.drop (k + 1) ++ List.replicate (k + 1 - k) []).map (fun x : List UInt8 => Value.string ⟨x.toArray⟩)).length := by
        rw [List.length_map, List.length_append]; omega
      have hall : ∀ i, i < ((l.take k ++ l.drop (k + 1) ++ List.replicate (k + 1 - k) []).map (fun x : List UInt8 => Value.string ⟨x.toArray⟩)).length → ((w.drewN q).cell? ⟨g, 0 + i, none⟩).isSome = true := fun i hi => by
        have hi2 : i < l.length := by
          rw [List.length_map, List.length_append, hln, List.length_replicate] at hi; omega
        show (w.cell? ⟨g, 0 + i, none⟩).isSome = true
        rw [hrow i hi2]; rfl
      rw [World.cell?_setCells_in g _ 0 _ hall j hj2]
      rw [List.getElem_map, List.getElem_append_left hj]
      rfl
    · exact below_setCells (below_drewN (Below.refl _ _) q) g hg1 _ _

/-! Volumes in any order. -/
def volf (n : Nat) (q : Part) : List UInt8 := vol q.1 n q.2
theorem vols_psOf (s : List UInt8) (R : Nat) : vols s R = (psOf s R).map (volf (vmany s.length R)) := by simp [vols, psOf, volf]
theorem apart_perm {ps qs : List Part} (h : ps.Perm qs) (hq : qs.Pairwise fun p q => p.1 ≠ q.1) : ps.Pairwise fun p q => p.1 ≠ q.1 :=
  (h.pairwise_iff (fun h e => h e.symm)).2 hq
theorem joinP_perm {s : List UInt8} {R : Nat} (h : 0 < R) {ps : List Part} (hp : ps.Perm (psOf s R)) : joinP ps (vmany s.length R) = s := by
  have e : ∀ k ≤ vmany s.length R, joinP ps k = ((List.range k).map (vpart s R)).flatten := fun k hk => by
    unfold joinP
    congr 1
    refine List.map_congr_left fun i hi => ?_
    have hi' := List.mem_range.1 hi
    exact getP_of (apart_perm hp (psOf_apart s R)) (hp.mem_iff.2 (List.mem_map.2 ⟨i, List.mem_range.2 (by omega), rfl⟩))
  rw [e _ (Nat.le_refl _), vpart_all, vmany_all s R h]
/-- Two of a list swapped. -/
def swapP (ps : List Part) (k : Nat) (h0 : 0 < ps.length) (hk : k < ps.length) : List Part := (ps.set 0 ps[k]).set k ps[0]
theorem swapP_perm (ps : List Part) (k : Nat) (h0 : 0 < ps.length) (hk : k < ps.length) : (swapP ps k h0 hk).Perm ps := List.set_set_perm h0 hk

section
variable {w : World} {n g cap : Nat} {ps : List Part} (hn : n ≤ 20) (hn1 : 1 ≤ n) (hok : ∀ q ∈ ps, q.1 < n ∧ q.2.length ≤ 3072) (hd : ps.Pairwise fun p q => p.1 ≠ q.1) (hg : g < w.heap.size) (hE : ErrT w)
include hn hn1 hok hd hg hE
/-- Join of all. -/
theorem join_all (h0 : 0 < ps.length) (hrow : RowS w g 0 (ps.map (volf n))) (hps : ps.length = n) :
    Calls Tryd.prog 8 #[.slice (some ⟨g, 0, none⟩) n cap] w fun e w' => e = .returned (.tuple #[.string (bs (joinP ps n)), .nilIface]) ∧ Below w.heap.size w w' := by
  have h := join_run n hn hn1 ps (ps.map (volf n)) g 0 cap w (by simp) (fun j hj => by simp [volf]) hok hd (by simpa using h0) (by simp; omega) hg hrow hE 0 (.inl (by simp))
  rw [List.length_map, hps] at h
  refine h.mono ?_
  rintro e w' ⟨hb, h | h | h⟩
  · exact ⟨h.2.2, hb⟩
  · exact absurd rfl h.2.1
  · exact absurd h.1 (by omega)
/-- .. of too few. -/
theorem join_few (hl : ps.length ≤ 50) (h0 : 0 < ps.length) (hrow : RowS w g 0 (ps.map (volf n))) (hps : ps.length ≠ n) :
    Calls Tryd.prog 8 #[.slice (some ⟨g, 0, none⟩) ps.length cap] w fun e w' => e = .returned (.tuple #[.string ⟨#[]⟩, .iface 32 (.int .i64 7)]) ∧ Below w.heap.size w w' := by
  have h := join_run n hn hn1 ps (ps.map (volf n)) g 0 cap w (by simp) (fun j hj => by simp [volf]) hok hd (by simpa using h0) (by simp; omega) hg hrow hE 0 (.inl (by simp))
  rw [List.length_map] at h
  refine h.mono ?_
  rintro e w' ⟨hb, h | h | h⟩
  · exact absurd h.2.1 hps
  · exact ⟨h.2.2, hb⟩
  · exact absurd h.1 (by omega)
/-- .. with one twice. -/
theorem join_twice (hl : ps.length ≤ 50) (k : Nat) (hk : k < ps.length) (hrow : RowS w g 0 (ps.map (volf n) ++ [volf n ps[k]])) :
    Calls Tryd.prog 8 #[.slice (some ⟨g, 0, none⟩) (ps.length + 1) cap] w fun e w' => ∃ B, e = .returned (.tuple #[.string ⟨#[]⟩, .iface 51 (.pointer (some ⟨B, 0, none⟩))]) ∧ w'.cell? ⟨B, 0, none⟩ = some (.int .i64 9) ∧ Below w.heap.size w w' := by
  have hln : (ps.map (volf n) ++ [volf n ps[k]]).length = ps.length + 1 := by simp
  obtain ⟨o1, o2⟩ := hok ps[k] (List.getElem_mem hk)
  have h := join_run n hn hn1 ps (ps.map (volf n) ++ [volf n ps[k]]) g 0 cap w (by simp) (fun j hj => by rw [List.getElem_append_left (by simpa using hj)]; simp [volf]) hok hd (by simp) (by simp; omega) hg hrow hE 9
    (.inr ⟨by simp, by
      have e : (ps.map (volf n) ++ [volf n ps[k]])[ps.length]'(by simp) = vol ps[k].1 n ps[k].2 := by
        rw [List.getElem_append_right (by simp)]; simp [volf]
      rw [e]
      exact .twice ps[k].1 ps[k].2 rfl o1 o2 ⟨ps[k], List.getElem_mem hk, rfl⟩⟩)
  rw [hln] at h
  refine h.mono ?_
  rintro e w' ⟨hb, h | h | h⟩
  · exact absurd h.1 (by omega)
  · exact absurd h.1 (by omega)
  · obtain ⟨_, B, e1, e2⟩ := h
    exact ⟨B, e1, e2, hb⟩
end
/-- Join of none. -/
theorem join_none (X : Option Addr) (cap : Nat) (w : World) :
    Calls Tryd.prog 8 #[.slice X 0 cap] w fun e w' => e = .returned (.tuple #[.string ⟨#[]⟩, .iface 32 (.int .i64 8)]) ∧ w' = w := by
  go_enter Tryd.func8, Tryd.ntmps8
  go_wp2_with fail
  go_ret2
  exact ⟨rfl, rfl⟩

/-! Lengths. -/
theorem full_part (s : List UInt8) (q i : Nat) (hq : 1 ≤ q) (hi : i + 1 < vmany s.length (q * 512)) : (vpart s (q * 512) i).length = q * 512 := by
  rw [vpart_len]
  unfold vmany at hi
  have h1 : i + 2 ≤ (s.length + q * 512 - 1) / (q * 512) := by omega
  have h2 : (i + 2) * (q * 512) ≤ s.length + q * 512 - 1 := (Nat.le_div_iff_mul_le (by omega)).1 h1
  rw [Nat.add_mul] at h2
  omega
theorem len_part (s : List UInt8) (q i : Nat) (hq : 1 ≤ q) (hq6 : q ≤ 6) (hn : vmany s.length (q * 512) ≤ 20) (hi : i < vmany s.length (q * 512)) :
    (vol i (vmany s.length (q * 512)) (vpart s (q * 512) i)).length ≤ (q + 1) * 512 ∧ (i + 1 < vmany s.length (q * 512) → (vol i (vmany s.length (q * 512)) (vpart s (q * 512) i)).length = (q + 1) * 512) := by
  have hp : (vpart s (q * 512) i).length ≤ q * 512 := by rw [vpart_len]; omega
  have hl := vol_len (i := i) (n := vmany s.length (q * 512)) (p := vpart s (q * 512) i) (by omega) (by omega) (by omega)
  rw [hl]
  unfold Bk.pad
  refine ⟨by omega, fun h => ?_⟩
  rw [full_part s q i hq h]
  omega

/-! A row of integers that came in. -/
def IntsIn (W : World) (v : Value) (m : List Int) : Prop :=
  ∃ X cap, v = .slice X m.length cap ∧ (m = [] ∨ ∃ b off, X = some ⟨b, off, none⟩ ∧ b < W.heap.size ∧ ∀ (j : Nat) (hj : j < m.length), W.cell? ⟨b, off + j, none⟩ = some (.int .i64 m[j]))
set_option maxRecDepth 100000 in
theorem ints_of {H : Type} {enc : TypeId × Value → H} {W : World} {v : Value} {d : DataW H} {ps : List MemPlace} {base : Nat} (hok : Value.okWide Tryd.prog W .any base 35 v)
    (h : DataW.Trod enc Tryd.prog W 0 (fun _ => true) true 35 v d ps) : ∃ m, IntsIn W v m := by
  obtain ⟨a0, len, cap, rfl⟩ := WideShapes.okWide_slice Tryd.underlying35 hok
  obtain ⟨fuel, hf⟩ := h
  rcases Deep.open_slice1 Tryd.underlying35 (by kernel_rfl) hf with ⟨hcs, _⟩ | ⟨a, len', cap', m, n, V, D, Pl, hcs, _, hl, _, hm, _, hc⟩
  · obtain ⟨rfl, rfl, rfl⟩ : a0 = none ∧ len = 0 ∧ cap = 0 := by simpa [Value.cells] using hcs
    exact ⟨[], none, 0, rfl, .inl rfl⟩
  · obtain ⟨rfl, rfl, rfl⟩ : a0 = some a ∧ len = len' ∧ cap = cap' := by simpa [Value.cells] using hcs
    have hm' : m = cap := by simpa using hm
    subst hm'
    obtain ⟨B, hB⟩ := Deep.choose_lt (α := Int) (p := fun i b => V i = .int .i64 b) (n := m) (fun i hi => by
      obtain ⟨b, h1, _⟩ := DataW.trod_int Tryd.underlying3 (hc i hi).2
      exact ⟨b, by simpa using h1⟩)
    refine ⟨(List.range len).map B, some a, m, by simp, ?_⟩
    by_cases h0 : len = 0
    · subst h0; exact .inl rfl
    · right
      obtain ⟨b, off, spot⟩ := a
      have hspot : spot = none := by simpa [Addr.add] using World.cell?_spot (hc 0 (by omega)).1
      subst hspot
      have hb := (hc 0 (by omega)).1
      rw [WideShapes.add_plain] at hb
      refine ⟨b, off, rfl, World.block_lt_of_cell? W ⟨b, off + 0, none⟩ hb, fun j hj => ?_⟩
      have hj' : j < len := by simpa using hj
      have h1 := (hc j (by omega)).1
      rw [WideShapes.add_plain, hB j (by omega)] at h1
      rw [h1]; simp

end Go.Proofs.YtdhnjbiigpiecaaDoor
