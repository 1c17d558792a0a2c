/-
  volume: Split's volumes joined; parted.
-/
import Derived.Test.YtdhnjbiigpiecaaDoorVolD
import Derived.Test.YtdhnjbiigpiecaaDoorTellAt
import Derived.Test.YtdhnjbiigpiecaaDoorPick
namespace Go.Proofs.YtdhnjbiigpiecaaDoor
open Go.RowKit

def psOf (s : List UInt8) (R : Nat) : List Part := (List.range (vmany s.length R)).map fun i => (i, vpart s R i)
theorem psOf_len (s : List UInt8) (R : Nat) : (psOf s R).length = vmany s.length R := by simp [psOf]
theorem psOf_get (s : List UInt8) (R j : Nat) (h : j < (psOf s R).length) : (psOf s R)[j] = (j, vpart s R j) := by simp [psOf]
theorem vols_get (s : List UInt8) (R j : Nat) (h : j < (vols s R).length) : (vols s R)[j] = vol j (vmany s.length R) (vpart s R j) := by simp [vols]
theorem psOf_apart (s : List UInt8) (R : Nat) : (psOf s R).Pairwise fun p q => p.1 ≠ q.1 := by
  rw [List.pairwise_iff_getElem]
  intro i j hi hj hij
  rw [psOf_get, psOf_get]
  exact Nat.ne_of_lt hij
theorem psOf_ok {s : List UInt8} {R : Nat} (hR : R ≤ 3072) : ∀ q ∈ psOf s R, q.1 < vmany s.length R ∧ q.2.length ≤ 3072 := fun q hq => by
  obtain ⟨i, hi, rfl⟩ := List.mem_map.1 hq
  exact ⟨List.mem_range.1 hi, by rw [vpart_len]; omega⟩
theorem joinP_all {s : List UInt8} {R : Nat} (h : 0 < R) : joinP (psOf s R) (vmany s.length R) = s := by
  have e : ∀ k ≤ vmany s.length R, joinP (psOf s R) k = ((List.range k).map (vpart s R)).flatten := fun k hk => by
    unfold joinP
    congr 1
    refine List.map_congr_left fun i hi => ?_
    have hi' := List.mem_range.1 hi
    exact getP_of (psOf_apart s R) (List.mem_map.2 ⟨i, List.mem_range.2 (by omega), rfl⟩)
  rw [e _ (Nat.le_refl _), vpart_all, vmany_all s R h]
theorem vol_len {i n : Nat} {p : List UInt8} (hi : i ≤ 1000) (hn : n ≤ 1000) (hp : p.length ≤ 3072) : (vol i n p).length = 512 + (p.length + Bk.pad p.length) := by
  rw [vol, List.length_append, vhdr_len (by omega) (by omega) (by omega), Bk.fill_len]

theorem two_of {α : Type} {l : List α} (h : l.length = 2) : ∃ a b, l = [a, b] := by
  match l, h with
  | [a, b], _ => exact ⟨a, b, rfl⟩
/-- Join of what Split made. -/
theorem join_vols {w : World} {B : Nat} {v : Value} (s : List UInt8) (R : Nat) (hR1 : 512 ≤ R) (hR : R ≤ 3072) (hs : s.length ≤ 8000) (hv : HasT w B v (vols s R)) (hE : ErrT w) :
    Calls Tryd.prog 8 #[v] w fun e w' => e = .returned (.tuple #[.string (bs s), .nilIface]) ∧ Below w.heap.size w w' := by
  have hN1 : 1 ≤ vmany s.length R := by unfold vmany; omega
  have hN2 := vmany_le s.length R hR1 hs
  rcases hv.ways with ⟨rfl, h0⟩ | ⟨g, cap, cur, rfl, _, hg, hc, _, _, _, hrow⟩
  · have := vols_len s R; rw [h0] at this; simp at this; omega
  · refine (join_run (vmany s.length R) (by omega) hN1 (psOf s R) (vols s R) g 0 cap w (by rw [psOf_len, vols_len]; exact Nat.le_refl _) (fun j hj => by rw [vols_get, psOf_get]) (psOf_ok hR) (psOf_apart s R) (by rw [vols_len]; omega) (by rw [vols_len]; omega) hg hrow hE 0 (.inl (by rw [psOf_len, vols_len]))).mono ?_
    rintro e w' ⟨hb, h | h | h⟩
    · obtain ⟨_, _, rfl⟩ := h
      rw [joinP_all (by omega)]
      exact ⟨rfl, hb⟩
    · exact absurd (psOf_len s R) h.2.1
    · have := h.1; rw [psOf_len, vols_len] at this; omega

set_option maxRecDepth 100000 in
set_option maxHeartbeats 4000000 in
theorem parted_any (w : World) (hE : ErrT w) : Calls Tryd.prog 5 #[] w fun e w' => e = .returned (.bool true) ∧ Below w.heap.size w w' := by
  obtain ⟨A, hA, rA⟩ := rep_named 97 600 (by omega)
  have hAs : A.data.toList.length = 600 := by rw [hA]; simp
  have hAz : A.size = 600 := by rw [← list_size]; exact hAs
  have RA := Lib.hid rA
  have SP0 := fun w => split_any A (by omega) 1 (by omega) (by omega) w
  have SP1 : ∀ w : World, Calls Tryd.prog 6 #[.string A, .int .i64 2] w fun e w' => ∃ v, e = .returned (.tuple #[v, .nilIface]) ∧ HasT w' w.heap.size v (vols A.data.toList 512) ∧ Below w.heap.size w w' := SP0
  have SP := Lib.hid SP1
  have JN := Lib.hid (fun (w' : World) (B : Nat) (v : Value) (hv : HasT w' B v (vols A.data.toList 512)) (h : Below w.heap.size w w') => join_vols A.data.toList 512 (by omega) (by omega) (by omega) hv (hE.below h))
  simp only [bs_of] at JN
  have hm : vmany A.data.toList.length 512 = 2 := by rw [hAs]; rfl
  have hVl : (vols A.data.toList 512).length = 2 := by rw [vols_len, hm]
  have hl0 : ((vols A.data.toList 512)[0]'(by omega)).length = 1024 := by
    rw [vols_get, vol_len (by omega) (by omega) (by rw [vpart_len]; omega), vpart_len, hAs]; rfl
  have hl1 : ((vols A.data.toList 512)[1]'(by omega)).length = 1024 := by
    rw [vols_get, vol_len (by omega) (by omega) (by rw [vpart_len]; omega), vpart_len, hAs]; rfl
  have hl0' : ((vols A.data.toList 512)[0]'(by omega)).length = 1024 := hl0
  obtain ⟨VL, hVL⟩ : ∃ VL, VL = vols A.data.toList 512 := ⟨_, rfl⟩
  have ex : ∃ a b, VL = [a, b] ∧ a.length = 1024 ∧ b.length = 1024 := by
    rw [hVL]
    obtain ⟨a, b, e⟩ := two_of hVl
    refine ⟨a, b, e, ?_, ?_⟩
    · have := hl0
      simp only [e] at this
      exact this
    · have := hl1
      simp only [e] at this
      exact this
  rw [← hVL] at SP JN
  obtain ⟨a, b, hab, ha, hb⟩ := ex
  subst hab
  have za : ((bs a).size : Int) = 1024 := by rw [bs_size, ha]; rfl
  have zb : ((bs b).size : Int) = 1024 := by rw [bs_size, hb]; rfl
  have ee : (A.toList == A.toList) = true := by simp
  clear rA SP0 SP1 hVL hm hVl hl0 hl1 hl0' ha hb hA hAs
  go_enter Tryd.func5, Tryd.ntmps5
  go_wp2_with fail
  refine (RA.out _).mono ?_
  rintro e w1 ⟨rfl, h1⟩
  have B1 := Lib.hid h1
  clear h1
  go_wp2_with fail
  refine (SP.out _).mono ?_
  rintro e w2 ⟨v, rfl, hv, h2⟩
  rcases hv.ways with ⟨_, h0⟩ | ⟨g, cap, cur, rfl, _, hg, _⟩
  · cases h0
  have H2 := Lib.hid hv
  have B2 := Lib.hid (thenB B1.out h2)
  clear h2 hv
  go_wp2_with fail
  refine (JN.out _ _ _ H2.out B2.out).mono ?_
  rintro e w3 ⟨rfl, h3⟩
  have B3 := Lib.hid (thenB B2.out h3)
  have H3 := H2.out.later h3
  rcases H3.ways with ⟨_, h0⟩ | ⟨g', cap', cur', e', _, _, _, _, _, _, hrow⟩
  · cases h0
  cases e'
  have c0 : w3.cell? ⟨g, 0, none⟩ = some (.string (bs a)) := hrow 0 (by simp)
  have c1 : w3.cell? ⟨g, 1, none⟩ = some (.string (bs b)) := hrow 1 (by simp)
  clear h3 H3 hrow
  go_wp2_with fail
  refine (RA.out _).mono ?_
  rintro e w4 ⟨rfl, h4⟩
  have B4 := Lib.hid (thenB B3.out h4)
  clear h4
  go_wp2_with fail
  go_ret
  exact ⟨by simp, B4.out⟩

end Go.Proofs.YtdhnjbiigpiecaaDoor
