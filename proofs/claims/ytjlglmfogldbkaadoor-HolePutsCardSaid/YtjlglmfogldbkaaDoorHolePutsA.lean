/-
  hole.Put at whatever pieces.
-/
import Derived.Test.YtjlglmfogldbkaaDoorHoleH
import Derived.Test.YtjlglmfogldbkaaDoorPick
import Derived.Deep.SlicePairs
import Derived.OpenShut
namespace Go.Proofs.YtjlglmfogldbkaaDoor
open Go.RowKit

set_option maxRecDepth 100000 in
theorem pcs_of {H : Type} {enc : TypeId × Value → H} {W : World} {v : Value} {d : DataW H} {ps : List MemPlace} {base : Nat} (hok : Value.okWide Tryd.prog W .any base 24 v)
    (h : DataW.Trod enc Tryd.prog W 0 (fun _ => true) true 24 v d ps) : ∃ l, Pcs W v l := by
  obtain ⟨a0, len, cap, rfl⟩ := WideShapes.okWide_slice Tryd.underlying24 hok
  obtain ⟨fuel, hf⟩ := h
  rcases Deep.open_slice_pairs Tryd.underlying24 Tryd.underlying36 (by kernel_rfl) rfl rfl (by kernel_rfl) (by kernel_rfl) hf with ⟨hcs, _⟩ | ⟨a, len', cap', m, n, V0, V1, D0, D1, P0, P1, hcs, _, hl, _, hm, _, hc⟩
  · obtain ⟨rfl, rfl, rfl⟩ : a0 = none ∧ len = 0 ∧ cap = 0 := by simpa [Value.cells] using hcs
    exact ⟨[], none, 0, rfl, fun j hj => absurd hj (by simp)⟩
  · obtain ⟨rfl, rfl, rfl⟩ : a0 = some a ∧ len = len' ∧ cap = cap' := by simpa [Value.cells] using hcs
    have hm' : m = cap := by simpa using hm
    subst hm'
    have hV : ∀ i, i < m → ∃ x y : Int, V0 i = .int .i64 x ∧ V1 i = .int .i64 y := fun i hi => by
      obtain ⟨_, _, h0, h1⟩ := hc i hi
      obtain ⟨x, e0, _⟩ := DataW.trod_int Tryd.underlying3 h0
      obtain ⟨y, e1, _⟩ := DataW.trod_int Tryd.underlying3 h1
      exact ⟨x, y, by simpa using e0, by simpa using e1⟩
    obtain ⟨f, hf2⟩ := Deep.choose_lt (α := Int × Int) (p := fun i q => V0 i = .int .i64 q.1 ∧ V1 i = .int .i64 q.2) (n := m) (fun i hi => by
      obtain ⟨x, y, h⟩ := hV i hi
      exact ⟨(x, y), h⟩)
    refine ⟨(List.range len).map f, some a, m, by simp, fun j hj => ?_⟩
    have hj' : j < len := by simpa using hj
    obtain ⟨b, off, spot⟩ := a
    have hspot : spot = none := by simpa [Addr.add] using World.cell?_spot (hc 0 (by omega)).1
    subst hspot
    obtain ⟨c1, c2, _⟩ := hc j (by omega)
    obtain ⟨e1, e2⟩ := hf2 j (by omega)
    rw [WideShapes.add_plain] at c1 c2
    rw [e1] at c1
    rw [e2] at c2
    exact ⟨b, off, rfl, World.block_lt_of_cell? W ⟨b, off + j * 2, none⟩ c1, by rw [c1]; simp, by rw [show off + j * 2 + 1 = off + (j * 2 + 1) by omega, c2]; simp⟩

theorem asc_size0 (n : Nat) (qs : List Hol.Pc) (h : Hol.Asc n 0 qs) : Hol.size qs ≤ n := by
  cases qs with
  | nil => exact Nat.zero_le _
  | cons p r =>
    obtain ⟨a, s⟩ := p
    have h2 := Hol.asc_size n r (a + s + 1) h.2.2.2 (by have := h.2.2.1; omega)
    have e : Hol.size ((a, s) :: r) = s + Hol.size r := by simp [Hol.size]
    omega
theorem asc_ends (n : Nat) (qs : List Hol.Pc) (h : Hol.Asc n 0 qs) : ∀ p ∈ qs, p.1 + p.2 ≤ n := fun p hp => (asc_mem n qs 0 h p hp).2

/-- What Put answers: an error, or the file. -/
def PutV (d : ByteArray) (ps : List (Int × Int)) (size : Int) (T : ByteArray) (E : Value) : Prop :=
  (∃ k : Int, E = .iface 39 (.int .i64 k)) ∨ (E = .nilIface ∧ ∃ (qs : List Hol.Pc) (n : Nat), ps = qs.map Hol.castP ∧ size = n ∧ Hol.Asc n 0 qs ∧ qs.length ≤ 20 ∧ n ≤ 4000 ∧ Hol.size qs = d.size ∧ T = ⟨(Hol.put d.data.toList qs n).toArray⟩)

theorem put_named (d : ByteArray) (v : Value) (ps : List (Int × Int)) (size : Int) (hs2 : size ≤ 9223372036854775807) (hd : d.size ≤ 1000000) :
    ∃ (T : ByteArray) (E : Value), PutV d ps size T E ∧ ∀ w : World, Pcs w v ps → Calls Tryd.prog 10 #[.string d, v, .int .i64 size] w fun e w' => e = .returned (.tuple #[.string T, E]) ∧ Below w.heap.size w w' := by
  by_cases hR : Hol.rightI ps size = true
  · have hR' := hR
    unfold Hol.rightI at hR'
    simp only [Bool.and_eq_true, decide_eq_true_eq] at hR'
    obtain ⟨⟨h0, h20⟩, hgo⟩ := hR'
    obtain ⟨n, rfl⟩ := Int.eq_ofNat_of_zero_le h0
    obtain ⟨qs, rfl, hA⟩ := Hol.right_asc n ps 0 hgo
    rw [List.length_map] at h20
    have hz := asc_size0 n qs hA
    by_cases hd2 : Hol.size qs = d.size
    · by_cases hn : n ≤ 4000
      · exact ⟨_, _, .inr ⟨rfl, qs, n, rfl, rfl, hA, h20, hn, hd2, rfl⟩, fun w hP => put_any d v qs n w hP hA h20 hn hd2⟩
      · refine ⟨⟨#[]⟩, _, .inl ⟨4, rfl⟩, fun w hP => ?_⟩
        have HR := Lib.hid (fun (w : World) (hP : Pcs w v (qs.map Hol.castP)) => right_any v (qs.map Hol.castP) (n : Int) w hP hs2)
        have HZ := Lib.hid (fun w2 (h2 : Below w.heap.size w w2) => size_any v qs w2 (hP.below h2) (by omega) (by omega))
        rw [hR] at HR
        have k1 : ((d.size : Int) != (Hol.size qs : Int)) = false := by simp; omega
        have k2 : (4000 : Int) < n := by omega
        have HP := Lib.hid hP
        have HR2 := Lib.hid hR
        clear hP hR hgo hA hz hd2 h20 h0
        go_enter Tryd.func10, Tryd.ntmps10
        go_wp2_with fail
        refine (HR.out _ HP.out).mono ?_
        rintro e w1 ⟨rfl, h1⟩
        have B1 := Lib.hid h1
        clear h1
        go_wp2_with fail
        refine (HZ.out _ B1.out).mono ?_
        rintro e w2 ⟨rfl, h2⟩
        have B2 := Lib.hid (thenB B1.out h2)
        clear h2 B1
        go_wp2_with fail
        go_ret2
        exact ⟨rfl, B2.out⟩
    · refine ⟨⟨#[]⟩, _, .inl ⟨1, rfl⟩, fun w hP => ?_⟩
      by_cases hbig : Hol.size qs ≤ 9223372036854775807
      · have HR := Lib.hid (fun (w : World) (hP : Pcs w v (qs.map Hol.castP)) => right_any v (qs.map Hol.castP) (n : Int) w hP hs2)
        have HZ := Lib.hid (fun w2 (h2 : Below w.heap.size w w2) => size_any v qs w2 (hP.below h2) (by omega) hbig)
        rw [hR] at HR
        have k1 : ((d.size : Int) != (Hol.size qs : Int)) = true := by simp; omega
        have HP := Lib.hid hP
        have HR2 := Lib.hid hR
        have HD2 := Lib.hid hd2
        clear hP hR hgo hA hz hd2 h20 h0
        go_enter Tryd.func10, Tryd.ntmps10
        go_wp2_with fail
        refine (HR.out _ HP.out).mono ?_
        rintro e w1 ⟨rfl, h1⟩
        have B1 := Lib.hid h1
        clear h1
        go_wp2_with fail
        refine (HZ.out _ B1.out).mono ?_
        rintro e w2 ⟨rfl, h2⟩
        have B2 := Lib.hid (thenB B1.out h2)
        clear h2 B1
        go_wp2_with fail
        go_ret2
        exact ⟨rfl, B2.out⟩
      · exact absurd hz (by omega)
  · have hR' : Hol.rightI ps size = false := by simpa using hR
    refine ⟨⟨#[]⟩, _, .inl ⟨1, rfl⟩, fun w hP => ?_⟩
    have HR := Lib.hid (right_any v ps size w hP hs2)
    rw [hR'] at HR
    have HP := Lib.hid hP
    clear hP hR hR'
    go_enter Tryd.func10, Tryd.ntmps10
    go_wp2_with fail
    refine HR.out.mono ?_
    rintro e w1 ⟨rfl, h1⟩
    have B1 := Lib.hid h1
    clear h1
    go_wp2_with fail
    go_ret2
    exact ⟨rfl, B1.out⟩

end Go.Proofs.YtjlglmfogldbkaaDoor
