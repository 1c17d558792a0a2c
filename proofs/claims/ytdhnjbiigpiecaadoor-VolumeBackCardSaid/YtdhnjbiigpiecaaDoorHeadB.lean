/-
  head: fits, Full, Named; strings.Cut at one byte.
-/
import Derived.Test.YtdhnjbiigpiecaaDoorHeadA
import Derived.Test.YtdhnjbiigpiecaaDoorStrs
import Derived.Deep.LoopGhost
import Derived.RegionTactic
import Derived.Test.YtdhnjbiigpiecaaDoorShelf
namespace Go.Proofs.YtdhnjbiigpiecaaDoor
open Go.RowKit

theorem upTo0_index (l : List UInt8) : upTo0 l = if Lib.indexByte l 0 < 0 then l else l.take (Lib.indexByte l 0).toNat := by
  induction l with
  | nil => simp [upTo0, Lib.indexByte]
  | cons c l ih =>
    unfold upTo0 at ih ⊢
    rw [List.takeWhile_cons]
    have hge := Lib.indexByte_ge l 0
    by_cases h : c = 0
    · subst h; simp [Lib.indexByte]
    · have hb : (c != 0) = true := by simpa using h
      rw [hb, if_pos rfl, ih]
      have hb2 : (c == 0) = false := by simpa using h
      by_cases h1 : Lib.indexByte l 0 < 0
      · have h2 : Lib.indexByte l 0 = -1 := by omega
        simp [Lib.indexByte, hb2, h2]
      · rw [if_neg h1]
        obtain ⟨j, hj⟩ := Int.eq_ofNat_of_zero_le (show 0 ≤ Lib.indexByte l 0 by omega)
        have h3 : Lib.indexByte (c :: l) 0 = (j + 1 : Nat) := by simp [Lib.indexByte, hb2, hj]
        rw [h3, hj, if_neg (by omega)]
        simp

theorem index_lt (l : List UInt8) (c : UInt8) : Lib.indexByte l c < l.length ∨ Lib.indexByte l c < 0 := by
  induction l with
  | nil => right; simp [Lib.indexByte]
  | cons b l ih =>
    have := Lib.indexByte_ge l c
    unfold Lib.indexByte
    split
    · left; simp only [List.length_cons]; omega
    · split
      · right; omega
      · rename_i h1 h2
        have h3 : Lib.indexByte l c ≠ -1 := by simpa using h2
        left; simp only [List.length_cons]; omega

set_option maxHeartbeats 1000000 in
theorem zcut_one (s : ByteArray) (hs : s.size ≤ 1000000) : ∃ (v : Value) (b : Bool), ∀ w : World,
    Calls Tryd.prog 61 #[.string s, .string ⟨#[0]⟩] w fun e w' => e = .returned (.tuple #[.string (bs (upTo0 s.data.toList)), v, .bool b]) ∧ ∃ n, w' = w.drewN n := by
  obtain ⟨R, hR⟩ : ∃ R, R = bs (upTo0 s.data.toList) := ⟨_, rfl⟩
  rw [← hR]
  rw [upTo0_index] at hR
  have hge := Lib.indexByte_ge s.data.toList 0
  have hlt := index_lt s.data.toList 0
  have ix := fun w => Tryd.stringslite_Index_one s 0 w
  obtain ⟨i, hi⟩ : ∃ i, i = Lib.indexByte s.data.toList 0 := ⟨_, rfl⟩
  rw [← hi] at hR hge hlt ix
  rw [list_size] at hlt
  have IX := Lib.hid ix
  clear ix hi
  by_cases h0 : i < 0
  · have h0' : ¬ (0 : Int) ≤ i := by omega
    have e : s = R := by rw [hR, if_pos h0, bs_of]
    subst e
    refine ⟨.string ⟨#[]⟩, false, fun w => ?_⟩
    clear hlt hge h0 hR
    go_enter Tryd.func61, Tryd.ntmps61
    go_wp2_with fail
    refine (IX.out _).mono ?_
    rintro e w1 ⟨rfl, rfl⟩
    go_wp2_with fail
    go_ret3
    exact ⟨rfl, 0, rfl⟩
  · obtain ⟨j, rfl⟩ := Int.eq_ofNat_of_zero_le (show 0 ≤ i by omega)
    have h0' : (0 : Int) ≤ (j : Int) := by omega
    have hj : j < s.size := by omega
    have e : s.extract 0 j = R := ba_ext (by rw [ext_to, hR, if_neg h0, bs_list]; rfl)
    have E := Lib.hid e
    have k1 : (j : Int) ≤ s.size := by omega
    have k2 : (j : Int) + 1 ≤ s.size := by omega
    have k3 : (0 : Int) ≤ (j : Int) + 1 := by omega
    have k4 : ((j : Int) + 1).toNat = j + 1 := by omega
    have k5 : IntKind.i64.wrap ((j : Int) + 1) = (j : Int) + 1 := IntWalk.i64_in _ (by omega)
    have k6 : ((j : Int)).toNat = j := by omega
    refine ⟨.string (s.extract (j + 1) s.size), true, fun w => ?_⟩
    clear hlt hge h0 hR e
    go_enter Tryd.func61, Tryd.ntmps61
    go_wp2_with fail
    refine (IX.out _).mono ?_
    rintro e w1 ⟨rfl, rfl⟩
    go_wp2_with fail
    go_region
    all_goals go_wp2_with fail
    all_goals go_ret3
    all_goals rw [E.out]
    all_goals exact ⟨rfl, 1, rfl⟩

theorem zcut_any (s : ByteArray) (hs : s.size ≤ 1000000) : ∃ (v : Value) (b : Bool), ∀ w : World,
    Calls Tryd.prog 50 #[.string s, .string ⟨#[0]⟩] w fun e w' => e = .returned (.tuple #[.string (bs (upTo0 s.data.toList)), v, .bool b]) ∧ ∃ n, w' = w.drewN n := by
  obtain ⟨v, b, h⟩ := zcut_one s hs
  refine ⟨v, b, fun w => ?_⟩
  obtain ⟨R, hR⟩ : ∃ R, R = bs (upTo0 s.data.toList) := ⟨_, rfl⟩
  rw [← hR] at h ⊢
  clear hR
  have H := Lib.hid h
  clear h
  go_enter Tryd.func50, Tryd.ntmps50
  go_wp2_with fail
  refine (H.out _).mono ?_
  rintro e w1 ⟨rfl, n, rfl⟩
  go_wp2_with fail
  go_ret3
  exact ⟨rfl, n, rfl⟩

theorem fits_any (n l u g f : ByteArray) (k m1 m2 m3 m4 m5 m6 m7 d : Int) (B : Bool) (hB : B = true ↔ ((d = 1 → u.toList = [] ∧ g.toList = [] ∧ f.toList = [] ∧ m6 = 0 ∧ m7 = 0) ∧ (d = 3 → f.toList = []))) (w : World) :
    Calls Tryd.prog 23 #[.agg #[.string n, .string l, .string u, .string g, .string f, .int .u8 k, .int .i64 m1, .int .i64 m2, .int .i64 m3, .int .i64 m4, .int .i64 m5, .int .i64 m6, .int .i64 m7], .int .i64 d] w fun e w' => e = .returned (.bool B) ∧ Below w.heap.size w w' := by
  by_cases h1 : d = 1
  · subst h1
    have hq := fun w => raws_eql ⟨#[]⟩ ⟨#[]⟩ u g f ⟨#[]⟩ ⟨#[]⟩ ⟨#[]⟩ ⟨#[]⟩ ⟨#[]⟩ 0 0 0 0 0 0 0 m6 m7 0 0 0 0 0 0 0 B (by simp [hB]) w
    clear hB
    go_enter Tryd.func23, Tryd.ntmps23
    go_wp2_with fail
    go_ret
    exact ⟨rfl, (Below.refl _ _).alloc (Nat.le_refl _) _⟩
  · have h1' : (d == 1) = false := by simpa using h1
    by_cases h3 : d = 3
    · subst h3
      have hb : f.toList.isEmpty = B := by
        cases hf : f.toList <;> cases B <;> simp_all
      clear hB
      go_enter Tryd.func23, Tryd.ntmps23
      go_wp2_with fail
      go_ret
      rw [← hb]
      exact ⟨by first | rfl | simp, (Below.refl _ _).alloc (Nat.le_refl _) _⟩
    · have h3' : (d == 3) = false := by simpa using h3
      have hb : B = true := hB.2 ⟨fun h => absurd h h1, fun h => absurd h h3⟩
      subst hb
      clear hB h1 h3
      go_enter Tryd.func23, Tryd.ntmps23
      go_wp2_with fail
      go_ret
      exact ⟨rfl, (Below.refl _ _).alloc (Nat.le_refl _) _⟩

end Go.Proofs.YtdhnjbiigpiecaaDoor
