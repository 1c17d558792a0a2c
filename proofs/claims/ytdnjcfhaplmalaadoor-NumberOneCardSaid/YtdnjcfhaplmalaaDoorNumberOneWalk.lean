/-
  The walk of NumberOne.
-/
import Derived.Test.YtdnjcfhaplmalaaDoorNumG
import Derived.DataShut
namespace Go.Proofs.YtdnjcfhaplmalaaDoor
open Go.RowKit

set_option maxHeartbeats 2000000 in
theorem numberOne_walk (a : Int) (ha : (Lit.int .i64 a).wf = true) (b : Int) (hb : (Lit.int .i64 b).wf = true) (width : Int) (_hw : (Lit.int .i64 width).wf = true) (x y : Bool) (w : World) :
    Calls Tryd.prog 4 #[.int .i64 a, .int .i64 b, .int .i64 width, .bool x, .bool y] w fun e w' => e = .returned (.bool true) ∧ Below w.heap.size w w' := by
  have p0 := pickN_lo width 19 (by omega)
  have p1 := pickN_hi width 19 (by omega)
  obtain ⟨p, hp⟩ := Int.eq_ofNat_of_zero_le p0
  have hpick := fun w => pick_any width 19 w (by omega) (by omega)
  rw [hp] at hpick p0 p1
  clear hp
  have hA : -9223372036854775808 ≤ a ∧ a ≤ 9223372036854775807 := (Lit.wf_int_iff .i64 a).1 ha
  have hB : -9223372036854775808 ≤ b ∧ b ≤ 9223372036854775807 := (Lit.wf_int_iff .i64 b).1 hb
  obtain ⟨s, E1, ms, hs⟩ := write_named a (2 + p) x (by omega) (by omega) hA.1 hA.2
  obtain ⟨t, E2, mt, ht⟩ := write_named b (2 + p) y (by omega) (by omega) hB.1 hB.2
  have ec : ((2 + p : Nat) : Int) = 2 + (p : Int) := by omega
  rw [ec] at ms mt
  have PK := Lib.hid hpick
  have MS := Lib.hid ms
  have MT := Lib.hid mt
  clear hpick ms mt ec
  rcases hs with ⟨rfl, hs⟩ | ⟨rfl, _⟩
  · rcases ht with ⟨rfl, ht⟩ | ⟨rfl, _⟩
    · have q2 : (s.toList == t.toList) = (a == b) := by
        have h1 : Wr a (2 + p) s.data.toList := by
          rcases hs with ⟨m, h, h', rfl⟩ | ⟨h, rfl⟩
          · exact .inl ⟨m, h, h', rfl⟩
          · exact .inr ⟨h, rfl⟩
        have h2 : Wr b (2 + p) t.data.toList := by
          rcases ht with ⟨m, h, h', rfl⟩ | ⟨h, rfl⟩
          · exact .inl ⟨m, h, h', rfl⟩
          · exact .inr ⟨h, rfl⟩
        have h3 := wr_one a b (2 + p) _ _ (by omega) (by omega) hA.1 hA.2 hB.1 hB.2 h1 h2
        rw [Lib.toList_data, Lib.toList_data]
        by_cases h : a = b
        · rw [h3.2 h]; simp [h]
        · have : s.data.toList ≠ t.data.toList := fun e => h (h3.1 e)
          rw [beq_eq_false_iff_ne.2 this, beq_eq_false_iff_ne.2 h]
      have Q2 := Lib.hid q2
      clear hs ht q2 hA hB ha hb
      go_enter Tryd.func4, Tryd.ntmps4
      go_wp2_with fail
      refine (fielded_any _).mono ?_
      rintro e w1 ⟨rfl, h1⟩
      have B1 := Lib.hid h1
      clear h1
      go_wp2_with fail
      refine (PK.out _).mono ?_
      rintro e w1 ⟨rfl, rfl⟩
      go_wp2_with fail
      refine (MS.out _).mono ?_
      rintro e w2 ⟨rfl, h2⟩
      have B2 := Lib.hid (thenB B1.out h2)
      clear h2 B1
      go_wp2_with fail
      refine (MT.out _).mono ?_
      rintro e w3 ⟨rfl, h3⟩
      have B3 := Lib.hid (thenB B2.out h3)
      clear h3 B2
      go_wp2_with fail
      go_ret
      rw [Q2.out]
      exact ⟨by simp, B3.out⟩
    · clear hs hA hB ha hb
      go_enter Tryd.func4, Tryd.ntmps4
      go_wp2_with fail
      refine (fielded_any _).mono ?_
      rintro e w1 ⟨rfl, h1⟩
      have B1 := Lib.hid h1
      clear h1
      go_wp2_with fail
      refine (PK.out _).mono ?_
      rintro e w1 ⟨rfl, rfl⟩
      go_wp2_with fail
      refine (MS.out _).mono ?_
      rintro e w2 ⟨rfl, h2⟩
      have B2 := Lib.hid (thenB B1.out h2)
      clear h2 B1
      go_wp2_with fail
      refine (MT.out _).mono ?_
      rintro e w3 ⟨rfl, h3⟩
      have B3 := Lib.hid (thenB B2.out h3)
      clear h3 B2
      go_wp2_with fail
      go_ret
      exact ⟨rfl, B3.out⟩
  · clear ht hA hB ha hb
    go_enter Tryd.func4, Tryd.ntmps4
    go_wp2_with fail
    refine (fielded_any _).mono ?_
    rintro e w1 ⟨rfl, h1⟩
    have B1 := Lib.hid h1
    clear h1
    go_wp2_with fail
    refine (PK.out _).mono ?_
    rintro e w1 ⟨rfl, rfl⟩
    go_wp2_with fail
    refine (MS.out _).mono ?_
    rintro e w2 ⟨rfl, h2⟩
    have B2 := Lib.hid (thenB B1.out h2)
    clear h2 B1
    go_wp2_with fail
    refine (MT.out _).mono ?_
    rintro e w3 ⟨rfl, h3⟩
    have B3 := Lib.hid (thenB B2.out h3)
    clear h3 B2
    go_wp2_with fail
    go_ret
    exact ⟨rfl, B3.out⟩

end Go.Proofs.YtdnjcfhaplmalaaDoor
