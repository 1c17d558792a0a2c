/-
  The walk of NumberOrder.
-/
import Derived.Test.YtdnjcfhaplmalaaDoorNumE
import Derived.Test.YtdnjcfhaplmalaaDoorNumLaws
namespace Go.Proofs.YtdnjcfhaplmalaaDoor
open Go.RowKit

set_option maxHeartbeats 2000000 in
theorem numberOrder_walk (a : Int) (ha : (Lit.int .i64 a).wf = true) (b : Int) (hb : (Lit.int .i64 b).wf = true) (width : Int) (_hw : (Lit.int .i64 width).wf = true) (w : World) :
    Calls Tryd.prog 3 #[.int .i64 a, .int .i64 b, .int .i64 width] w fun e w' => e = .returned (.bool true) ∧ Below w.heap.size w w' := by
  have p0 := pickN_lo width 19 (by omega)
  have p1 := pickN_hi width 19 (by omega)
  obtain ⟨p, hp⟩ := Int.eq_ofNat_of_zero_le p0
  have hpick := fun w => pick_any width 19 w (by omega) (by omega)
  rw [hp] at hpick p0 p1
  clear hp
  obtain ⟨s, E1, ms, hs⟩ := octal_named a (2 + p) (by omega) (by omega)
  obtain ⟨t, E2, mt, ht⟩ := octal_named b (2 + p) (by omega) (by omega)
  have ec : ((2 + p : Nat) : Int) = 2 + (p : Int) := by omega
  rw [ec] at ms mt
  have PK := Lib.hid hpick
  have MS := Lib.hid ms
  have MT := Lib.hid mt
  clear hpick ms mt ec
  rcases hs with ⟨rfl, m, rfl, hm, rfl⟩ | ⟨_, rfl, rfl⟩
  · rcases ht with ⟨rfl, n, rfl, hn, rfl⟩ | ⟨_, rfl, rfl⟩
    · obtain ⟨s, hs⟩ : ∃ s : ByteArray, s = ⟨(Num.octal m (2 + p)).toArray⟩ := ⟨_, rfl⟩
      obtain ⟨t, ht⟩ : ∃ t : ByteArray, t = ⟨(Num.octal n (2 + p)).toArray⟩ := ⟨_, rfl⟩
      rw [← hs] at MS
      rw [← ht] at MT
      have q1 : decide (m < n) = Op.bytesLess s.toList t.toList := by
        rw [Lib.toList_data, Lib.toList_data, hs, ht]
        exact (Num.less_octal m n (2 + p) (by omega) hm hn).symm
      have q2 : ((m : Int) == (n : Int)) = (s.toList == t.toList) := by
        rw [Lib.toList_data, Lib.toList_data, hs, ht]
        refine Eq.trans ?_ (Num.eq_octal m n (2 + p) (by omega) hm hn).symm
        by_cases h : m = n
        · subst h; simp
        · have : (m : Int) ≠ n := fun e => h (by omega)
          simp [h, this]
      have Q2 := Lib.hid q2
      clear hs ht q2
      go_enter Tryd.func3, Tryd.ntmps3
      go_wp2_with fail
      refine (fielded_any _).mono ?_
      rintro e w1 ⟨rfl, h1⟩
      have B1 := Lib.hid h1
      clear h1
      go_wp2_with fail
      refine (PK.out _).mono ?_
      rintro e w1 ⟨rfl, rfl⟩
      go_wp2_with fail
      refine (MS.out _).mono ?_
      rintro e w2 ⟨rfl, h2⟩
      have B2 := Lib.hid (thenB B1.out h2)
      clear h2 B1
      go_wp2_with fail
      refine (MT.out _).mono ?_
      rintro e w3 ⟨rfl, h3⟩
      have B3 := Lib.hid (thenB B2.out h3)
      clear h3 B2
      go_wp2_with fail
      go_ret
      rw [Q2.out]
      exact ⟨by simp, B3.out⟩
    · go_enter Tryd.func3, Tryd.ntmps3
      go_wp2_with fail
      refine (fielded_any _).mono ?_
      rintro e w1 ⟨rfl, h1⟩
      have B1 := Lib.hid h1
      clear h1
      go_wp2_with fail
      refine (PK.out _).mono ?_
      rintro e w1 ⟨rfl, rfl⟩
      go_wp2_with fail
      refine (MS.out _).mono ?_
      rintro e w2 ⟨rfl, h2⟩
      have B2 := Lib.hid (thenB B1.out h2)
      clear h2 B1
      go_wp2_with fail
      refine (MT.out _).mono ?_
      rintro e w3 ⟨rfl, h3⟩
      have B3 := Lib.hid (thenB B2.out h3)
      clear h3 B2
      go_wp2_with fail
      go_ret
      exact ⟨rfl, B3.out⟩
  · go_enter Tryd.func3, Tryd.ntmps3
    go_wp2_with fail
    refine (fielded_any _).mono ?_
    rintro e w1 ⟨rfl, h1⟩
    have B1 := Lib.hid h1
    clear h1
    go_wp2_with fail
    refine (PK.out _).mono ?_
    rintro e w1 ⟨rfl, rfl⟩
    go_wp2_with fail
    refine (MS.out _).mono ?_
    rintro e w2 ⟨rfl, h2⟩
    have B2 := Lib.hid (thenB B1.out h2)
    clear h2 B1
    go_wp2_with fail
    refine (MT.out _).mono ?_
    rintro e w3 ⟨rfl, h3⟩
    have B3 := Lib.hid (thenB B2.out h3)
    clear h3 B2
    go_wp2_with fail
    go_ret
    exact ⟨rfl, B3.out⟩

end Go.Proofs.YtdnjcfhaplmalaaDoor
