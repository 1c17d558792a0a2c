/-
  StampBack at more that is too long or no digits.
-/
import Derived.Test.YtgkgjlcbappbkaaDoorStampJ
namespace Go.Proofs.YtgkgjlcbappbkaaDoor
open Go.RowKit

set_option maxRecDepth 100000 in
set_option maxHeartbeats 4000000 in
/-- More that is too long, or no digits. -/
theorem back_short (a b zr : Int) (more : ByteArray) (s n : Int) (ok : Stp.Ok s n) (hm : ¬ (more.size ≤ 20 ∧ Stp.dgs more.data.toList)) (w : World) (hE : Env w)
    (t1 : ∀ w, Calls Tryd.prog 9 #[.int .i64 a, .int .i64 b] w fun e w' => e = .returned (tm s n) ∧ Below w.heap.size w w') :
    Calls Tryd.prog 7 #[.int .i64 a, .int .i64 b, .string more, .int .i64 zr] w fun e w' => e = .returned (.bool true) ∧ Below w.heap.size w w' := by
  have HS := Lib.hid (stamped_any w hE)
  have tx := fun w' (hb : Below w.heap.size w w') => text_any s n ok w' (hE.below hb)
  have px := fun w' (hb : Below w.heap.size w w') => parse_text ok w' (hE.below hb)
  obtain ⟨X, hX⟩ : ∃ X, X = bs (Stp.text s n) := ⟨_, rfl⟩
  rw [← hX] at tx px
  have T1 := Lib.hid t1
  have TX := Lib.hid tx
  have PX := Lib.hid px
  have hways : decide (20 < (more.size : Int)) = true ∨ (decide (20 < (more.size : Int)) = false ∧ ∃ Q : ByteArray, Q.toList.isEmpty = false ∧ ∀ w, Calls Tryd.prog 17 #[.string more, .string ⟨#[48, 49, 50, 51, 52, 53, 54, 55, 56, 57]⟩] w fun e w' => e = .returned (.string Q) ∧ Below w.heap.size w w') := by
    by_cases h1 : more.size ≤ 20
    · refine .inr ⟨decide_eq_false (by omega), bs (Lib.trimS more.data.toList Stp.ten), ?_, fun w => trim_ten_any more (by omega) w⟩
      have h2 : ¬ Stp.dgs more.data.toList := fun h => hm ⟨h1, h⟩
      have h3 : (Lib.trimS more.data.toList Stp.ten == []) = false := by
        rw [Stp.trim_ten]
        cases hc : more.data.toList.all Stp.isD
        · rfl
        · exact absurd (fun b hb => List.all_eq_true.1 hc b hb) h2
      rw [Lib.toList_data, bs_list]
      cases hl : Lib.trimS more.data.toList Stp.ten
      · rw [hl] at h3; cases h3
      · rfl
    · exact .inl (decide_eq_true (by omega))
  clear t1 tx px hX hE hm
  rcases hways with k1 | ⟨k1, Q, k2, tr⟩
  · go_enter Tryd.func7, Tryd.ntmps7
    go_wp2_with fail
    refine HS.out.mono ?_
    rintro e w1 ⟨rfl, h⟩
    have B1 := Lib.hid h
    clear h
    go_wp2_with fail
    refine (T1.out _).mono ?_
    rintro e w2 ⟨rfl, h⟩
    have B2 := Lib.hid (thenB B1.out h)
    clear h
    go_wp2_with fail
    have y := Blk.new w2 24 #[.int .i64 s, .int .i64 n]
    have hB := below_alloc B2.out (.cells #[.int .i64 s, .int .i64 n] 24)
    have hl : w2.heap.size < (w2.alloc (.cells #[.int .i64 s, .int .i64 n] 24)).heap.size := by simp
    generalize w2.alloc (.cells #[.int .i64 s, .int .i64 n] 24) = w3 at y hB hl ⊢
    generalize w2.heap.size = g at y hl ⊢
    refine (TX.out _ hB).mono ?_
    rintro e w4 ⟨rfl, h⟩
    have Y := Lib.hid (y.below h hl)
    have L := Lib.hid (Nat.lt_of_lt_of_le hl h.size)
    have B4 := Lib.hid (thenB hB h)
    clear h y hB hl
    go_wp2_with fail
    refine (PX.out _ B4.out).mono ?_
    rintro e w5 ⟨rfl, h⟩
    have y := Y.out.below h L.out
    have B5 := Lib.hid (thenB B4.out h)
    clear h
    have c0 := (y.alloc (.cells #[.int .i64 s, .int .i64 n] 24)).cell 0
    have c1 := (y.alloc (.cells #[.int .i64 s, .int .i64 n] 24)).cell 1
    clear y
    go_wp2_with fail
    go_ret
    exact ⟨rfl, below_alloc B5.out _⟩
  · have TR := Lib.hid tr
    clear tr
    go_enter Tryd.func7, Tryd.ntmps7
    go_wp2_with fail
    refine HS.out.mono ?_
    rintro e w1 ⟨rfl, h⟩
    have B1 := Lib.hid h
    clear h
    go_wp2_with fail
    refine (T1.out _).mono ?_
    rintro e w2 ⟨rfl, h⟩
    have B2 := Lib.hid (thenB B1.out h)
    clear h
    go_wp2_with fail
    have y := Blk.new w2 24 #[.int .i64 s, .int .i64 n]
    have hB := below_alloc B2.out (.cells #[.int .i64 s, .int .i64 n] 24)
    have hl : w2.heap.size < (w2.alloc (.cells #[.int .i64 s, .int .i64 n] 24)).heap.size := by simp
    generalize w2.alloc (.cells #[.int .i64 s, .int .i64 n] 24) = w3 at y hB hl ⊢
    generalize w2.heap.size = g at y hl ⊢
    refine (TX.out _ hB).mono ?_
    rintro e w4 ⟨rfl, h⟩
    have Y := Lib.hid (y.below h hl)
    have L := Lib.hid (Nat.lt_of_lt_of_le hl h.size)
    have B4 := Lib.hid (thenB hB h)
    clear h y hB hl
    go_wp2_with fail
    refine (PX.out _ B4.out).mono ?_
    rintro e w5 ⟨rfl, h⟩
    have y := Y.out.below h L.out
    have B5 := Lib.hid (thenB B4.out h)
    clear h
    have c0 := (y.alloc (.cells #[.int .i64 s, .int .i64 n] 24)).cell 0
    have c1 := (y.alloc (.cells #[.int .i64 s, .int .i64 n] 24)).cell 1
    clear y
    go_wp2_with fail
    refine (TR.out _).mono ?_
    rintro e w6 ⟨rfl, h⟩
    have B6 := Lib.hid (thenB (below_alloc B5.out _) h)
    clear h c0 c1
    go_wp2_with fail
    go_ret
    exact ⟨rfl, B6.out⟩

end Go.Proofs.YtgkgjlcbappbkaaDoor
