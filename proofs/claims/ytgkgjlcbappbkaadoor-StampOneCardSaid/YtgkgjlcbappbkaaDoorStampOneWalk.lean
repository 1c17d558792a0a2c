/-
  The walk of StampOne.
-/
import Derived.Test.YtgkgjlcbappbkaaDoorStampG
namespace Go.Proofs.YtgkgjlcbappbkaaDoor
open Go.RowKit

set_option maxRecDepth 100000 in
set_option maxHeartbeats 2000000 in
theorem stampOne_main (a b c d s n u m : Int) (ok1 : Stp.Ok s n) (ok2 : Stp.Ok u m) (w : World) (hE : Env w)
    (t1 : ∀ w, Calls Tryd.prog 9 #[.int .i64 a, .int .i64 b] w fun e w' => e = .returned (tm s n) ∧ Below w.heap.size w w')
    (t2 : ∀ w, Calls Tryd.prog 9 #[.int .i64 c, .int .i64 d] w fun e w' => e = .returned (tm u m) ∧ Below w.heap.size w w') :
    Calls Tryd.prog 4 #[.int .i64 a, .int .i64 b, .int .i64 c, .int .i64 d] w fun e w' => e = .returned (.bool true) ∧ Below w.heap.size w w' := by
  have HS := Lib.hid (stamped_any w hE)
  have x1 := fun w' (hb : Below w.heap.size w w') => text_any s n ok1 w' (hE.below hb)
  have x2 := fun w' (hb : Below w.heap.size w w') => text_any u m ok2 w' (hE.below hb)
  have hways : (s = u ∧ n = m) ∨ ((s == u) = false ∧ ((bs (Stp.text s n)).toList == (bs (Stp.text u m)).toList) = false) ∨ (s = u ∧ (n == m) = false ∧ ((bs (Stp.text s n)).toList == (bs (Stp.text u m)).toList) = false) := by
    have hne : ¬ (s = u ∧ n = m) → ((bs (Stp.text s n)).toList == (bs (Stp.text u m)).toList) = false := fun h => by
      rw [beq_eq_false_iff_ne, Lib.toList_data, Lib.toList_data, bs_list, bs_list]
      exact fun e => h (Stp.text_inj ok1 ok2 e)
    by_cases h1 : s = u
    · by_cases h2 : n = m
      · exact .inl ⟨h1, h2⟩
      · exact .inr (.inr ⟨h1, by simpa using h2, hne fun h => h2 h.2⟩)
    · exact .inr (.inl ⟨by simpa using h1, hne fun h => h1 h.1⟩)
  obtain ⟨X, hX⟩ : ∃ X, X = bs (Stp.text s n) := ⟨_, rfl⟩
  obtain ⟨Y, hY⟩ : ∃ Y, Y = bs (Stp.text u m) := ⟨_, rfl⟩
  have hXY : s = u → n = m → X = Y := fun e1 e2 => by rw [hX, hY, e1, e2]
  rw [← hX] at x1 hways
  rw [← hY] at x2 hways
  have T1 := Lib.hid t1
  have T2 := Lib.hid t2
  have X1 := Lib.hid x1
  have X2 := Lib.hid x2
  have HXY := Lib.hid hXY
  clear t1 t2 x1 x2 hX hY hXY ok1 ok2 hE
  rcases hways with ⟨rfl, rfl⟩ | ⟨k1, k2⟩ | ⟨rfl, k1, k2⟩
  case inl =>
    have hxy := HXY.out rfl rfl
    subst hxy
    clear HXY
    go_enter Tryd.func4, Tryd.ntmps4
    go_wp2_with fail
    refine HS.out.mono ?_
    rintro e w1 ⟨rfl, h⟩
    have B1 := Lib.hid h
    clear h
    go_wp2_with fail
    refine (T1.out _).mono ?_
    rintro e w2 ⟨rfl, h⟩
    have B2 := Lib.hid (thenB B1.out h)
    clear h
    go_wp2_with fail
    refine (T2.out _).mono ?_
    rintro e w3 ⟨rfl, h⟩
    have B3 := Lib.hid (thenB B2.out h)
    clear h
    go_wp2_with fail
    have z1 := (Blk.new w3 24 #[.int .i64 s, .int .i64 n]).alloc (.cells #[.int .i64 s, .int .i64 n] 24)
    have z2 : Blk ((w3.alloc (.cells #[.int .i64 s, .int .i64 n] 24)).alloc (.cells #[.int .i64 s, .int .i64 n] 24)) (w3.heap.size + 1) 24 #[.int .i64 s, .int .i64 n] := by
      have := Blk.new (w3.alloc (.cells #[.int .i64 s, .int .i64 n] 24)) 24 #[.int .i64 s, .int .i64 n]
      rw [World.size_alloc] at this; exact this
    have hB4 := (B3.out.alloc B3.out.size (.cells #[.int .i64 s, .int .i64 n] 24)).alloc (by have := B3.out.size; simp; omega) (.cells #[.int .i64 s, .int .i64 n] 24)
    have B4 := Lib.hid hB4
    refine (X1.out _ hB4).mono ?_
    rintro e w5 ⟨rfl, h⟩
    have y1 := z1.below h (by simp; omega)
    have y2 := z2.below h (by simp)
    have B5 := Lib.hid (thenB hB4 h)
    have g5 : w3.heap.size + 1 < w5.heap.size := by have := h.size; simp at this; omega
    have c0 := y1.cell 0
    have c1 := y1.cell 1
    have c2 := y2.cell 0
    have c3 := y2.cell 1
    have Y1 := Lib.hid y1
    have Y2 := Lib.hid y2
    clear h z1 z2 hB4 y1 y2
    go_wp2_with fail
    refine (X2.out _ B5.out).mono ?_
    rintro e w6 ⟨rfl, h⟩
    have y1 := Y1.out.below h (by omega)
    have y2 := Y2.out.below h g5
    have B6 := Lib.hid (thenB B5.out h)
    clear c0 c1 c2 c3
    have c0 := y1.cell 0
    have c1 := y1.cell 1
    have c2 := y2.cell 0
    have c3 := y2.cell 1
    clear h y1 y2
    go_wp2_with fail
    go_ret
    exact ⟨by first | rfl | simp | simp_all, B6.out⟩
  · clear HXY
    go_enter Tryd.func4, Tryd.ntmps4
    go_wp2_with fail
    refine HS.out.mono ?_
    rintro e w1 ⟨rfl, h⟩
    have B1 := Lib.hid h
    clear h
    go_wp2_with fail
    refine (T1.out _).mono ?_
    rintro e w2 ⟨rfl, h⟩
    have B2 := Lib.hid (thenB B1.out h)
    clear h
    go_wp2_with fail
    refine (T2.out _).mono ?_
    rintro e w3 ⟨rfl, h⟩
    have B3 := Lib.hid (thenB B2.out h)
    clear h
    go_wp2_with fail
    have z1 := (Blk.new w3 24 #[.int .i64 s, .int .i64 n]).alloc (.cells #[.int .i64 u, .int .i64 m] 24)
    have z2 : Blk ((w3.alloc (.cells #[.int .i64 s, .int .i64 n] 24)).alloc (.cells #[.int .i64 u, .int .i64 m] 24)) (w3.heap.size + 1) 24 #[.int .i64 u, .int .i64 m] := by
      have := Blk.new (w3.alloc (.cells #[.int .i64 s, .int .i64 n] 24)) 24 #[.int .i64 u, .int .i64 m]
      rw [World.size_alloc] at this; exact this
    have hB4 := (B3.out.alloc B3.out.size (.cells #[.int .i64 s, .int .i64 n] 24)).alloc (by have := B3.out.size; simp; omega) (.cells #[.int .i64 u, .int .i64 m] 24)
    have B4 := Lib.hid hB4
    refine (X1.out _ hB4).mono ?_
    rintro e w5 ⟨rfl, h⟩
    have y1 := z1.below h (by simp; omega)
    have y2 := z2.below h (by simp)
    have B5 := Lib.hid (thenB hB4 h)
    have g5 : w3.heap.size + 1 < w5.heap.size := by have := h.size; simp at this; omega
    have c0 := y1.cell 0
    have c1 := y1.cell 1
    have c2 := y2.cell 0
    have c3 := y2.cell 1
    have Y1 := Lib.hid y1
    have Y2 := Lib.hid y2
    clear h z1 z2 hB4 y1 y2
    go_wp2_with fail
    refine (X2.out _ B5.out).mono ?_
    rintro e w6 ⟨rfl, h⟩
    have y1 := Y1.out.below h (by omega)
    have y2 := Y2.out.below h g5
    have B6 := Lib.hid (thenB B5.out h)
    clear c0 c1 c2 c3
    have c0 := y1.cell 0
    have c1 := y1.cell 1
    have c2 := y2.cell 0
    have c3 := y2.cell 1
    clear h y1 y2
    go_wp2_with fail
    go_ret
    exact ⟨by first | rfl | simp | simp_all, B6.out⟩
  · clear HXY
    go_enter Tryd.func4, Tryd.ntmps4
    go_wp2_with fail
    refine HS.out.mono ?_
    rintro e w1 ⟨rfl, h⟩
    have B1 := Lib.hid h
    clear h
    go_wp2_with fail
    refine (T1.out _).mono ?_
    rintro e w2 ⟨rfl, h⟩
    have B2 := Lib.hid (thenB B1.out h)
    clear h
    go_wp2_with fail
    refine (T2.out _).mono ?_
    rintro e w3 ⟨rfl, h⟩
    have B3 := Lib.hid (thenB B2.out h)
    clear h
    go_wp2_with fail
    have z1 := (Blk.new w3 24 #[.int .i64 s, .int .i64 n]).alloc (.cells #[.int .i64 s, .int .i64 m] 24)
    have z2 : Blk ((w3.alloc (.cells #[.int .i64 s, .int .i64 n] 24)).alloc (.cells #[.int .i64 s, .int .i64 m] 24)) (w3.heap.size + 1) 24 #[.int .i64 s, .int .i64 m] := by
      have := Blk.new (w3.alloc (.cells #[.int .i64 s, .int .i64 n] 24)) 24 #[.int .i64 s, .int .i64 m]
      rw [World.size_alloc] at this; exact this
    have hB4 := (B3.out.alloc B3.out.size (.cells #[.int .i64 s, .int .i64 n] 24)).alloc (by have := B3.out.size; simp; omega) (.cells #[.int .i64 s, .int .i64 m] 24)
    have B4 := Lib.hid hB4
    refine (X1.out _ hB4).mono ?_
    rintro e w5 ⟨rfl, h⟩
    have y1 := z1.below h (by simp; omega)
    have y2 := z2.below h (by simp)
    have B5 := Lib.hid (thenB hB4 h)
    have g5 : w3.heap.size + 1 < w5.heap.size := by have := h.size; simp at this; omega
    have c0 := y1.cell 0
    have c1 := y1.cell 1
    have c2 := y2.cell 0
    have c3 := y2.cell 1
    have Y1 := Lib.hid y1
    have Y2 := Lib.hid y2
    clear h z1 z2 hB4 y1 y2
    go_wp2_with fail
    refine (X2.out _ B5.out).mono ?_
    rintro e w6 ⟨rfl, h⟩
    have y1 := Y1.out.below h (by omega)
    have y2 := Y2.out.below h g5
    have B6 := Lib.hid (thenB B5.out h)
    clear c0 c1 c2 c3
    have c0 := y1.cell 0
    have c1 := y1.cell 1
    have c2 := y2.cell 0
    have c3 := y2.cell 1
    clear h y1 y2
    go_wp2_with fail
    go_ret
    exact ⟨by first | rfl | simp | simp_all, B6.out⟩

theorem stampOne_walk (a : Int) (_wa : (Lit.int .i64 a).wf = true) (b : Int) (_wb : (Lit.int .i64 b).wf = true) (c : Int) (_wc : (Lit.int .i64 c).wf = true) (d : Int) (_wd : (Lit.int .i64 d).wf = true) (w : World) (hE : Env w) :
    Calls Tryd.prog 4 #[.int .i64 a, .int .i64 b, .int .i64 c, .int .i64 d] w fun e w' => e = .returned (.bool true) ∧ Below w.heap.size w w' :=
  stampOne_main a b c d _ _ _ _ (timed_bd a b) (timed_bd c d) w hE (timed_any a b) (timed_any c d)

end Go.Proofs.YtgkgjlcbappbkaaDoor
