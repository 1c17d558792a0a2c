/-
  The walk of StampDays.
-/
import Derived.Test.YtgkgjlcbappbkaaDoorStampI
namespace Go.Proofs.YtgkgjlcbappbkaaDoor
open Go.RowKit

theorem wrapk (x : Int) (h1 : -9223372036854775808 ≤ x) (h2 : x ≤ 9223372036854775807) : IntKind.i64.wrap x = x := IntWalk.i64_in _ (by omega)

set_option maxRecDepth 100000 in
set_option maxHeartbeats 2000000 in
theorem stampDays_far (a s n : Int) (h : 1086888846976 < s) (w : World) (hE : Env w)
    (t1 : ∀ w, Calls Tryd.prog 9 #[.int .i64 a, .int .i64 0] w fun e w' => e = .returned (tm s n) ∧ Below w.heap.size w w') :
    Calls Tryd.prog 3 #[.int .i64 a] w fun e w' => e = .returned (.bool true) ∧ Below w.heap.size w w' := by
  have HS := Lib.hid (stamped_any w hE)
  have T1 := Lib.hid t1
  clear t1 hE
  go_enter Tryd.func3, Tryd.ntmps3
  go_wp2_with fail
  refine HS.out.mono ?_
  rintro e w1 ⟨rfl, h⟩
  have B1 := Lib.hid h
  clear h
  go_wp2_with fail
  refine (T1.out _).mono ?_
  rintro e w2 ⟨rfl, h⟩
  have B2 := Lib.hid (thenB B1.out h)
  clear h
  go_wp2_with fail
  go_ret
  exact ⟨rfl, below_alloc B2.out _⟩

set_option maxRecDepth 100000 in
set_option maxHeartbeats 8000000 in
theorem stampDays_near (a s n : Int) (hs0 : -1099511627776 ≤ s) (hn : ¬ 1086888846976 < s) (w : World) (hE : Env w)
    (t1 : ∀ w, Calls Tryd.prog 9 #[.int .i64 a, .int .i64 0] w fun e w' => e = .returned (tm s n) ∧ Below w.heap.size w w') :
    Calls Tryd.prog 3 #[.int .i64 a] w fun e w' => e = .returned (.bool true) ∧ Below w.heap.size w w' := by
  have HS := Lib.hid (stamped_any w hE)
  have T1 := Lib.hid t1
  clear t1 hE
  obtain ⟨a0, a1, a2, a3, a4, a5, D, ea, hb, hd, ec, eb, ed⟩ := days_facts s (by omega) (by omega)
  have eb2 : ∃ b0 b1 b2 b3 b4 b5 : Int, six (s + 86400) = agg6 b0 b1 b2 b3 b4 b5 ∧ ((¬ D < a2 + 1 ∧ b0 = a0 ∧ b1 = a1 ∧ b2 = a2 + 1 ∧ b3 = a3 ∧ b4 = a4 ∧ b5 = a5) ∨ (D < a2 + 1 ∧ ¬ 12 < a1 + 1 ∧ b0 = a0 ∧ b1 = a1 + 1 ∧ b2 = 1 ∧ b3 = a3 ∧ b4 = a4 ∧ b5 = a5) ∨ (D < a2 + 1 ∧ 12 < a1 + 1 ∧ b0 = a0 + 1 ∧ b1 = 1 ∧ b2 = 1 ∧ b3 = a3 ∧ b4 = a4 ∧ b5 = a5)) := by
    rcases eb with ⟨k1, eb⟩ | ⟨k1, k2, eb⟩ | ⟨k1, k2, eb⟩
    · exact ⟨_, _, _, _, _, _, eb, .inl ⟨k1, rfl, rfl, rfl, rfl, rfl, rfl⟩⟩
    · exact ⟨_, _, _, _, _, _, eb, .inr (.inl ⟨k1, k2, rfl, rfl, rfl, rfl, rfl, rfl⟩)⟩
    · exact ⟨_, _, _, _, _, _, eb, .inr (.inr ⟨k1, k2, rfl, rfl, rfl, rfl, rfl, rfl⟩)⟩
  have ed2 : ∃ d0 d1 d2 d3 d4 d5 : Int, six (s + 1) = agg6 d0 d1 d2 d3 d4 d5 ∧ ((a5 < 59 ∧ d0 = a0 ∧ d1 = a1 ∧ d2 = a2 ∧ d3 = a3 ∧ d4 = a4 ∧ d5 = a5 + 1) ∨ (¬ a5 < 59 ∧ d5 = 0)) := by
    rcases ed with ⟨k1, ed⟩ | ⟨k1, d0, d1, d2, d3, d4, ed⟩
    · exact ⟨_, _, _, _, _, _, ed, .inl ⟨k1, rfl, rfl, rfl, rfl, rfl, rfl⟩⟩
    · exact ⟨_, _, _, _, _, _, ed, .inr ⟨k1, rfl⟩⟩
  obtain ⟨b0, b1, b2, b3, b4, b5, fb, wb⟩ := eb2
  obtain ⟨d0, d1, d2, d3, d4, d5, fd, wd⟩ := ed2
  obtain ⟨c0, c1, c2, c3, c4, c5, fc, wc⟩ : ∃ c0 c1 c2 c3 c4 c5 : Int, six (s + 12622780800) = agg6 c0 c1 c2 c3 c4 c5 ∧ (c0 = a0 + 400 ∧ c1 = a1 ∧ c2 = a2 ∧ c3 = a3 ∧ c4 = a4 ∧ c5 = a5) := ⟨_, _, _, _, _, _, ec, rfl, rfl, rfl, rfl, rfl, rfl⟩
  have da := fun w => date_any s n (by omega) (by omega) w
  have db := fun w => date_any (s + 86400) 0 (by omega) (by omega) w
  have dc := fun w => date_any (s + 12622780800) 0 (by omega) (by omega) w
  have dd := fun w => date_any (s + 1) 0 (by omega) (by omega) w
  rw [ea] at da
  rw [fb] at db
  rw [fc] at dc
  rw [fd] at dd
  have DA := Lib.hid da
  have DB := Lib.hid db
  have DC := Lib.hid dc
  have DD := Lib.hid dd
  have HD := Lib.hid hd
  have WB := Lib.hid wb
  have WC := Lib.hid wc
  have WD := Lib.hid wd
  have PB := Lib.hid hb
  have ew1 : IntKind.i64.wrap (s + 86400) = s + 86400 := wrapk _ (by omega) (by omega)
  have ew2 : IntKind.i64.wrap (s + 12622780800) = s + 12622780800 := wrapk _ (by omega) (by omega)
  have ew3 : IntKind.i64.wrap (s + 1) = s + 1 := wrapk _ (by omega) (by omega)
  clear ea ec eb ed fb fc fd da db dc dd wb wc wd hd hb
  go_enter Tryd.func3, Tryd.ntmps3
  go_wp2_with fail
  refine HS.out.mono ?_
  rintro e w1 ⟨rfl, h⟩
  have B1 := Lib.hid h
  clear h
  go_wp2_with fail
  refine (T1.out _).mono ?_
  rintro e w2 ⟨rfl, h⟩
  have B2 := Lib.hid (thenB B1.out h)
  clear h
  go_wp2_with fail
  have y3 := Blk.new w2 24 #[.int .i64 s, .int .i64 n]
  have hB := below_alloc B2.out (.cells #[.int .i64 s, .int .i64 n] 24)
  have hl3 : w2.heap.size < (w2.alloc (.cells #[.int .i64 s, .int .i64 n] 24)).heap.size := by simp
  generalize w2.alloc (.cells #[.int .i64 s, .int .i64 n] 24) = w3 at y3 hB hl3 ⊢
  generalize w2.heap.size = g3 at y3 hl3 ⊢
  refine (DA.out _).mono ?_
  rintro e w4 ⟨rfl, h⟩
  have Y3 := Lib.hid (y3.below h hl3)
  have L3 := Lib.hid (Nat.lt_of_lt_of_le hl3 h.size)
  have B4 := Lib.hid (thenB hB h)
  clear h y3 hB hl3
  have u0 := (Y3.out.alloc (.cells #[.int .i64 a0, .int .i64 a1, .int .i64 a2, .int .i64 a3, .int .i64 a4, .int .i64 a5] 26)).cell 0
  have u1 := (Y3.out.alloc (.cells #[.int .i64 a0, .int .i64 a1, .int .i64 a2, .int .i64 a3, .int .i64 a4, .int .i64 a5] 26)).cell 1
  go_wp2_with fail
  clear u0 u1
  have y3 := Y3.out.alloc (.cells #[.int .i64 a0, .int .i64 a1, .int .i64 a2, .int .i64 a3, .int .i64 a4, .int .i64 a5] 26)
  have hl3 : g3 < (w4.alloc (.cells #[.int .i64 a0, .int .i64 a1, .int .i64 a2, .int .i64 a3, .int .i64 a4, .int .i64 a5] 26)).heap.size := by have := L3.out; simp; omega
  have y4 := Blk.new w4 26 #[.int .i64 a0, .int .i64 a1, .int .i64 a2, .int .i64 a3, .int .i64 a4, .int .i64 a5]
  have hl4 : w4.heap.size < (w4.alloc (.cells #[.int .i64 a0, .int .i64 a1, .int .i64 a2, .int .i64 a3, .int .i64 a4, .int .i64 a5] 26)).heap.size := by simp
  have hB := below_alloc B4.out (.cells #[.int .i64 a0, .int .i64 a1, .int .i64 a2, .int .i64 a3, .int .i64 a4, .int .i64 a5] 26)
  have ne34 : g3 ≠ w4.heap.size := Nat.ne_of_lt L3.out
  have gw4 : w.heap.size ≤ w4.heap.size := B4.out.size
  clear Y3 L3 B4
  generalize w4.alloc (.cells #[.int .i64 a0, .int .i64 a1, .int .i64 a2, .int .i64 a3, .int .i64 a4, .int .i64 a5] 26) = x4 at y3 hl3 y4 hl4 hB ⊢
  generalize w4.heap.size = g4 at gw4 ne34 y3 hl3 y4 hl4 ⊢
  have GW4 := Lib.hid gw4
  clear gw4
  refine (DB.out _).mono ?_
  rintro e w5 ⟨rfl, h⟩
  have Y3 := Lib.hid (y3.below h hl3)
  have L3 := Lib.hid (Nat.lt_of_lt_of_le hl3 h.size)
  have Y4 := Lib.hid (y4.below h hl4)
  have L4 := Lib.hid (Nat.lt_of_lt_of_le hl4 h.size)
  have B5 := Lib.hid (thenB hB h)
  clear h hB y3 hl3 y4 hl4
  have NE34 := Lib.hid ne34
  clear ne34
  have u0 := (Y3.out.alloc (.cells #[.int .i64 b0, .int .i64 b1, .int .i64 b2, .int .i64 b3, .int .i64 b4, .int .i64 b5] 26)).cell 0
  have u1 := (Y3.out.alloc (.cells #[.int .i64 b0, .int .i64 b1, .int .i64 b2, .int .i64 b3, .int .i64 b4, .int .i64 b5] 26)).cell 1
  go_wp2_with fail
  clear u0 u1
  have y3 := Y3.out.alloc (.cells #[.int .i64 b0, .int .i64 b1, .int .i64 b2, .int .i64 b3, .int .i64 b4, .int .i64 b5] 26)
  have hl3 : g3 < (w5.alloc (.cells #[.int .i64 b0, .int .i64 b1, .int .i64 b2, .int .i64 b3, .int .i64 b4, .int .i64 b5] 26)).heap.size := by have := L3.out; simp; omega
  have y4 := Y4.out.alloc (.cells #[.int .i64 b0, .int .i64 b1, .int .i64 b2, .int .i64 b3, .int .i64 b4, .int .i64 b5] 26)
  have hl4 : g4 < (w5.alloc (.cells #[.int .i64 b0, .int .i64 b1, .int .i64 b2, .int .i64 b3, .int .i64 b4, .int .i64 b5] 26)).heap.size := by have := L4.out; simp; omega
  have y5 := Blk.new w5 26 #[.int .i64 b0, .int .i64 b1, .int .i64 b2, .int .i64 b3, .int .i64 b4, .int .i64 b5]
  have hl5 : w5.heap.size < (w5.alloc (.cells #[.int .i64 b0, .int .i64 b1, .int .i64 b2, .int .i64 b3, .int .i64 b4, .int .i64 b5] 26)).heap.size := by simp
  have hB := below_alloc B5.out (.cells #[.int .i64 b0, .int .i64 b1, .int .i64 b2, .int .i64 b3, .int .i64 b4, .int .i64 b5] 26)
  have ne35 : g3 ≠ w5.heap.size := Nat.ne_of_lt L3.out
  have ne45 : g4 ≠ w5.heap.size := Nat.ne_of_lt L4.out
  clear Y3 L3 Y4 L4 B5
  generalize w5.alloc (.cells #[.int .i64 b0, .int .i64 b1, .int .i64 b2, .int .i64 b3, .int .i64 b4, .int .i64 b5] 26) = x5 at y3 hl3 y4 hl4 y5 hl5 hB ⊢
  generalize w5.heap.size = g5 at ne35 ne45 y3 hl3 y4 hl4 y5 hl5 ⊢
  refine (DC.out _).mono ?_
  rintro e w6 ⟨rfl, h⟩
  have Y3 := Lib.hid (y3.below h hl3)
  have L3 := Lib.hid (Nat.lt_of_lt_of_le hl3 h.size)
  have Y4 := Lib.hid (y4.below h hl4)
  have L4 := Lib.hid (Nat.lt_of_lt_of_le hl4 h.size)
  have Y5 := Lib.hid (y5.below h hl5)
  have L5 := Lib.hid (Nat.lt_of_lt_of_le hl5 h.size)
  have B6 := Lib.hid (thenB hB h)
  clear h hB y3 hl3 y4 hl4 y5 hl5
  have NE35 := Lib.hid ne35
  clear ne35
  have NE45 := Lib.hid ne45
  clear ne45
  have u0 := (Y3.out.alloc (.cells #[.int .i64 c0, .int .i64 c1, .int .i64 c2, .int .i64 c3, .int .i64 c4, .int .i64 c5] 26)).cell 0
  have u1 := (Y3.out.alloc (.cells #[.int .i64 c0, .int .i64 c1, .int .i64 c2, .int .i64 c3, .int .i64 c4, .int .i64 c5] 26)).cell 1
  go_wp2_with fail
  clear u0 u1
  have y3 := Y3.out.alloc (.cells #[.int .i64 c0, .int .i64 c1, .int .i64 c2, .int .i64 c3, .int .i64 c4, .int .i64 c5] 26)
  have hl3 : g3 < (w6.alloc (.cells #[.int .i64 c0, .int .i64 c1, .int .i64 c2, .int .i64 c3, .int .i64 c4, .int .i64 c5] 26)).heap.size := by have := L3.out; simp; omega
  have y4 := Y4.out.alloc (.cells #[.int .i64 c0, .int .i64 c1, .int .i64 c2, .int .i64 c3, .int .i64 c4, .int .i64 c5] 26)
  have hl4 : g4 < (w6.alloc (.cells #[.int .i64 c0, .int .i64 c1, .int .i64 c2, .int .i64 c3, .int .i64 c4, .int .i64 c5] 26)).heap.size := by have := L4.out; simp; omega
  have y5 := Y5.out.alloc (.cells #[.int .i64 c0, .int .i64 c1, .int .i64 c2, .int .i64 c3, .int .i64 c4, .int .i64 c5] 26)
  have hl5 : g5 < (w6.alloc (.cells #[.int .i64 c0, .int .i64 c1, .int .i64 c2, .int .i64 c3, .int .i64 c4, .int .i64 c5] 26)).heap.size := by have := L5.out; simp; omega
  have y6 := Blk.new w6 26 #[.int .i64 c0, .int .i64 c1, .int .i64 c2, .int .i64 c3, .int .i64 c4, .int .i64 c5]
  have hl6 : w6.heap.size < (w6.alloc (.cells #[.int .i64 c0, .int .i64 c1, .int .i64 c2, .int .i64 c3, .int .i64 c4, .int .i64 c5] 26)).heap.size := by simp
  have hB := below_alloc B6.out (.cells #[.int .i64 c0, .int .i64 c1, .int .i64 c2, .int .i64 c3, .int .i64 c4, .int .i64 c5] 26)
  have ne36 : g3 ≠ w6.heap.size := Nat.ne_of_lt L3.out
  have ne46 : g4 ≠ w6.heap.size := Nat.ne_of_lt L4.out
  have ne56 : g5 ≠ w6.heap.size := Nat.ne_of_lt L5.out
  clear Y3 L3 Y4 L4 Y5 L5 B6
  generalize w6.alloc (.cells #[.int .i64 c0, .int .i64 c1, .int .i64 c2, .int .i64 c3, .int .i64 c4, .int .i64 c5] 26) = x6 at y3 hl3 y4 hl4 y5 hl5 y6 hl6 hB ⊢
  generalize w6.heap.size = g6 at ne36 ne46 ne56 y3 hl3 y4 hl4 y5 hl5 y6 hl6 ⊢
  refine (DD.out _).mono ?_
  rintro e w7 ⟨rfl, h⟩
  have Y3 := Lib.hid (y3.below h hl3)
  have L3 := Lib.hid (Nat.lt_of_lt_of_le hl3 h.size)
  have Y4 := Lib.hid (y4.below h hl4)
  have L4 := Lib.hid (Nat.lt_of_lt_of_le hl4 h.size)
  have Y5 := Lib.hid (y5.below h hl5)
  have L5 := Lib.hid (Nat.lt_of_lt_of_le hl5 h.size)
  have Y6 := Lib.hid (y6.below h hl6)
  have L6 := Lib.hid (Nat.lt_of_lt_of_le hl6 h.size)
  have B7 := Lib.hid (thenB hB h)
  clear h hB y3 hl3 y4 hl4 y5 hl5 y6 hl6
  have NE36 := Lib.hid ne36
  clear ne36
  have NE46 := Lib.hid ne46
  clear ne46
  have NE56 := Lib.hid ne56
  clear ne56
  go_upto_region 10 with (fail)
  have y3 := Y3.out.alloc (.cells #[.int .i64 d0, .int .i64 d1, .int .i64 d2, .int .i64 d3, .int .i64 d4, .int .i64 d5] 26)
  have y4 := Y4.out.alloc (.cells #[.int .i64 d0, .int .i64 d1, .int .i64 d2, .int .i64 d3, .int .i64 d4, .int .i64 d5] 26)
  have y5 := Y5.out.alloc (.cells #[.int .i64 d0, .int .i64 d1, .int .i64 d2, .int .i64 d3, .int .i64 d4, .int .i64 d5] 26)
  have y6 := Y6.out.alloc (.cells #[.int .i64 d0, .int .i64 d1, .int .i64 d2, .int .i64 d3, .int .i64 d4, .int .i64 d5] 26)
  have y7 := Blk.new w7 26 #[.int .i64 d0, .int .i64 d1, .int .i64 d2, .int .i64 d3, .int .i64 d4, .int .i64 d5]
  have hB := below_alloc B7.out (.cells #[.int .i64 d0, .int .i64 d1, .int .i64 d2, .int .i64 d3, .int .i64 d4, .int .i64 d5] 26)
  have ne37 : g3 ≠ w7.heap.size := Nat.ne_of_lt L3.out
  have ne47 : g4 ≠ w7.heap.size := Nat.ne_of_lt L4.out
  have ne57 : g5 ≠ w7.heap.size := Nat.ne_of_lt L5.out
  have ne67 : g6 ≠ w7.heap.size := Nat.ne_of_lt L6.out
  have l3 : g3 < (w7.alloc (.cells #[.int .i64 d0, .int .i64 d1, .int .i64 d2, .int .i64 d3, .int .i64 d4, .int .i64 d5] 26)).heap.size := by have := L3.out; simp; omega
  have l4 : g4 < (w7.alloc (.cells #[.int .i64 d0, .int .i64 d1, .int .i64 d2, .int .i64 d3, .int .i64 d4, .int .i64 d5] 26)).heap.size := by have := L4.out; simp; omega
  have l5 : g5 < (w7.alloc (.cells #[.int .i64 d0, .int .i64 d1, .int .i64 d2, .int .i64 d3, .int .i64 d4, .int .i64 d5] 26)).heap.size := by have := L5.out; simp; omega
  have l6 : g6 < (w7.alloc (.cells #[.int .i64 d0, .int .i64 d1, .int .i64 d2, .int .i64 d3, .int .i64 d4, .int .i64 d5] 26)).heap.size := by have := L6.out; simp; omega
  have l7 : w7.heap.size < (w7.alloc (.cells #[.int .i64 d0, .int .i64 d1, .int .i64 d2, .int .i64 d3, .int .i64 d4, .int .i64 d5] 26)).heap.size := by simp
  clear Y3 L3 Y4 L4 Y5 L5 Y6 L6 B7
  generalize w7.alloc (.cells #[.int .i64 d0, .int .i64 d1, .int .i64 d2, .int .i64 d3, .int .i64 d4, .int .i64 d5] 26) = x7 at y3 l3 y4 l4 y5 l5 y6 l6 y7 l7 hB ⊢
  generalize w7.heap.size = g7 at ne37 ne47 ne57 ne67 y7 l7 ⊢
  have Y3 := Lib.hid y3
  have L3 := Lib.hid l3
  have Y4 := Lib.hid y4
  have L4 := Lib.hid l4
  have Y5 := Lib.hid y5
  have L5 := Lib.hid l5
  have Y6 := Lib.hid y6
  have L6 := Lib.hid l6
  have Y7 := Lib.hid y7
  have L7 := Lib.hid l7
  have NE37 := Lib.hid ne37
  have NE47 := Lib.hid ne47
  have NE57 := Lib.hid ne57
  have NE67 := Lib.hid ne67
  have B8 := Lib.hid hB
  clear hB l3 l4 l5 l6 l7 ne37 ne47 ne57 ne67
  have q0 := y4.cell 0
  have q1 := y4.cell 1
  have q2 := y4.cell 2
  have q3 := y4.cell 3
  have q4 := y4.cell 4
  have q5 := y4.cell 5
  clear y3 y4 y5 y6 y7
  have e0 : decide (a1 < 1) = false := by have := PB.out; exact decide_eq_false (by omega)
  have e1 : decide (12 < a1) = false := by have := PB.out; exact decide_eq_false (by omega)
  have e2 : decide (a2 < 1) = false := by have := PB.out; exact decide_eq_false (by omega)
  have e3 : decide (D < a2) = false := by have := PB.out; exact decide_eq_false (by omega)
  have e4 : decide (a3 < 0) = false := by have := PB.out; exact decide_eq_false (by omega)
  have e5 : decide (23 < a3) = false := by have := PB.out; exact decide_eq_false (by omega)
  have e6 : decide (a4 < 0) = false := by have := PB.out; exact decide_eq_false (by omega)
  have e7 : decide (59 < a4) = false := by have := PB.out; exact decide_eq_false (by omega)
  have e8 : decide (a5 < 0) = false := by have := PB.out; exact decide_eq_false (by omega)
  have e9 : decide (59 < a5) = false := by have := PB.out; exact decide_eq_false (by omega)
  go_quiet ((go_at_call 11; exact Calls.quiet_of_same (HD.out _)))
  have f1 : IntKind.i64.wrap (a2 + 1) = a2 + 1 := by have := PB.out; exact wrapk _ (by omega) (by omega)
  have f2 : IntKind.i64.wrap (a1 + 1) = a1 + 1 := by have := PB.out; exact wrapk _ (by omega) (by omega)
  have f3 : IntKind.i64.wrap (a0 + 1) = a0 + 1 := by have := PB.out; exact wrapk _ (by omega) (by omega)
  have f4 : IntKind.i64.wrap (a0 + 400) = a0 + 400 := by have := PB.out; exact wrapk _ (by omega) (by omega)
  have f5 : IntKind.i64.wrap (a5 + 1) = a5 + 1 := by have := PB.out; exact wrapk _ (by omega) (by omega)
  clear e0 e1 e2 e3 e4 e5 e6 e7 e8 e9 q0 q1 q2 q3 q4 q5
  generalize hx : x7.drewN nq = x8
  have B9 : Hid (Below w.heap.size w x8) := by rw [← hx]; exact Lib.hid (below_drewN B8.out nq)
  have z3 := Y3.out.drewN nq
  rw [hx] at z3
  have Z3 := Lib.hid z3
  clear z3
  have z4 := Y4.out.drewN nq
  rw [hx] at z4
  have Z4 := Lib.hid z4
  clear z4
  have z5 := Y5.out.drewN nq
  rw [hx] at z5
  have Z5 := Lib.hid z5
  clear z5
  have z6 := Y6.out.drewN nq
  rw [hx] at z6
  have Z6 := Lib.hid z6
  clear z6
  have z7 := Y7.out.drewN nq
  rw [hx] at z7
  have Z7 := Lib.hid z7
  clear z7
  have xs : x7.heap.size = x8.heap.size := by rw [← hx]; rfl
  rw [xs] at *
  clear hx xs Y3 Y4 Y5 Y6 Y7 B8
  have z4 := Z4.out
  have q0 := z4.cell 0
  have q1 := z4.cell 1
  have q2 := z4.cell 2
  have q3 := z4.cell 3
  have q4 := z4.cell 4
  have q5 := z4.cell 5
  clear z4
  have zc := Z6.out
  rw [WC.out.1, WC.out.2.1, WC.out.2.2.1, WC.out.2.2.2.1, WC.out.2.2.2.2.1, WC.out.2.2.2.2.2] at zc
  have ZC := Lib.hid zc
  clear zc Z6 WC DA DB DC DD
  rcases WB.out with ⟨k1, v0, v1, v2, v3, v4, v5⟩ | ⟨k1, k2, v0, v1, v2, v3, v4, v5⟩ | ⟨k1, k2, v0, v1, v2, v3, v4, v5⟩
  · have zb := Z5.out
    rw [v0, v1, v2, v3, v4, v5] at zb
    have ZB := Lib.hid zb
    clear v0 v1 v2 v3 v4 v5 WB zb Z5
    go_wp2_with fail
    have t4 := Z4.out.alloc (.cells #[.int .i64 a0, .int .i64 a1, .int .i64 (a2 + 1), .int .i64 a3, .int .i64 a4, .int .i64 a5] 26)
    have n4 : g4 ≠ x8.heap.size := Nat.ne_of_lt Z4.out.lt
    have t5 := ZB.out.alloc (.cells #[.int .i64 a0, .int .i64 a1, .int .i64 (a2 + 1), .int .i64 a3, .int .i64 a4, .int .i64 a5] 26)
    have n5 : g5 ≠ x8.heap.size := Nat.ne_of_lt ZB.out.lt
    have t6 := ZC.out.alloc (.cells #[.int .i64 a0, .int .i64 a1, .int .i64 (a2 + 1), .int .i64 a3, .int .i64 a4, .int .i64 a5] 26)
    have n6 : g6 ≠ x8.heap.size := Nat.ne_of_lt ZC.out.lt
    have t7 := Z7.out.alloc (.cells #[.int .i64 a0, .int .i64 a1, .int .i64 (a2 + 1), .int .i64 a3, .int .i64 a4, .int .i64 a5] 26)
    have n7 : g7 ≠ x8.heap.size := Nat.ne_of_lt Z7.out.lt
    have t8 := Blk.new x8 26 #[.int .i64 a0, .int .i64 a1, .int .i64 (a2 + 1), .int .i64 a3, .int .i64 a4, .int .i64 a5]
    have hb8 := below_alloc B9.out (.cells #[.int .i64 a0, .int .i64 a1, .int .i64 (a2 + 1), .int .i64 a3, .int .i64 a4, .int .i64 a5] 26)
    have gw : w.heap.size ≤ x8.heap.size := B9.out.size
    clear Z4 ZB ZC Z7 B9 q0 q1 q2 q3 q4 q5
    generalize x8.alloc (.cells #[.int .i64 a0, .int .i64 a1, .int .i64 (a2 + 1), .int .i64 a3, .int .i64 a4, .int .i64 a5] 26) = x9 at t4 t5 t6 t7 t8 hb8 ⊢
    generalize x8.heap.size = g8 at n4 n5 n6 n7 t8 gw ⊢
    have GW := Lib.hid gw
    have N4 := Lib.hid n4
    have N5 := Lib.hid n5
    have N6 := Lib.hid n6
    have N7 := Lib.hid n7
    clear gw n4 n5 n6 n7
    have m0 := t4.cell 0
    have m1 := t4.cell 1
    have m2 := t8.cell 2
    have T4 := Lib.hid t4
    have T5 := Lib.hid t5
    have T6 := Lib.hid t6
    have T7 := Lib.hid t7
    have T8 := Lib.hid t8
    have HB8 := Lib.hid hb8
    clear t4 t5 t6 t7 t8 hb8
    go_quiet ((go_at_call 11; exact Calls.quiet_of_same (HD.out _)))
    clear m0 m1 m2
    generalize hx : x9.drewN nq = x10
    have u4 := T4.out.drewN nq
    rw [hx] at u4
    have u5 := T5.out.drewN nq
    rw [hx] at u5
    have u6 := T6.out.drewN nq
    rw [hx] at u6
    have u7 := T7.out.drewN nq
    rw [hx] at u7
    have u8 := T8.out.drewN nq
    rw [hx] at u8
    have ub := below_drewN HB8.out nq
    rw [hx] at ub
    clear T4 T5 T6 T7 T8 HB8 hx
    have UB := Lib.hid ub
    have j0 := u4.cell 0
    have r0 := u8.cell 0
    have s0 := u5.cell 0
    have o0 := u6.cell 0
    have l0 := u7.cell 0
    have j1 := u4.cell 1
    have r1 := u8.cell 1
    have s1 := u5.cell 1
    have o1 := u6.cell 1
    have l1 := u7.cell 1
    have j2 := u4.cell 2
    have r2 := u8.cell 2
    have s2 := u5.cell 2
    have o2 := u6.cell 2
    have l2 := u7.cell 2
    have j3 := u4.cell 3
    have r3 := u8.cell 3
    have s3 := u5.cell 3
    have o3 := u6.cell 3
    have l3 := u7.cell 3
    have j4 := u4.cell 4
    have r4 := u8.cell 4
    have s4 := u5.cell 4
    have o4 := u6.cell 4
    have l4 := u7.cell 4
    have j5 := u4.cell 5
    have r5 := u8.cell 5
    have s5 := u5.cell 5
    have o5 := u6.cell 5
    have l5 := u7.cell 5
    have i0 := u8.frozen 0
    have i1 := u8.frozen 1
    have i2 := u8.frozen 2
    have i5 := u4.frozen 5
    have n4 := N4.out
    have n5 := N5.out
    have n6 := N6.out
    have n7 := N7.out
    have b4 := n4.symm
    have b5 := n5.symm
    have b6 := n6.symm
    have b7 := n7.symm
    have U4 := Lib.hid u4
    have U5 := Lib.hid u5
    have U6 := Lib.hid u6
    have U7 := Lib.hid u7
    have U8 := Lib.hid u8
    clear u4 u5 u6 u7 u8 ub
    have h1 : ∀ w, (Op.equalIn 10000 26 (.agg #[.int .i64 a0, .int .i64 a1, .int .i64 (a2 + 1), .int .i64 a3, .int .i64 a4, .int .i64 a5]) (.agg #[.int .i64 a0, .int .i64 a1, .int .i64 (a2 + 1), .int .i64 a3, .int .i64 a4, .int .i64 a5])).run Tryd.prog w = .ok true w := fun w => by simpa using six_eq [a0, a1, a2 + 1, a3, a4, a5] [a0, a1, a2 + 1, a3, a4, a5] rfl rfl w
    have h2 : ∀ w, (Op.equalIn 10000 26 (.agg #[.int .i64 (a0 + 400), .int .i64 a1, .int .i64 a2, .int .i64 a3, .int .i64 a4, .int .i64 a5]) (.agg #[.int .i64 (a0 + 400), .int .i64 a1, .int .i64 a2, .int .i64 a3, .int .i64 a4, .int .i64 a5])).run Tryd.prog w = .ok true w := fun w => by simpa using six_eq [a0 + 400, a1, a2, a3, a4, a5] [a0 + 400, a1, a2, a3, a4, a5] rfl rfl w
    have h3 : ∀ w, (Op.equalIn 10000 26 (.agg #[.int .i64 a0, .int .i64 a1, .int .i64 a2, .int .i64 a3, .int .i64 a4, .int .i64 (a5 + 1)]) (.agg #[.int .i64 a0, .int .i64 a1, .int .i64 a2, .int .i64 a3, .int .i64 a4, .int .i64 (a5 + 1)])).run Tryd.prog w = .ok true w := fun w => by simpa using six_eq [a0, a1, a2, a3, a4, a5 + 1] [a0, a1, a2, a3, a4, a5 + 1] rfl rfl w
    have k2 : ¬ 12 < a1 := by have := PB.out; omega
    go_upto_region 20 with (fail)
    have a_4 := U4.out.alloc (.cells #[.int .i64 (a0 + 400), .int .i64 a1, .int .i64 a2, .int .i64 a3, .int .i64 a4, .int .i64 a5] 26)
    have a_5 := U5.out.alloc (.cells #[.int .i64 (a0 + 400), .int .i64 a1, .int .i64 a2, .int .i64 a3, .int .i64 a4, .int .i64 a5] 26)
    have a_6 := U6.out.alloc (.cells #[.int .i64 (a0 + 400), .int .i64 a1, .int .i64 a2, .int .i64 a3, .int .i64 a4, .int .i64 a5] 26)
    have a_7 := U7.out.alloc (.cells #[.int .i64 (a0 + 400), .int .i64 a1, .int .i64 a2, .int .i64 a3, .int .i64 a4, .int .i64 a5] 26)
    have a_8 := U8.out.alloc (.cells #[.int .i64 (a0 + 400), .int .i64 a1, .int .i64 a2, .int .i64 a3, .int .i64 a4, .int .i64 a5] 26)
    have a_9 := Blk.new x10 26 #[.int .i64 (a0 + 400), .int .i64 a1, .int .i64 a2, .int .i64 a3, .int .i64 a4, .int .i64 a5]
    have a_b := below_alloc UB.out (.cells #[.int .i64 (a0 + 400), .int .i64 a1, .int .i64 a2, .int .i64 a3, .int .i64 a4, .int .i64 a5] 26)
    clear r0 s0 o0 l0 r1 s1 o1 l1 r2 s2 o2 l2 r3 s3 o3 l3 r4 s4 o4 l4 r5 s5 o5 l5 i0 i1 i2 i5 j0 j1 j2 j3 j4 j5 U4 U5 U6 U7 U8 UB
    generalize x10.alloc (.cells #[.int .i64 (a0 + 400), .int .i64 a1, .int .i64 a2, .int .i64 a3, .int .i64 a4, .int .i64 a5] 26) = x12 at a_4 a_5 a_6 a_7 a_8 a_9 a_b ⊢
    generalize x10.heap.size = g9 at a_9 ⊢
    have UB := Lib.hid a_b
    have j0 := a_4.cell 0
    have r0 := a_8.cell 0
    have s0 := a_5.cell 0
    have o0 := a_6.cell 0
    have l0 := a_7.cell 0
    have m0 := a_9.cell 0
    have j1 := a_4.cell 1
    have r1 := a_8.cell 1
    have s1 := a_5.cell 1
    have o1 := a_6.cell 1
    have l1 := a_7.cell 1
    have m1 := a_9.cell 1
    have j2 := a_4.cell 2
    have r2 := a_8.cell 2
    have s2 := a_5.cell 2
    have o2 := a_6.cell 2
    have l2 := a_7.cell 2
    have m2 := a_9.cell 2
    have j3 := a_4.cell 3
    have r3 := a_8.cell 3
    have s3 := a_5.cell 3
    have o3 := a_6.cell 3
    have l3 := a_7.cell 3
    have m3 := a_9.cell 3
    have j4 := a_4.cell 4
    have r4 := a_8.cell 4
    have s4 := a_5.cell 4
    have o4 := a_6.cell 4
    have l4 := a_7.cell 4
    have m4 := a_9.cell 4
    have j5 := a_4.cell 5
    have r5 := a_8.cell 5
    have s5 := a_5.cell 5
    have o5 := a_6.cell 5
    have l5 := a_7.cell 5
    have m5 := a_9.cell 5
    have i5 := a_4.frozen 5
    have nn := NE47.out
    have nn2 := nn.symm
    clear a_4 a_5 a_6 a_7 a_8 a_9 a_b
    rcases WD.out with ⟨kd, y0, y1, y2, y3, y4, y5⟩ | ⟨kd, y5⟩
    · rw [y0] at l0
      rw [y1] at l1
      rw [y2] at l2
      rw [y3] at l3
      rw [y4] at l4
      rw [y5] at l5
      clear y0 y1 y2 y3 y4 y5 WD
      go_wp2_with fail
      go_ret
      refine ⟨by first | rfl | simp, ?_⟩
      repeat' first | exact UB.out | refine below_alloc ?_ _ | refine Below.setCell ?_ (by first | exact GW.out | exact GW4.out) _
    · rw [y5] at l5
      clear y5 WD
      go_wp2_with fail
      go_ret
      refine ⟨by first | rfl | simp, ?_⟩
      repeat' first | exact UB.out | refine below_alloc ?_ _ | refine Below.setCell ?_ (by first | exact GW.out | exact GW4.out) _
  · have zb := Z5.out
    rw [v0, v1, v2, v3, v4, v5] at zb
    have ZB := Lib.hid zb
    clear v0 v1 v2 v3 v4 v5 WB zb Z5
    go_wp2_with fail
    have t4 := Z4.out.alloc (.cells #[.int .i64 a0, .int .i64 a1, .int .i64 (a2 + 1), .int .i64 a3, .int .i64 a4, .int .i64 a5] 26)
    have n4 : g4 ≠ x8.heap.size := Nat.ne_of_lt Z4.out.lt
    have t5 := ZB.out.alloc (.cells #[.int .i64 a0, .int .i64 a1, .int .i64 (a2 + 1), .int .i64 a3, .int .i64 a4, .int .i64 a5] 26)
    have n5 : g5 ≠ x8.heap.size := Nat.ne_of_lt ZB.out.lt
    have t6 := ZC.out.alloc (.cells #[.int .i64 a0, .int .i64 a1, .int .i64 (a2 + 1), .int .i64 a3, .int .i64 a4, .int .i64 a5] 26)
    have n6 : g6 ≠ x8.heap.size := Nat.ne_of_lt ZC.out.lt
    have t7 := Z7.out.alloc (.cells #[.int .i64 a0, .int .i64 a1, .int .i64 (a2 + 1), .int .i64 a3, .int .i64 a4, .int .i64 a5] 26)
    have n7 : g7 ≠ x8.heap.size := Nat.ne_of_lt Z7.out.lt
    have t8 := Blk.new x8 26 #[.int .i64 a0, .int .i64 a1, .int .i64 (a2 + 1), .int .i64 a3, .int .i64 a4, .int .i64 a5]
    have hb8 := below_alloc B9.out (.cells #[.int .i64 a0, .int .i64 a1, .int .i64 (a2 + 1), .int .i64 a3, .int .i64 a4, .int .i64 a5] 26)
    have gw : w.heap.size ≤ x8.heap.size := B9.out.size
    clear Z4 ZB ZC Z7 B9 q0 q1 q2 q3 q4 q5
    generalize x8.alloc (.cells #[.int .i64 a0, .int .i64 a1, .int .i64 (a2 + 1), .int .i64 a3, .int .i64 a4, .int .i64 a5] 26) = x9 at t4 t5 t6 t7 t8 hb8 ⊢
    generalize x8.heap.size = g8 at n4 n5 n6 n7 t8 gw ⊢
    have GW := Lib.hid gw
    have N4 := Lib.hid n4
    have N5 := Lib.hid n5
    have N6 := Lib.hid n6
    have N7 := Lib.hid n7
    clear gw n4 n5 n6 n7
    have m0 := t4.cell 0
    have m1 := t4.cell 1
    have m2 := t8.cell 2
    have T4 := Lib.hid t4
    have T5 := Lib.hid t5
    have T6 := Lib.hid t6
    have T7 := Lib.hid t7
    have T8 := Lib.hid t8
    have HB8 := Lib.hid hb8
    clear t4 t5 t6 t7 t8 hb8
    go_quiet ((go_at_call 11; exact Calls.quiet_of_same (HD.out _)))
    clear m0 m1 m2
    generalize hx : x9.drewN nq = x10
    have u4 := T4.out.drewN nq
    rw [hx] at u4
    have u5 := T5.out.drewN nq
    rw [hx] at u5
    have u6 := T6.out.drewN nq
    rw [hx] at u6
    have u7 := T7.out.drewN nq
    rw [hx] at u7
    have u8 := T8.out.drewN nq
    rw [hx] at u8
    have ub := below_drewN HB8.out nq
    rw [hx] at ub
    clear T4 T5 T6 T7 T8 HB8 hx
    have UB := Lib.hid ub
    have j0 := u4.cell 0
    have r0 := u8.cell 0
    have s0 := u5.cell 0
    have o0 := u6.cell 0
    have l0 := u7.cell 0
    have j1 := u4.cell 1
    have r1 := u8.cell 1
    have s1 := u5.cell 1
    have o1 := u6.cell 1
    have l1 := u7.cell 1
    have j2 := u4.cell 2
    have r2 := u8.cell 2
    have s2 := u5.cell 2
    have o2 := u6.cell 2
    have l2 := u7.cell 2
    have j3 := u4.cell 3
    have r3 := u8.cell 3
    have s3 := u5.cell 3
    have o3 := u6.cell 3
    have l3 := u7.cell 3
    have j4 := u4.cell 4
    have r4 := u8.cell 4
    have s4 := u5.cell 4
    have o4 := u6.cell 4
    have l4 := u7.cell 4
    have j5 := u4.cell 5
    have r5 := u8.cell 5
    have s5 := u5.cell 5
    have o5 := u6.cell 5
    have l5 := u7.cell 5
    have i0 := u8.frozen 0
    have i1 := u8.frozen 1
    have i2 := u8.frozen 2
    have i5 := u4.frozen 5
    have n4 := N4.out
    have n5 := N5.out
    have n6 := N6.out
    have n7 := N7.out
    have b4 := n4.symm
    have b5 := n5.symm
    have b6 := n6.symm
    have b7 := n7.symm
    have U4 := Lib.hid u4
    have U5 := Lib.hid u5
    have U6 := Lib.hid u6
    have U7 := Lib.hid u7
    have U8 := Lib.hid u8
    clear u4 u5 u6 u7 u8 ub
    have h1 : ∀ w, (Op.equalIn 10000 26 (.agg #[.int .i64 a0, .int .i64 (a1 + 1), .int .i64 1, .int .i64 a3, .int .i64 a4, .int .i64 a5]) (.agg #[.int .i64 a0, .int .i64 (a1 + 1), .int .i64 1, .int .i64 a3, .int .i64 a4, .int .i64 a5])).run Tryd.prog w = .ok true w := fun w => by simpa using six_eq [a0, a1 + 1, 1, a3, a4, a5] [a0, a1 + 1, 1, a3, a4, a5] rfl rfl w
    have h2 : ∀ w, (Op.equalIn 10000 26 (.agg #[.int .i64 (a0 + 400), .int .i64 a1, .int .i64 a2, .int .i64 a3, .int .i64 a4, .int .i64 a5]) (.agg #[.int .i64 (a0 + 400), .int .i64 a1, .int .i64 a2, .int .i64 a3, .int .i64 a4, .int .i64 a5])).run Tryd.prog w = .ok true w := fun w => by simpa using six_eq [a0 + 400, a1, a2, a3, a4, a5] [a0 + 400, a1, a2, a3, a4, a5] rfl rfl w
    have h3 : ∀ w, (Op.equalIn 10000 26 (.agg #[.int .i64 a0, .int .i64 a1, .int .i64 a2, .int .i64 a3, .int .i64 a4, .int .i64 (a5 + 1)]) (.agg #[.int .i64 a0, .int .i64 a1, .int .i64 a2, .int .i64 a3, .int .i64 a4, .int .i64 (a5 + 1)])).run Tryd.prog w = .ok true w := fun w => by simpa using six_eq [a0, a1, a2, a3, a4, a5 + 1] [a0, a1, a2, a3, a4, a5 + 1] rfl rfl w
    go_upto_region 18 with (fail)
    have d4 := ((U4.out.far (p := ⟨g8, 1, none⟩) n4 (.int .i64 (a1 + 1))).far (p := ⟨g8, 2, none⟩) n4 (.int .i64 1))
    have d5 := ((U5.out.far (p := ⟨g8, 1, none⟩) n5 (.int .i64 (a1 + 1))).far (p := ⟨g8, 2, none⟩) n5 (.int .i64 1))
    have d6 := ((U6.out.far (p := ⟨g8, 1, none⟩) n6 (.int .i64 (a1 + 1))).far (p := ⟨g8, 2, none⟩) n6 (.int .i64 1))
    have d7 := ((U7.out.far (p := ⟨g8, 1, none⟩) n7 (.int .i64 (a1 + 1))).far (p := ⟨g8, 2, none⟩) n7 (.int .i64 1))
    have d8 : Blk ((x10.setCell ⟨g8, 1, none⟩ (.int .i64 (a1 + 1))).setCell ⟨g8, 2, none⟩ (.int .i64 1)) g8 26 #[.int .i64 a0, .int .i64 (a1 + 1), .int .i64 1, .int .i64 a3, .int .i64 a4, .int .i64 a5] := by have := ((U8.out.set_ 1 (.int .i64 (a1 + 1))).set_ 2 (.int .i64 1)); simpa using this
    have db := ((UB.out.setCell (p := ⟨g8, 1, none⟩) GW.out (.int .i64 (a1 + 1))).setCell (p := ⟨g8, 2, none⟩) GW.out (.int .i64 1))
    clear j0 r0 s0 o0 l0 j1 r1 s1 o1 l1 j2 r2 s2 o2 l2 j3 r3 s3 o3 l3 j4 r4 s4 o4 l4 j5 r5 s5 o5 l5 i0 i1 i2 i5 U4 U5 U6 U7 U8 UB
    generalize (x10.setCell ⟨g8, 1, none⟩ (.int .i64 (a1 + 1))).setCell ⟨g8, 2, none⟩ (.int .i64 1) = x11 at d4 d5 d6 d7 d8 db ⊢
    have UB := Lib.hid db
    have j0 := d4.cell 0
    have r0 := d8.cell 0
    have s0 := d5.cell 0
    have o0 := d6.cell 0
    have l0 := d7.cell 0
    have j1 := d4.cell 1
    have r1 := d8.cell 1
    have s1 := d5.cell 1
    have o1 := d6.cell 1
    have l1 := d7.cell 1
    have j2 := d4.cell 2
    have r2 := d8.cell 2
    have s2 := d5.cell 2
    have o2 := d6.cell 2
    have l2 := d7.cell 2
    have j3 := d4.cell 3
    have r3 := d8.cell 3
    have s3 := d5.cell 3
    have o3 := d6.cell 3
    have l3 := d7.cell 3
    have j4 := d4.cell 4
    have r4 := d8.cell 4
    have s4 := d5.cell 4
    have o4 := d6.cell 4
    have l4 := d7.cell 4
    have j5 := d4.cell 5
    have r5 := d8.cell 5
    have s5 := d5.cell 5
    have o5 := d6.cell 5
    have l5 := d7.cell 5
    have i5 := d4.frozen 5
    have D4 := Lib.hid d4
    have D5 := Lib.hid d5
    have D6 := Lib.hid d6
    have D7 := Lib.hid d7
    have D8 := Lib.hid d8
    clear d4 d5 d6 d7 d8 db
    go_upto_region 20 with (fail)
    have a_4 := D4.out.alloc (.cells #[.int .i64 (a0 + 400), .int .i64 a1, .int .i64 a2, .int .i64 a3, .int .i64 a4, .int .i64 a5] 26)
    have a_5 := D5.out.alloc (.cells #[.int .i64 (a0 + 400), .int .i64 a1, .int .i64 a2, .int .i64 a3, .int .i64 a4, .int .i64 a5] 26)
    have a_6 := D6.out.alloc (.cells #[.int .i64 (a0 + 400), .int .i64 a1, .int .i64 a2, .int .i64 a3, .int .i64 a4, .int .i64 a5] 26)
    have a_7 := D7.out.alloc (.cells #[.int .i64 (a0 + 400), .int .i64 a1, .int .i64 a2, .int .i64 a3, .int .i64 a4, .int .i64 a5] 26)
    have a_8 := D8.out.alloc (.cells #[.int .i64 (a0 + 400), .int .i64 a1, .int .i64 a2, .int .i64 a3, .int .i64 a4, .int .i64 a5] 26)
    have a_9 := Blk.new x11 26 #[.int .i64 (a0 + 400), .int .i64 a1, .int .i64 a2, .int .i64 a3, .int .i64 a4, .int .i64 a5]
    have a_b := below_alloc UB.out (.cells #[.int .i64 (a0 + 400), .int .i64 a1, .int .i64 a2, .int .i64 a3, .int .i64 a4, .int .i64 a5] 26)
    clear j0 r0 s0 o0 l0 j1 r1 s1 o1 l1 j2 r2 s2 o2 l2 j3 r3 s3 o3 l3 j4 r4 s4 o4 l4 j5 r5 s5 o5 l5 i5 D4 D5 D6 D7 D8 UB
    generalize x11.alloc (.cells #[.int .i64 (a0 + 400), .int .i64 a1, .int .i64 a2, .int .i64 a3, .int .i64 a4, .int .i64 a5] 26) = x12 at a_4 a_5 a_6 a_7 a_8 a_9 a_b ⊢
    generalize x11.heap.size = g9 at a_9 ⊢
    have UB := Lib.hid a_b
    have j0 := a_4.cell 0
    have r0 := a_8.cell 0
    have s0 := a_5.cell 0
    have o0 := a_6.cell 0
    have l0 := a_7.cell 0
    have m0 := a_9.cell 0
    have j1 := a_4.cell 1
    have r1 := a_8.cell 1
    have s1 := a_5.cell 1
    have o1 := a_6.cell 1
    have l1 := a_7.cell 1
    have m1 := a_9.cell 1
    have j2 := a_4.cell 2
    have r2 := a_8.cell 2
    have s2 := a_5.cell 2
    have o2 := a_6.cell 2
    have l2 := a_7.cell 2
    have m2 := a_9.cell 2
    have j3 := a_4.cell 3
    have r3 := a_8.cell 3
    have s3 := a_5.cell 3
    have o3 := a_6.cell 3
    have l3 := a_7.cell 3
    have m3 := a_9.cell 3
    have j4 := a_4.cell 4
    have r4 := a_8.cell 4
    have s4 := a_5.cell 4
    have o4 := a_6.cell 4
    have l4 := a_7.cell 4
    have m4 := a_9.cell 4
    have j5 := a_4.cell 5
    have r5 := a_8.cell 5
    have s5 := a_5.cell 5
    have o5 := a_6.cell 5
    have l5 := a_7.cell 5
    have m5 := a_9.cell 5
    have i5 := a_4.frozen 5
    have nn := NE47.out
    have nn2 := nn.symm
    clear a_4 a_5 a_6 a_7 a_8 a_9 a_b
    rcases WD.out with ⟨kd, y0, y1, y2, y3, y4, y5⟩ | ⟨kd, y5⟩
    · rw [y0] at l0
      rw [y1] at l1
      rw [y2] at l2
      rw [y3] at l3
      rw [y4] at l4
      rw [y5] at l5
      clear y0 y1 y2 y3 y4 y5 WD
      go_wp2_with fail
      go_ret
      refine ⟨by first | rfl | simp, ?_⟩
      repeat' first | exact UB.out | refine below_alloc ?_ _ | refine Below.setCell ?_ (by first | exact GW.out | exact GW4.out) _
    · rw [y5] at l5
      clear y5 WD
      go_wp2_with fail
      go_ret
      refine ⟨by first | rfl | simp, ?_⟩
      repeat' first | exact UB.out | refine below_alloc ?_ _ | refine Below.setCell ?_ (by first | exact GW.out | exact GW4.out) _
  · have zb := Z5.out
    rw [v0, v1, v2, v3, v4, v5] at zb
    have ZB := Lib.hid zb
    clear v0 v1 v2 v3 v4 v5 WB zb Z5
    go_wp2_with fail
    have t4 := Z4.out.alloc (.cells #[.int .i64 a0, .int .i64 a1, .int .i64 (a2 + 1), .int .i64 a3, .int .i64 a4, .int .i64 a5] 26)
    have n4 : g4 ≠ x8.heap.size := Nat.ne_of_lt Z4.out.lt
    have t5 := ZB.out.alloc (.cells #[.int .i64 a0, .int .i64 a1, .int .i64 (a2 + 1), .int .i64 a3, .int .i64 a4, .int .i64 a5] 26)
    have n5 : g5 ≠ x8.heap.size := Nat.ne_of_lt ZB.out.lt
    have t6 := ZC.out.alloc (.cells #[.int .i64 a0, .int .i64 a1, .int .i64 (a2 + 1), .int .i64 a3, .int .i64 a4, .int .i64 a5] 26)
    have n6 : g6 ≠ x8.heap.size := Nat.ne_of_lt ZC.out.lt
    have t7 := Z7.out.alloc (.cells #[.int .i64 a0, .int .i64 a1, .int .i64 (a2 + 1), .int .i64 a3, .int .i64 a4, .int .i64 a5] 26)
    have n7 : g7 ≠ x8.heap.size := Nat.ne_of_lt Z7.out.lt
    have t8 := Blk.new x8 26 #[.int .i64 a0, .int .i64 a1, .int .i64 (a2 + 1), .int .i64 a3, .int .i64 a4, .int .i64 a5]
    have hb8 := below_alloc B9.out (.cells #[.int .i64 a0, .int .i64 a1, .int .i64 (a2 + 1), .int .i64 a3, .int .i64 a4, .int .i64 a5] 26)
    have gw : w.heap.size ≤ x8.heap.size := B9.out.size
    clear Z4 ZB ZC Z7 B9 q0 q1 q2 q3 q4 q5
    generalize x8.alloc (.cells #[.int .i64 a0, .int .i64 a1, .int .i64 (a2 + 1), .int .i64 a3, .int .i64 a4, .int .i64 a5] 26) = x9 at t4 t5 t6 t7 t8 hb8 ⊢
    generalize x8.heap.size = g8 at n4 n5 n6 n7 t8 gw ⊢
    have GW := Lib.hid gw
    have N4 := Lib.hid n4
    have N5 := Lib.hid n5
    have N6 := Lib.hid n6
    have N7 := Lib.hid n7
    clear gw n4 n5 n6 n7
    have m0 := t4.cell 0
    have m1 := t4.cell 1
    have m2 := t8.cell 2
    have T4 := Lib.hid t4
    have T5 := Lib.hid t5
    have T6 := Lib.hid t6
    have T7 := Lib.hid t7
    have T8 := Lib.hid t8
    have HB8 := Lib.hid hb8
    clear t4 t5 t6 t7 t8 hb8
    go_quiet ((go_at_call 11; exact Calls.quiet_of_same (HD.out _)))
    clear m0 m1 m2
    generalize hx : x9.drewN nq = x10
    have u4 := T4.out.drewN nq
    rw [hx] at u4
    have u5 := T5.out.drewN nq
    rw [hx] at u5
    have u6 := T6.out.drewN nq
    rw [hx] at u6
    have u7 := T7.out.drewN nq
    rw [hx] at u7
    have u8 := T8.out.drewN nq
    rw [hx] at u8
    have ub := below_drewN HB8.out nq
    rw [hx] at ub
    clear T4 T5 T6 T7 T8 HB8 hx
    have UB := Lib.hid ub
    have j0 := u4.cell 0
    have r0 := u8.cell 0
    have s0 := u5.cell 0
    have o0 := u6.cell 0
    have l0 := u7.cell 0
    have j1 := u4.cell 1
    have r1 := u8.cell 1
    have s1 := u5.cell 1
    have o1 := u6.cell 1
    have l1 := u7.cell 1
    have j2 := u4.cell 2
    have r2 := u8.cell 2
    have s2 := u5.cell 2
    have o2 := u6.cell 2
    have l2 := u7.cell 2
    have j3 := u4.cell 3
    have r3 := u8.cell 3
    have s3 := u5.cell 3
    have o3 := u6.cell 3
    have l3 := u7.cell 3
    have j4 := u4.cell 4
    have r4 := u8.cell 4
    have s4 := u5.cell 4
    have o4 := u6.cell 4
    have l4 := u7.cell 4
    have j5 := u4.cell 5
    have r5 := u8.cell 5
    have s5 := u5.cell 5
    have o5 := u6.cell 5
    have l5 := u7.cell 5
    have i0 := u8.frozen 0
    have i1 := u8.frozen 1
    have i2 := u8.frozen 2
    have i5 := u4.frozen 5
    have n4 := N4.out
    have n5 := N5.out
    have n6 := N6.out
    have n7 := N7.out
    have b4 := n4.symm
    have b5 := n5.symm
    have b6 := n6.symm
    have b7 := n7.symm
    have U4 := Lib.hid u4
    have U5 := Lib.hid u5
    have U6 := Lib.hid u6
    have U7 := Lib.hid u7
    have U8 := Lib.hid u8
    clear u4 u5 u6 u7 u8 ub
    have h1 : ∀ w, (Op.equalIn 10000 26 (.agg #[.int .i64 (a0 + 1), .int .i64 1, .int .i64 1, .int .i64 a3, .int .i64 a4, .int .i64 a5]) (.agg #[.int .i64 (a0 + 1), .int .i64 1, .int .i64 1, .int .i64 a3, .int .i64 a4, .int .i64 a5])).run Tryd.prog w = .ok true w := fun w => by simpa using six_eq [a0 + 1, 1, 1, a3, a4, a5] [a0 + 1, 1, 1, a3, a4, a5] rfl rfl w
    have h2 : ∀ w, (Op.equalIn 10000 26 (.agg #[.int .i64 (a0 + 400), .int .i64 a1, .int .i64 a2, .int .i64 a3, .int .i64 a4, .int .i64 a5]) (.agg #[.int .i64 (a0 + 400), .int .i64 a1, .int .i64 a2, .int .i64 a3, .int .i64 a4, .int .i64 a5])).run Tryd.prog w = .ok true w := fun w => by simpa using six_eq [a0 + 400, a1, a2, a3, a4, a5] [a0 + 400, a1, a2, a3, a4, a5] rfl rfl w
    have h3 : ∀ w, (Op.equalIn 10000 26 (.agg #[.int .i64 a0, .int .i64 a1, .int .i64 a2, .int .i64 a3, .int .i64 a4, .int .i64 (a5 + 1)]) (.agg #[.int .i64 a0, .int .i64 a1, .int .i64 a2, .int .i64 a3, .int .i64 a4, .int .i64 (a5 + 1)])).run Tryd.prog w = .ok true w := fun w => by simpa using six_eq [a0, a1, a2, a3, a4, a5 + 1] [a0, a1, a2, a3, a4, a5 + 1] rfl rfl w
    go_upto_region 18 with (fail)
    have d4 := ((((U4.out.far (p := ⟨g8, 1, none⟩) n4 (.int .i64 (a1 + 1))).far (p := ⟨g8, 2, none⟩) n4 (.int .i64 1)).far (p := ⟨g8, 0, none⟩) n4 (.int .i64 (a0 + 1))).far (p := ⟨g8, 1, none⟩) n4 (.int .i64 1))
    have d5 := ((((U5.out.far (p := ⟨g8, 1, none⟩) n5 (.int .i64 (a1 + 1))).far (p := ⟨g8, 2, none⟩) n5 (.int .i64 1)).far (p := ⟨g8, 0, none⟩) n5 (.int .i64 (a0 + 1))).far (p := ⟨g8, 1, none⟩) n5 (.int .i64 1))
    have d6 := ((((U6.out.far (p := ⟨g8, 1, none⟩) n6 (.int .i64 (a1 + 1))).far (p := ⟨g8, 2, none⟩) n6 (.int .i64 1)).far (p := ⟨g8, 0, none⟩) n6 (.int .i64 (a0 + 1))).far (p := ⟨g8, 1, none⟩) n6 (.int .i64 1))
    have d7 := ((((U7.out.far (p := ⟨g8, 1, none⟩) n7 (.int .i64 (a1 + 1))).far (p := ⟨g8, 2, none⟩) n7 (.int .i64 1)).far (p := ⟨g8, 0, none⟩) n7 (.int .i64 (a0 + 1))).far (p := ⟨g8, 1, none⟩) n7 (.int .i64 1))
    have d8 : Blk ((((x10.setCell ⟨g8, 1, none⟩ (.int .i64 (a1 + 1))).setCell ⟨g8, 2, none⟩ (.int .i64 1)).setCell ⟨g8, 0, none⟩ (.int .i64 (a0 + 1))).setCell ⟨g8, 1, none⟩ (.int .i64 1)) g8 26 #[.int .i64 (a0 + 1), .int .i64 1, .int .i64 1, .int .i64 a3, .int .i64 a4, .int .i64 a5] := by have := ((((U8.out.set_ 1 (.int .i64 (a1 + 1))).set_ 2 (.int .i64 1)).set_ 0 (.int .i64 (a0 + 1))).set_ 1 (.int .i64 1)); simpa using this
    have db := ((((UB.out.setCell (p := ⟨g8, 1, none⟩) GW.out (.int .i64 (a1 + 1))).setCell (p := ⟨g8, 2, none⟩) GW.out (.int .i64 1)).setCell (p := ⟨g8, 0, none⟩) GW.out (.int .i64 (a0 + 1))).setCell (p := ⟨g8, 1, none⟩) GW.out (.int .i64 1))
    clear j0 r0 s0 o0 l0 j1 r1 s1 o1 l1 j2 r2 s2 o2 l2 j3 r3 s3 o3 l3 j4 r4 s4 o4 l4 j5 r5 s5 o5 l5 i0 i1 i2 i5 U4 U5 U6 U7 U8 UB
    generalize (((x10.setCell ⟨g8, 1, none⟩ (.int .i64 (a1 + 1))).setCell ⟨g8, 2, none⟩ (.int .i64 1)).setCell ⟨g8, 0, none⟩ (.int .i64 (a0 + 1))).setCell ⟨g8, 1, none⟩ (.int .i64 1) = x11 at d4 d5 d6 d7 d8 db ⊢
    have UB := Lib.hid db
    have j0 := d4.cell 0
    have r0 := d8.cell 0
    have s0 := d5.cell 0
    have o0 := d6.cell 0
    have l0 := d7.cell 0
    have j1 := d4.cell 1
    have r1 := d8.cell 1
    have s1 := d5.cell 1
    have o1 := d6.cell 1
    have l1 := d7.cell 1
    have j2 := d4.cell 2
    have r2 := d8.cell 2
    have s2 := d5.cell 2
    have o2 := d6.cell 2
    have l2 := d7.cell 2
    have j3 := d4.cell 3
    have r3 := d8.cell 3
    have s3 := d5.cell 3
    have o3 := d6.cell 3
    have l3 := d7.cell 3
    have j4 := d4.cell 4
    have r4 := d8.cell 4
    have s4 := d5.cell 4
    have o4 := d6.cell 4
    have l4 := d7.cell 4
    have j5 := d4.cell 5
    have r5 := d8.cell 5
    have s5 := d5.cell 5
    have o5 := d6.cell 5
    have l5 := d7.cell 5
    have i5 := d4.frozen 5
    have D4 := Lib.hid d4
    have D5 := Lib.hid d5
    have D6 := Lib.hid d6
    have D7 := Lib.hid d7
    have D8 := Lib.hid d8
    clear d4 d5 d6 d7 d8 db
    go_upto_region 20 with (fail)
    have a_4 := D4.out.alloc (.cells #[.int .i64 (a0 + 400), .int .i64 a1, .int .i64 a2, .int .i64 a3, .int .i64 a4, .int .i64 a5] 26)
    have a_5 := D5.out.alloc (.cells #[.int .i64 (a0 + 400), .int .i64 a1, .int .i64 a2, .int .i64 a3, .int .i64 a4, .int .i64 a5] 26)
    have a_6 := D6.out.alloc (.cells #[.int .i64 (a0 + 400), .int .i64 a1, .int .i64 a2, .int .i64 a3, .int .i64 a4, .int .i64 a5] 26)
    have a_7 := D7.out.alloc (.cells #[.int .i64 (a0 + 400), .int .i64 a1, .int .i64 a2, .int .i64 a3, .int .i64 a4, .int .i64 a5] 26)
    have a_8 := D8.out.alloc (.cells #[.int .i64 (a0 + 400), .int .i64 a1, .int .i64 a2, .int .i64 a3, .int .i64 a4, .int .i64 a5] 26)
    have a_9 := Blk.new x11 26 #[.int .i64 (a0 + 400), .int .i64 a1, .int .i64 a2, .int .i64 a3, .int .i64 a4, .int .i64 a5]
    have a_b := below_alloc UB.out (.cells #[.int .i64 (a0 + 400), .int .i64 a1, .int .i64 a2, .int .i64 a3, .int .i64 a4, .int .i64 a5] 26)
    clear j0 r0 s0 o0 l0 j1 r1 s1 o1 l1 j2 r2 s2 o2 l2 j3 r3 s3 o3 l3 j4 r4 s4 o4 l4 j5 r5 s5 o5 l5 i5 D4 D5 D6 D7 D8 UB
    generalize x11.alloc (.cells #[.int .i64 (a0 + 400), .int .i64 a1, .int .i64 a2, .int .i64 a3, .int .i64 a4, .int .i64 a5] 26) = x12 at a_4 a_5 a_6 a_7 a_8 a_9 a_b ⊢
    generalize x11.heap.size = g9 at a_9 ⊢
    have UB := Lib.hid a_b
    have j0 := a_4.cell 0
    have r0 := a_8.cell 0
    have s0 := a_5.cell 0
    have o0 := a_6.cell 0
    have l0 := a_7.cell 0
    have m0 := a_9.cell 0
    have j1 := a_4.cell 1
    have r1 := a_8.cell 1
    have s1 := a_5.cell 1
    have o1 := a_6.cell 1
    have l1 := a_7.cell 1
    have m1 := a_9.cell 1
    have j2 := a_4.cell 2
    have r2 := a_8.cell 2
    have s2 := a_5.cell 2
    have o2 := a_6.cell 2
    have l2 := a_7.cell 2
    have m2 := a_9.cell 2
    have j3 := a_4.cell 3
    have r3 := a_8.cell 3
    have s3 := a_5.cell 3
    have o3 := a_6.cell 3
    have l3 := a_7.cell 3
    have m3 := a_9.cell 3
    have j4 := a_4.cell 4
    have r4 := a_8.cell 4
    have s4 := a_5.cell 4
    have o4 := a_6.cell 4
    have l4 := a_7.cell 4
    have m4 := a_9.cell 4
    have j5 := a_4.cell 5
    have r5 := a_8.cell 5
    have s5 := a_5.cell 5
    have o5 := a_6.cell 5
    have l5 := a_7.cell 5
    have m5 := a_9.cell 5
    have i5 := a_4.frozen 5
    have nn := NE47.out
    have nn2 := nn.symm
    clear a_4 a_5 a_6 a_7 a_8 a_9 a_b
    rcases WD.out with ⟨kd, y0, y1, y2, y3, y4, y5⟩ | ⟨kd, y5⟩
    · rw [y0] at l0
      rw [y1] at l1
      rw [y2] at l2
      rw [y3] at l3
      rw [y4] at l4
      rw [y5] at l5
      clear y0 y1 y2 y3 y4 y5 WD
      go_wp2_with fail
      go_ret
      refine ⟨by first | rfl | simp, ?_⟩
      repeat' first | exact UB.out | refine below_alloc ?_ _ | refine Below.setCell ?_ (by first | exact GW.out | exact GW4.out) _
    · rw [y5] at l5
      clear y5 WD
      go_wp2_with fail
      go_ret
      refine ⟨by first | rfl | simp, ?_⟩
      repeat' first | exact UB.out | refine below_alloc ?_ _ | refine Below.setCell ?_ (by first | exact GW.out | exact GW4.out) _

theorem stampDays_walk (a : Int) (_wa : (Lit.int .i64 a).wf = true) (w : World) (hE : Env w) :
    Calls Tryd.prog 3 #[.int .i64 a] w fun e w' => e = .returned (.bool true) ∧ Below w.heap.size w w' := by
  by_cases h : 1086888846976 < secOf a
  · exact stampDays_far a _ _ h w hE (timed_any a 0)
  · exact stampDays_near a _ _ (timed_bd a 0).1 h w hE (timed_any a 0)

end Go.Proofs.YtgkgjlcbappbkaaDoor
