/-
  StampBack at more digits, by the contracts of what it calls.
-/
import Derived.Test.YtgkgjlcbappbkaaDoorStampK
import Derived.Deep.RegionHeld3
namespace Go.Proofs.YtgkgjlcbappbkaaDoor
open Go.RowKit

set_option maxRecDepth 100000 in
set_option maxHeartbeats 8000000 in
theorem back_core (a b zr : Int) (more : ByteArray) (s n d1 d2 : Int) (neg dot : Bool) (X V F Wd Tl R1 R2 L N Q Q0 : ByteArray) (z k : Nat) (out : Value) (w : World)
    (hs : Calls Tryd.prog 8 #[] w fun e w' => e = .returned (.bool true) ∧ Below w.heap.size w w')
    (t1 : ∀ w, Calls Tryd.prog 9 #[.int .i64 a, .int .i64 b] w fun e w' => e = .returned (tm s n) ∧ Below w.heap.size w w')
    (tx : ∀ w', Below w.heap.size w w' → Calls Tryd.prog 12 #[tm s n] w' fun e w'' => e = .returned (.tuple #[.string X, .nilIface]) ∧ Below w'.heap.size w' w'')
    (px : ∀ w', Below w.heap.size w w' → Calls Tryd.prog 16 #[.string X] w' fun e w'' => e = .returned (.tuple #[tm s n, .nilIface]) ∧ Below w'.heap.size w' w'')
    (k1 : decide (20 < (more.size : Int)) = false)
    (k2 : Q.toList.isEmpty = true)
    (tr : ∀ w, Calls Tryd.prog 17 #[.string more, .string ⟨#[48, 49, 50, 51, 52, 53, 54, 55, 56, 57]⟩] w fun e w' => e = .returned (.string Q) ∧ Below w.heap.size w w')
    (hp : ∀ w, Calls Tryd.prog 18 #[.string X, .string ⟨#[45]⟩] w fun e w' => e = .returned (.bool neg) ∧ w' = w)
    (tp : ∀ w, Calls Tryd.prog 19 #[.string X, .string ⟨#[45]⟩] w fun e w' => e = .returned (.string V) ∧ w' = w)
    (cn : ∀ w, Calls Tryd.prog 20 #[.string V, .string ⟨#[46]⟩] w fun e w' => e = .returned (.bool dot) ∧ w' = w)
    (hd : (dot = true ∧ V = F) ∨ (dot = false ∧ V ++ ⟨#[46]⟩ = F))
    (ct : ∀ w', Below w.heap.size w w' → Calls Tryd.prog 21 #[.string F, .string ⟨#[46]⟩] w' fun e w'' => e = .returned (.tuple #[.string Wd, .string Tl, .bool true]) ∧ Below w'.heap.size w' w'')
    (pk : ∀ w, Calls Tryd.prog 23 #[.int .i64 zr, .int .i64 5] w fun e w' => e = .returned (.int .i64 z) ∧ w' = w)
    (r1 : ∀ w, Calls Tryd.prog 22 #[.string ⟨#[48]⟩, .int .i64 z] w fun e w' => e = .returned (.string R1) ∧ Below w.heap.size w w')
    (r2 : ∀ w, Calls Tryd.prog 22 #[.string ⟨#[48]⟩, .int .i64 k] w fun e w' => e = .returned (.string R2) ∧ Below w.heap.size w w')
    (hk : (9 : Int) - Tl.size = k)
    (zT : Tl.size ≤ 9)
    (zV : V.size ≤ 100)
    (zF : F.size ≤ 100)
    (z1 : R1.size ≤ 100)
    (z2 : R2.size ≤ 100)
    (zm : more.size ≤ 20)
    (zL : L.size ≤ 1000)
    (hL : R1 ++ F ++ R2 ++ more = L)
    (hN : (neg = true ∧ ⟨#[45]⟩ ++ L = N) ∨ (neg = false ∧ L = N))
    (p3 : ∀ w', Below w.heap.size w w' → Calls Tryd.prog 16 #[.string N] w' fun e w'' => e = .returned (out) ∧ Below w'.heap.size w' w'')
    (t0 : ∀ w, Calls Tryd.prog 17 #[.string more, .string ⟨#[48]⟩] w fun e w' => e = .returned (.string Q0) ∧ Below w.heap.size w w')
    (sd : ∀ w, Calls Tryd.prog 24 #[tm s n] w fun e w' => e = .returned (tm d1 d2) ∧ Below w.heap.size w w')
    (ho : (Q0.toList.isEmpty = true ∧ out = .tuple #[tm s n, .nilIface]) ∨ (Q0.toList.isEmpty = false ∧ neg = false ∧ out = .tuple #[tm s n, .nilIface]) ∨ (Q0.toList.isEmpty = false ∧ neg = true ∧ out = .tuple #[tm d1 d2, .nilIface]) ∨ (Q0.toList.isEmpty = false ∧ neg = true ∧ out = .tuple #[tm 0 0, .iface 51 (.int .i64 2)])) :
    Calls Tryd.prog 7 #[.int .i64 a, .int .i64 b, .string more, .int .i64 zr] w fun e w' => e = .returned (.bool true) ∧ Below w.heap.size w w' := by
  have HS := Lib.hid hs
  have T1 := Lib.hid t1
  have TX := Lib.hid tx
  have PX := Lib.hid px
  have TR := Lib.hid tr
  have HP := Lib.hid hp
  have TP := Lib.hid tp
  have CN := Lib.hid cn
  have HD := Lib.hid hd
  have CT := Lib.hid ct
  have PK := Lib.hid pk
  have RA := Lib.hid r1
  have RB := Lib.hid r2
  have HN := Lib.hid hN
  have P3 := Lib.hid p3
  have T0 := Lib.hid t0
  have SD := Lib.hid sd
  have HO := Lib.hid ho
  have s1 : (⟨#[46]⟩ : ByteArray).size = 1 := rfl
  have s2 : (⟨#[45]⟩ : ByteArray).size = 1 := rfl
  have q0 := fun w => run_string_add_sum (P := Tryd.prog) w V ⟨#[46]⟩ (by omega)
  have q1 := fun w => run_string_add_sum (P := Tryd.prog) w R1 F (by omega)
  have q2 := fun w => run_string_add_sum (P := Tryd.prog) w (R1 ++ F) R2 (by rw [ByteArray.size_append]; omega)
  have q3 := fun w => run_string_add_sum (P := Tryd.prog) w (R1 ++ F ++ R2) more (by rw [ByteArray.size_append, ByteArray.size_append]; omega)
  have q4 := fun w => run_string_add_sum (P := Tryd.prog) w ⟨#[45]⟩ L (by omega)
  have ek : IntKind.i64.wrap ((9 : Int) - Tl.size) = k := by rw [IntWalk.i64_in _ (by omega)]; exact hk
  clear hs t1 tx px tr hp tp cn hd ct pk r1 r2 hN p3 t0 sd ho zT zV zF z1 z2 zm zL s1 s2
  go_enter Tryd.func7, Tryd.ntmps7
  go_wp2_with fail
  refine HS.out.mono ?_
  rintro e w1 ⟨rfl, h⟩
  have B1 := Lib.hid h
  clear h
  go_wp2_with fail
  refine (T1.out _).mono ?_
  rintro e w2 ⟨rfl, h⟩
  have B2 := Lib.hid (thenB B1.out h)
  clear h
  go_wp2_with fail
  have y := Blk.new w2 24 #[.int .i64 s, .int .i64 n]
  have hB := below_alloc B2.out (.cells #[.int .i64 s, .int .i64 n] 24)
  have hl : w2.heap.size < (w2.alloc (.cells #[.int .i64 s, .int .i64 n] 24)).heap.size := by simp
  generalize w2.alloc (.cells #[.int .i64 s, .int .i64 n] 24) = w3 at y hB hl ⊢
  generalize w2.heap.size = g at y hl ⊢
  refine (TX.out _ hB).mono ?_
  rintro e w4 ⟨rfl, h⟩
  have Y := Lib.hid (y.below h hl)
  have G := Lib.hid (Nat.lt_of_lt_of_le hl h.size)
  have B4 := Lib.hid (thenB hB h)
  clear h y hB hl
  go_wp2_with fail
  refine (PX.out _ B4.out).mono ?_
  rintro e w5 ⟨rfl, h⟩
  have y := (Y.out.below h G.out).alloc (.cells #[.int .i64 s, .int .i64 n] 24)
  have B5 := Lib.hid (below_alloc (thenB B4.out h) (.cells #[.int .i64 s, .int .i64 n] 24))
  clear h
  have c0 := y.cell 0
  have c1 := y.cell 1
  have Y5 := Lib.hid y
  clear y Y G
  go_wp2_with fail
  refine (TR.out _).mono ?_
  rintro e w6 ⟨rfl, h⟩
  have B6 := Lib.hid (thenB B5.out h)
  have Y6 := Lib.hid (Y5.out.below h Y5.out.lt)
  clear h c0 c1 Y5
  go_wp2_with fail
  refine (HP.out _).mono ?_
  rintro e w7 ⟨rfl, rfl⟩
  go_wp2_with fail
  refine (TP.out _).mono ?_
  rintro e w7 ⟨rfl, rfl⟩
  go_wp2_with fail
  refine (CN.out _).mono ?_
  rintro e w7 ⟨rfl, rfl⟩
  rcases HD.out with ⟨rfl, rfl⟩ | ⟨rfl, hF⟩
  all_goals
    go_wp2_with fail
    refine (CT.out _ B6.out).mono ?_
    rintro e w8 ⟨rfl, h⟩
    have B8 := Lib.hid (thenB B6.out h)
    have Y8 := Lib.hid (Y6.out.below h Y6.out.lt)
    clear h Y6
    go_wp2_with fail
    refine (PK.out _).mono ?_
    rintro e w9 ⟨rfl, rfl⟩
    go_wp2_with fail
    refine (RA.out _).mono ?_
    rintro e w9 ⟨rfl, h⟩
    have B9 := Lib.hid (thenB B8.out h)
    have Y9 := Lib.hid (Y8.out.below h Y8.out.lt)
    clear h Y8
    go_wp2_with fail
    refine (RB.out _).mono ?_
    rintro e w10 ⟨rfl, h⟩
    have B10 := Lib.hid (thenB B9.out h)
    have Y10 := Lib.hid (Y9.out.below h Y9.out.lt)
    clear h Y9
    rcases HN.out with ⟨rfl, hN⟩ | ⟨rfl, hN⟩
    · go_wp2_with fail
      rcases HO.out with ⟨kq, rfl⟩ | ⟨kq, hn, rfl⟩ | ⟨kq, hn, rfl⟩ | ⟨kq, hn, rfl⟩
      · refine (P3.out _ B10.out).mono ?_
        rintro e w11 ⟨rfl, h⟩
        have B11 := Lib.hid (below_alloc (thenB B10.out h) (.cells #[.int .i64 s, .int .i64 n] 24))
        have Y11 := Lib.hid ((Y10.out.below h Y10.out.lt).alloc (.cells #[.int .i64 s, .int .i64 n] 24))
        have Z11 := Lib.hid (Blk.new w11 24 #[.int .i64 s, .int .i64 n])
        clear h Y10
        go_wp2_with fail
        refine (T0.out _).mono ?_
        rintro e w12 ⟨rfl, h⟩
        have B12 := Lib.hid (thenB B11.out h)
        have y := Y11.out.below h Y11.out.lt
        have zb := Z11.out.below h Z11.out.lt
        have c0 := y.cell 0
        have c1 := y.cell 1
        have f0 := zb.cell 0
        have f1 := zb.cell 1
        clear h y zb Y11 Z11
        go_wp2_with fail
        go_ret
        exact ⟨by first | rfl | simp, B12.out⟩
      · cases hn
      · refine (P3.out _ B10.out).mono ?_
        rintro e w11 ⟨rfl, h⟩
        have B11 := Lib.hid (below_alloc (thenB B10.out h) (.cells #[.int .i64 d1, .int .i64 d2] 24))
        have Y11 := Lib.hid ((Y10.out.below h Y10.out.lt).alloc (.cells #[.int .i64 d1, .int .i64 d2] 24))
        have Z11 := Lib.hid (Blk.new w11 24 #[.int .i64 d1, .int .i64 d2])
        clear h Y10
        go_wp2_with fail
        refine (T0.out _).mono ?_
        rintro e w12 ⟨rfl, h⟩
        have B12 := Lib.hid (thenB B11.out h)
        have y := Y11.out.below h Y11.out.lt
        have zb := Z11.out.below h Z11.out.lt
        have c0 := y.cell 0
        have c1 := y.cell 1
        have f0 := zb.cell 0
        have f1 := zb.cell 1
        clear h y zb Y11 Z11
        go_wp2_with fail
        go_region_with ((go_at_call 24; (with_reducible refine (SD.out _).mono ?_); rintro e w13 ⟨rfl, TT⟩; have g0 := keep_drew f0 TT rfl; have g1 := keep_drew f1 TT rfl; have VC := Lib.hid (thenB B12.out.drew TT); clear TT))
        all_goals go_wp2_with fail
        all_goals go_ret
        all_goals exact ⟨by first | rfl | simp, VC.out⟩
      · refine (P3.out _ B10.out).mono ?_
        rintro e w11 ⟨rfl, h⟩
        have B11 := Lib.hid (below_alloc (thenB B10.out h) (.cells #[.int .i64 0, .int .i64 0] 24))
        have Y11 := Lib.hid ((Y10.out.below h Y10.out.lt).alloc (.cells #[.int .i64 0, .int .i64 0] 24))
        have Z11 := Lib.hid (Blk.new w11 24 #[.int .i64 0, .int .i64 0])
        clear h Y10
        go_wp2_with fail
        refine (T0.out _).mono ?_
        rintro e w12 ⟨rfl, h⟩
        have B12 := Lib.hid (thenB B11.out h)
        have y := Y11.out.below h Y11.out.lt
        have zb := Z11.out.below h Z11.out.lt
        have c0 := y.cell 0
        have c1 := y.cell 1
        have f0 := zb.cell 0
        have f1 := zb.cell 1
        clear h y zb Y11 Z11
        go_wp2_with fail
        go_region_with (fail)
        all_goals go_wp2_with fail
        all_goals go_ret
        all_goals exact ⟨by first | rfl | simp, B12.out.drew⟩
    · go_wp2_with fail
      rcases HO.out with ⟨kq, rfl⟩ | ⟨kq, hn, rfl⟩ | ⟨kq, hn, rfl⟩ | ⟨kq, hn, rfl⟩
      · refine (P3.out _ B10.out).mono ?_
        rintro e w11 ⟨rfl, h⟩
        have B11 := Lib.hid (below_alloc (thenB B10.out h) (.cells #[.int .i64 s, .int .i64 n] 24))
        have Y11 := Lib.hid ((Y10.out.below h Y10.out.lt).alloc (.cells #[.int .i64 s, .int .i64 n] 24))
        have Z11 := Lib.hid (Blk.new w11 24 #[.int .i64 s, .int .i64 n])
        clear h Y10
        go_wp2_with fail
        refine (T0.out _).mono ?_
        rintro e w12 ⟨rfl, h⟩
        have B12 := Lib.hid (thenB B11.out h)
        have y := Y11.out.below h Y11.out.lt
        have zb := Z11.out.below h Z11.out.lt
        have c0 := y.cell 0
        have c1 := y.cell 1
        have f0 := zb.cell 0
        have f1 := zb.cell 1
        clear h y zb Y11 Z11
        go_wp2_with fail
        go_ret
        exact ⟨by first | rfl | simp, B12.out⟩
      · refine (P3.out _ B10.out).mono ?_
        rintro e w11 ⟨rfl, h⟩
        have B11 := Lib.hid (below_alloc (thenB B10.out h) (.cells #[.int .i64 s, .int .i64 n] 24))
        have Y11 := Lib.hid ((Y10.out.below h Y10.out.lt).alloc (.cells #[.int .i64 s, .int .i64 n] 24))
        have Z11 := Lib.hid (Blk.new w11 24 #[.int .i64 s, .int .i64 n])
        clear h Y10
        go_wp2_with fail
        refine (T0.out _).mono ?_
        rintro e w12 ⟨rfl, h⟩
        have B12 := Lib.hid (thenB B11.out h)
        have y := Y11.out.below h Y11.out.lt
        have zb := Z11.out.below h Z11.out.lt
        have c0 := y.cell 0
        have c1 := y.cell 1
        have f0 := zb.cell 0
        have f1 := zb.cell 1
        clear h y zb Y11 Z11
        go_wp2_with fail
        go_ret
        exact ⟨by first | rfl | simp, B12.out⟩
      · cases hn
      · cases hn

end Go.Proofs.YtgkgjlcbappbkaaDoor
