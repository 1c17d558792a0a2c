/-
  The walk of StampOrder.
-/
import Derived.Test.YtgkgjlcbappbkaaDoorStampH
import Derived.Deep.RegionHeld3
namespace Go.Proofs.YtgkgjlcbappbkaaDoor
open Go.RowKit

set_option maxRecDepth 100000 in
set_option maxHeartbeats 2000000 in
theorem order_way0 (a b c d s n u m : Int) (k : (s == u) = false) (w : World) (hE : Env w)
    (x1 : ∀ w, Calls Tryd.prog 13 #[tm s n, tm u m] w fun e w' => e = .returned (.bool true) ∧ Below w.heap.size w w')
    (x2 : ∀ w, Calls Tryd.prog 13 #[tm u m, tm s n] w fun e w' => e = .returned (.bool false) ∧ Below w.heap.size w w')
    (x3 : ∀ w, Calls Tryd.prog 13 #[tm s n, tm s 0] w fun e w' => e = .returned (.bool false) ∧ Below w.heap.size w w')
    (z1 : ∀ w, Calls Tryd.prog 14 #[tm s n] w fun e w' => e = .returned (tm s 0) ∧ Below w.heap.size w w')
    (t1 : ∀ w, Calls Tryd.prog 9 #[.int .i64 a, .int .i64 b] w fun e w' => e = .returned (tm s n) ∧ Below w.heap.size w w')
    (t2 : ∀ w, Calls Tryd.prog 9 #[.int .i64 c, .int .i64 d] w fun e w' => e = .returned (tm u m) ∧ Below w.heap.size w w') :
    Calls Tryd.prog 5 #[.int .i64 a, .int .i64 b, .int .i64 c, .int .i64 d] w fun e w' => e = .returned (.bool true) ∧ Below w.heap.size w w' := by
  have HS := Lib.hid (stamped_any w hE)
  have T1 := Lib.hid t1
  have T2 := Lib.hid t2
  clear t1 t2 hE
  have X1 := Lib.hid x1
  have X2 := Lib.hid x2
  have X3 := Lib.hid x3
  have Z1 := Lib.hid z1
  clear x1 x2 x3 z1
  go_enter Tryd.func5, Tryd.ntmps5
  go_wp2_with fail
  refine HS.out.mono ?_
  rintro e w1 ⟨rfl, h⟩
  have B1 := Lib.hid h
  clear h
  go_wp2_with fail
  refine (T1.out _).mono ?_
  rintro e w2 ⟨rfl, h⟩
  have B2 := Lib.hid (thenB B1.out h)
  clear h
  go_wp2_with fail
  refine (T2.out _).mono ?_
  rintro e w3 ⟨rfl, h⟩
  have B3 := Lib.hid (thenB B2.out h)
  clear h
  go_wp2_with fail
  have z1 := (Blk.new w3 24 #[.int .i64 s, .int .i64 n]).alloc (.cells #[.int .i64 u, .int .i64 m] 24)
  have z2 := Blk.new (w3.alloc (.cells #[.int .i64 s, .int .i64 n] 24)) 24 #[.int .i64 u, .int .i64 m]
  rw [World.size_alloc] at z2
  have hB4 := (B3.out.alloc B3.out.size (.cells #[.int .i64 s, .int .i64 n] 24)).alloc (by have := B3.out.size; simp; omega) (.cells #[.int .i64 u, .int .i64 m] 24)
  generalize ((w3.alloc (.cells #[.int .i64 s, .int .i64 n] 24)).alloc (.cells #[.int .i64 u, .int .i64 m] 24)) = w4 at z1 z2 hB4 ⊢
  generalize w3.heap.size = g at z1 z2 ⊢
  have c0 := z1.cell 0
  have c1 := z1.cell 1
  have c2 := z2.cell 0
  have c3 := z2.cell 1
  clear z1 z2
  go_region_held3 (fun w' => w'.cell? ⟨g, 0, none⟩ = some (.int .i64 s) ∧ w'.cell? ⟨g, 1, none⟩ = some (.int .i64 n) ∧ w'.cell? ⟨g + 1, 0, none⟩ = some (.int .i64 u) ∧ w'.cell? ⟨g + 1, 1, none⟩ = some (.int .i64 m) ∧ Below w.heap.size w w')
    (first
      | (go_split_ands; exact ⟨keep_cell TT (by assumption), keep_cell TT (by assumption), keep_cell TT (by assumption), keep_cell TT (by assumption), thenB (by assumption) TT⟩)
      | (go_split_ands; refine ⟨?_, ?_, ?_, ?_, ?_⟩ <;> first | assumption | exact Below.drew (by assumption) | exact below_alloc (by assumption) _ | go_keep)
      | go_keep)
    (first
      | (go_at_call 13; (with_reducible refine (X1.out _).mono ?_); rintro e wt ⟨rfl, TT⟩)
      | (go_at_call 13; (with_reducible refine (X2.out _).mono ?_); rintro e wt ⟨rfl, TT⟩))
  all_goals go_split_ands
  all_goals rename_i v0 v1 v2 v3 vB
  all_goals go_wp2_with fail
  all_goals refine wp_loop_rounds 4 ?_
  all_goals rw [rounds_succ]
  all_goals go_wp2_with fail
  all_goals rw [rounds_succ]
  all_goals go_wp2_with fail
  all_goals rw [rounds_succ]
  all_goals go_wp2_with fail
  all_goals rw [rounds_succ]
  all_goals go_wp2_with fail
  all_goals have p0 := v0
  all_goals have p1 := v1
  all_goals have p2 := v2
  all_goals have p3 := v3
  all_goals have VB := Lib.hid vB
  all_goals clear v0 v1 v2 v3 vB
  all_goals go_region_with (first
    | (go_at_call 14; (with_reducible refine (Z1.out _).mono ?_); rintro e wt ⟨rfl, TT⟩; have q0 := keep_drew p0 TT rfl; have q1 := keep_drew p1 TT rfl; have q2 := keep_drew p2 TT rfl; have q3 := keep_drew p3 TT rfl; have VC := Lib.hid (thenB VB.out.drew TT); clear TT)
    | (go_at_call 13; (with_reducible refine (X3.out _).mono ?_); rintro e wt ⟨rfl, TT⟩; have r0 := keep_drew q0 TT rfl; have r1 := keep_drew q1 TT rfl; have r2 := keep_drew q2 TT rfl; have r3 := keep_drew q3 TT rfl; have VD := Lib.hid (thenB VC.out TT); clear TT)
    | (go_at_call 13; (with_reducible refine (X1.out _).mono ?_); rintro e wt ⟨rfl, TT⟩; have VE := Lib.hid (thenB VD.out TT); clear TT))
  all_goals go_wp2_with fail
  all_goals go_ret
  all_goals exact ⟨rfl, VE.out⟩

set_option maxRecDepth 100000 in
set_option maxHeartbeats 2000000 in
theorem order_way1 (a b c d s n u m : Int) (k : (s == u) = true) (k2 : (n == m) = false) (w : World) (hE : Env w)
    (x1 : ∀ w, Calls Tryd.prog 13 #[tm s n, tm u m] w fun e w' => e = .returned (.bool true) ∧ Below w.heap.size w w')
    (x2 : ∀ w, Calls Tryd.prog 13 #[tm u m, tm s n] w fun e w' => e = .returned (.bool false) ∧ Below w.heap.size w w')
    (x3 : ∀ w, Calls Tryd.prog 13 #[tm s n, tm s 0] w fun e w' => e = .returned (.bool false) ∧ Below w.heap.size w w')
    (z1 : ∀ w, Calls Tryd.prog 14 #[tm s n] w fun e w' => e = .returned (tm s 0) ∧ Below w.heap.size w w')
    (t1 : ∀ w, Calls Tryd.prog 9 #[.int .i64 a, .int .i64 b] w fun e w' => e = .returned (tm s n) ∧ Below w.heap.size w w')
    (t2 : ∀ w, Calls Tryd.prog 9 #[.int .i64 c, .int .i64 d] w fun e w' => e = .returned (tm u m) ∧ Below w.heap.size w w') :
    Calls Tryd.prog 5 #[.int .i64 a, .int .i64 b, .int .i64 c, .int .i64 d] w fun e w' => e = .returned (.bool true) ∧ Below w.heap.size w w' := by
  have HS := Lib.hid (stamped_any w hE)
  have T1 := Lib.hid t1
  have T2 := Lib.hid t2
  clear t1 t2 hE
  have X1 := Lib.hid x1
  have X2 := Lib.hid x2
  have X3 := Lib.hid x3
  have Z1 := Lib.hid z1
  clear x1 x2 x3 z1
  go_enter Tryd.func5, Tryd.ntmps5
  go_wp2_with fail
  refine HS.out.mono ?_
  rintro e w1 ⟨rfl, h⟩
  have B1 := Lib.hid h
  clear h
  go_wp2_with fail
  refine (T1.out _).mono ?_
  rintro e w2 ⟨rfl, h⟩
  have B2 := Lib.hid (thenB B1.out h)
  clear h
  go_wp2_with fail
  refine (T2.out _).mono ?_
  rintro e w3 ⟨rfl, h⟩
  have B3 := Lib.hid (thenB B2.out h)
  clear h
  go_wp2_with fail
  have z1 := (Blk.new w3 24 #[.int .i64 s, .int .i64 n]).alloc (.cells #[.int .i64 u, .int .i64 m] 24)
  have z2 := Blk.new (w3.alloc (.cells #[.int .i64 s, .int .i64 n] 24)) 24 #[.int .i64 u, .int .i64 m]
  rw [World.size_alloc] at z2
  have hB4 := (B3.out.alloc B3.out.size (.cells #[.int .i64 s, .int .i64 n] 24)).alloc (by have := B3.out.size; simp; omega) (.cells #[.int .i64 u, .int .i64 m] 24)
  generalize ((w3.alloc (.cells #[.int .i64 s, .int .i64 n] 24)).alloc (.cells #[.int .i64 u, .int .i64 m] 24)) = w4 at z1 z2 hB4 ⊢
  generalize w3.heap.size = g at z1 z2 ⊢
  have c0 := z1.cell 0
  have c1 := z1.cell 1
  have c2 := z2.cell 0
  have c3 := z2.cell 1
  clear z1 z2
  go_region_held3 (fun w' => w'.cell? ⟨g, 0, none⟩ = some (.int .i64 s) ∧ w'.cell? ⟨g, 1, none⟩ = some (.int .i64 n) ∧ w'.cell? ⟨g + 1, 0, none⟩ = some (.int .i64 u) ∧ w'.cell? ⟨g + 1, 1, none⟩ = some (.int .i64 m) ∧ Below w.heap.size w w')
    (first
      | (go_split_ands; exact ⟨keep_cell TT (by assumption), keep_cell TT (by assumption), keep_cell TT (by assumption), keep_cell TT (by assumption), thenB (by assumption) TT⟩)
      | (go_split_ands; refine ⟨?_, ?_, ?_, ?_, ?_⟩ <;> first | assumption | exact Below.drew (by assumption) | exact below_alloc (by assumption) _ | go_keep)
      | go_keep)
    (first
      | (go_at_call 13; (with_reducible refine (X1.out _).mono ?_); rintro e wt ⟨rfl, TT⟩)
      | (go_at_call 13; (with_reducible refine (X2.out _).mono ?_); rintro e wt ⟨rfl, TT⟩))
  all_goals go_split_ands
  all_goals rename_i v0 v1 v2 v3 vB
  all_goals go_wp2_with fail
  all_goals refine wp_loop_rounds 4 ?_
  all_goals rw [rounds_succ]
  all_goals go_wp2_with fail
  all_goals rw [rounds_succ]
  all_goals go_wp2_with fail
  all_goals rw [rounds_succ]
  all_goals go_wp2_with fail
  all_goals rw [rounds_succ]
  all_goals go_wp2_with fail
  all_goals have p0 := v0
  all_goals have p1 := v1
  all_goals have p2 := v2
  all_goals have p3 := v3
  all_goals have VB := Lib.hid vB
  all_goals clear v0 v1 v2 v3 vB
  all_goals go_region_with (first
    | (go_at_call 14; (with_reducible refine (Z1.out _).mono ?_); rintro e wt ⟨rfl, TT⟩; have q0 := keep_drew p0 TT rfl; have q1 := keep_drew p1 TT rfl; have q2 := keep_drew p2 TT rfl; have q3 := keep_drew p3 TT rfl; have VC := Lib.hid (thenB VB.out.drew TT); clear TT)
    | (go_at_call 13; (with_reducible refine (X3.out _).mono ?_); rintro e wt ⟨rfl, TT⟩; have r0 := keep_drew q0 TT rfl; have r1 := keep_drew q1 TT rfl; have r2 := keep_drew q2 TT rfl; have r3 := keep_drew q3 TT rfl; have VD := Lib.hid (thenB VC.out TT); clear TT)
    | (go_at_call 13; (with_reducible refine (X1.out _).mono ?_); rintro e wt ⟨rfl, TT⟩; have VE := Lib.hid (thenB VD.out TT); clear TT))
  all_goals go_wp2_with fail
  all_goals go_ret
  all_goals exact ⟨rfl, VE.out⟩

set_option maxRecDepth 100000 in
set_option maxHeartbeats 2000000 in
theorem order_way2 (a b c d s n u m : Int) (k : (s == u) = false) (w : World) (hE : Env w)
    (x1 : ∀ w, Calls Tryd.prog 13 #[tm s n, tm u m] w fun e w' => e = .returned (.bool false) ∧ Below w.heap.size w w')
    (x2 : ∀ w, Calls Tryd.prog 13 #[tm u m, tm s n] w fun e w' => e = .returned (.bool true) ∧ Below w.heap.size w w')
    (x3 : ∀ w, Calls Tryd.prog 13 #[tm s n, tm s 0] w fun e w' => e = .returned (.bool false) ∧ Below w.heap.size w w')
    (x4 : ∀ w, Calls Tryd.prog 13 #[tm s 0, tm u 0] w fun e w' => e = .returned (.bool false) ∧ Below w.heap.size w w')
    (z1 : ∀ w, Calls Tryd.prog 14 #[tm s n] w fun e w' => e = .returned (tm s 0) ∧ Below w.heap.size w w')
    (z2 : ∀ w, Calls Tryd.prog 14 #[tm u m] w fun e w' => e = .returned (tm u 0) ∧ Below w.heap.size w w')
    (t1 : ∀ w, Calls Tryd.prog 9 #[.int .i64 a, .int .i64 b] w fun e w' => e = .returned (tm s n) ∧ Below w.heap.size w w')
    (t2 : ∀ w, Calls Tryd.prog 9 #[.int .i64 c, .int .i64 d] w fun e w' => e = .returned (tm u m) ∧ Below w.heap.size w w') :
    Calls Tryd.prog 5 #[.int .i64 a, .int .i64 b, .int .i64 c, .int .i64 d] w fun e w' => e = .returned (.bool true) ∧ Below w.heap.size w w' := by
  have HS := Lib.hid (stamped_any w hE)
  have T1 := Lib.hid t1
  have T2 := Lib.hid t2
  clear t1 t2 hE
  have X1 := Lib.hid x1
  have X2 := Lib.hid x2
  have X3 := Lib.hid x3
  have X4 := Lib.hid x4
  have Z1 := Lib.hid z1
  have Z2 := Lib.hid z2
  clear x1 x2 x3 x4 z1 z2
  go_enter Tryd.func5, Tryd.ntmps5
  go_wp2_with fail
  refine HS.out.mono ?_
  rintro e w1 ⟨rfl, h⟩
  have B1 := Lib.hid h
  clear h
  go_wp2_with fail
  refine (T1.out _).mono ?_
  rintro e w2 ⟨rfl, h⟩
  have B2 := Lib.hid (thenB B1.out h)
  clear h
  go_wp2_with fail
  refine (T2.out _).mono ?_
  rintro e w3 ⟨rfl, h⟩
  have B3 := Lib.hid (thenB B2.out h)
  clear h
  go_wp2_with fail
  have z1 := (Blk.new w3 24 #[.int .i64 s, .int .i64 n]).alloc (.cells #[.int .i64 u, .int .i64 m] 24)
  have z2 := Blk.new (w3.alloc (.cells #[.int .i64 s, .int .i64 n] 24)) 24 #[.int .i64 u, .int .i64 m]
  rw [World.size_alloc] at z2
  have hB4 := (B3.out.alloc B3.out.size (.cells #[.int .i64 s, .int .i64 n] 24)).alloc (by have := B3.out.size; simp; omega) (.cells #[.int .i64 u, .int .i64 m] 24)
  generalize ((w3.alloc (.cells #[.int .i64 s, .int .i64 n] 24)).alloc (.cells #[.int .i64 u, .int .i64 m] 24)) = w4 at z1 z2 hB4 ⊢
  generalize w3.heap.size = g at z1 z2 ⊢
  have c0 := z1.cell 0
  have c1 := z1.cell 1
  have c2 := z2.cell 0
  have c3 := z2.cell 1
  clear z1 z2
  go_region_held3 (fun w' => w'.cell? ⟨g, 0, none⟩ = some (.int .i64 s) ∧ w'.cell? ⟨g, 1, none⟩ = some (.int .i64 n) ∧ w'.cell? ⟨g + 1, 0, none⟩ = some (.int .i64 u) ∧ w'.cell? ⟨g + 1, 1, none⟩ = some (.int .i64 m) ∧ Below w.heap.size w w')
    (first
      | (go_split_ands; exact ⟨keep_cell TT (by assumption), keep_cell TT (by assumption), keep_cell TT (by assumption), keep_cell TT (by assumption), thenB (by assumption) TT⟩)
      | (go_split_ands; refine ⟨?_, ?_, ?_, ?_, ?_⟩ <;> first | assumption | exact Below.drew (by assumption) | exact below_alloc (by assumption) _ | go_keep)
      | go_keep)
    (first
      | (go_at_call 13; (with_reducible refine (X1.out _).mono ?_); rintro e wt ⟨rfl, TT⟩)
      | (go_at_call 13; (with_reducible refine (X2.out _).mono ?_); rintro e wt ⟨rfl, TT⟩))
  all_goals go_split_ands
  all_goals rename_i v0 v1 v2 v3 vB
  all_goals go_wp2_with fail
  all_goals refine wp_loop_rounds 4 ?_
  all_goals rw [rounds_succ]
  all_goals go_wp2_with fail
  all_goals rw [rounds_succ]
  all_goals go_wp2_with fail
  all_goals rw [rounds_succ]
  all_goals go_wp2_with fail
  all_goals rw [rounds_succ]
  all_goals go_wp2_with fail
  all_goals go_region_held3 (fun w' => w'.cell? ⟨g, 0, none⟩ = some (.int .i64 s) ∧ w'.cell? ⟨g, 1, none⟩ = some (.int .i64 n) ∧ w'.cell? ⟨g + 1, 0, none⟩ = some (.int .i64 u) ∧ w'.cell? ⟨g + 1, 1, none⟩ = some (.int .i64 m) ∧ Below w.heap.size w w')
    (first
      | (go_split_ands; exact ⟨keep_cell TT (by assumption), keep_cell TT (by assumption), keep_cell TT (by assumption), keep_cell TT (by assumption), thenB (by assumption) TT⟩)
      | (go_split_ands; refine ⟨?_, ?_, ?_, ?_, ?_⟩ <;> first | assumption | exact Below.drew (by assumption) | exact below_alloc (by assumption) _ | go_keep)
      | go_keep)
    (first
      | (go_at_call 13; (with_reducible refine (X1.out _).mono ?_); rintro e wt ⟨rfl, TT⟩)
      | (go_at_call 13; (with_reducible refine (X3.out _).mono ?_); rintro e wt ⟨rfl, TT⟩)
      | (go_at_call 13; (with_reducible refine (X4.out _).mono ?_); rintro e wt ⟨rfl, TT⟩)
      | (go_at_call 14; (with_reducible refine (Z1.out _).mono ?_); rintro e wt ⟨rfl, TT⟩)
      | (go_at_call 14; (with_reducible refine (Z2.out _).mono ?_); rintro e wt ⟨rfl, TT⟩))
  all_goals go_split_ands
  all_goals go_wp2_with fail
  all_goals go_ret
  all_goals exact ⟨rfl, by assumption⟩

set_option maxRecDepth 100000 in
set_option maxHeartbeats 2000000 in
theorem order_way3 (a b c d s n u m : Int) (k : (s == u) = true) (k2 : (n == m) = false) (w : World) (hE : Env w)
    (x1 : ∀ w, Calls Tryd.prog 13 #[tm s n, tm u m] w fun e w' => e = .returned (.bool false) ∧ Below w.heap.size w w')
    (x2 : ∀ w, Calls Tryd.prog 13 #[tm u m, tm s n] w fun e w' => e = .returned (.bool true) ∧ Below w.heap.size w w')
    (x3 : ∀ w, Calls Tryd.prog 13 #[tm s n, tm s 0] w fun e w' => e = .returned (.bool false) ∧ Below w.heap.size w w')
    (x4 : ∀ w, Calls Tryd.prog 13 #[tm s 0, tm u 0] w fun e w' => e = .returned (.bool false) ∧ Below w.heap.size w w')
    (z1 : ∀ w, Calls Tryd.prog 14 #[tm s n] w fun e w' => e = .returned (tm s 0) ∧ Below w.heap.size w w')
    (z2 : ∀ w, Calls Tryd.prog 14 #[tm u m] w fun e w' => e = .returned (tm u 0) ∧ Below w.heap.size w w')
    (t1 : ∀ w, Calls Tryd.prog 9 #[.int .i64 a, .int .i64 b] w fun e w' => e = .returned (tm s n) ∧ Below w.heap.size w w')
    (t2 : ∀ w, Calls Tryd.prog 9 #[.int .i64 c, .int .i64 d] w fun e w' => e = .returned (tm u m) ∧ Below w.heap.size w w') :
    Calls Tryd.prog 5 #[.int .i64 a, .int .i64 b, .int .i64 c, .int .i64 d] w fun e w' => e = .returned (.bool true) ∧ Below w.heap.size w w' := by
  have HS := Lib.hid (stamped_any w hE)
  have T1 := Lib.hid t1
  have T2 := Lib.hid t2
  clear t1 t2 hE
  have X1 := Lib.hid x1
  have X2 := Lib.hid x2
  have X3 := Lib.hid x3
  have X4 := Lib.hid x4
  have Z1 := Lib.hid z1
  have Z2 := Lib.hid z2
  clear x1 x2 x3 x4 z1 z2
  go_enter Tryd.func5, Tryd.ntmps5
  go_wp2_with fail
  refine HS.out.mono ?_
  rintro e w1 ⟨rfl, h⟩
  have B1 := Lib.hid h
  clear h
  go_wp2_with fail
  refine (T1.out _).mono ?_
  rintro e w2 ⟨rfl, h⟩
  have B2 := Lib.hid (thenB B1.out h)
  clear h
  go_wp2_with fail
  refine (T2.out _).mono ?_
  rintro e w3 ⟨rfl, h⟩
  have B3 := Lib.hid (thenB B2.out h)
  clear h
  go_wp2_with fail
  have z1 := (Blk.new w3 24 #[.int .i64 s, .int .i64 n]).alloc (.cells #[.int .i64 u, .int .i64 m] 24)
  have z2 := Blk.new (w3.alloc (.cells #[.int .i64 s, .int .i64 n] 24)) 24 #[.int .i64 u, .int .i64 m]
  rw [World.size_alloc] at z2
  have hB4 := (B3.out.alloc B3.out.size (.cells #[.int .i64 s, .int .i64 n] 24)).alloc (by have := B3.out.size; simp; omega) (.cells #[.int .i64 u, .int .i64 m] 24)
  generalize ((w3.alloc (.cells #[.int .i64 s, .int .i64 n] 24)).alloc (.cells #[.int .i64 u, .int .i64 m] 24)) = w4 at z1 z2 hB4 ⊢
  generalize w3.heap.size = g at z1 z2 ⊢
  have c0 := z1.cell 0
  have c1 := z1.cell 1
  have c2 := z2.cell 0
  have c3 := z2.cell 1
  clear z1 z2
  go_region_held3 (fun w' => w'.cell? ⟨g, 0, none⟩ = some (.int .i64 s) ∧ w'.cell? ⟨g, 1, none⟩ = some (.int .i64 n) ∧ w'.cell? ⟨g + 1, 0, none⟩ = some (.int .i64 u) ∧ w'.cell? ⟨g + 1, 1, none⟩ = some (.int .i64 m) ∧ Below w.heap.size w w')
    (first
      | (go_split_ands; exact ⟨keep_cell TT (by assumption), keep_cell TT (by assumption), keep_cell TT (by assumption), keep_cell TT (by assumption), thenB (by assumption) TT⟩)
      | (go_split_ands; refine ⟨?_, ?_, ?_, ?_, ?_⟩ <;> first | assumption | exact Below.drew (by assumption) | exact below_alloc (by assumption) _ | go_keep)
      | go_keep)
    (first
      | (go_at_call 13; (with_reducible refine (X1.out _).mono ?_); rintro e wt ⟨rfl, TT⟩)
      | (go_at_call 13; (with_reducible refine (X2.out _).mono ?_); rintro e wt ⟨rfl, TT⟩))
  all_goals go_split_ands
  all_goals rename_i v0 v1 v2 v3 vB
  all_goals go_wp2_with fail
  all_goals refine wp_loop_rounds 4 ?_
  all_goals rw [rounds_succ]
  all_goals go_wp2_with fail
  all_goals rw [rounds_succ]
  all_goals go_wp2_with fail
  all_goals rw [rounds_succ]
  all_goals go_wp2_with fail
  all_goals rw [rounds_succ]
  all_goals go_wp2_with fail
  all_goals go_region_held3 (fun w' => w'.cell? ⟨g, 0, none⟩ = some (.int .i64 s) ∧ w'.cell? ⟨g, 1, none⟩ = some (.int .i64 n) ∧ w'.cell? ⟨g + 1, 0, none⟩ = some (.int .i64 u) ∧ w'.cell? ⟨g + 1, 1, none⟩ = some (.int .i64 m) ∧ Below w.heap.size w w')
    (first
      | (go_split_ands; exact ⟨keep_cell TT (by assumption), keep_cell TT (by assumption), keep_cell TT (by assumption), keep_cell TT (by assumption), thenB (by assumption) TT⟩)
      | (go_split_ands; refine ⟨?_, ?_, ?_, ?_, ?_⟩ <;> first | assumption | exact Below.drew (by assumption) | exact below_alloc (by assumption) _ | go_keep)
      | go_keep)
    (first
      | (go_at_call 13; (with_reducible refine (X1.out _).mono ?_); rintro e wt ⟨rfl, TT⟩)
      | (go_at_call 13; (with_reducible refine (X3.out _).mono ?_); rintro e wt ⟨rfl, TT⟩)
      | (go_at_call 13; (with_reducible refine (X4.out _).mono ?_); rintro e wt ⟨rfl, TT⟩)
      | (go_at_call 14; (with_reducible refine (Z1.out _).mono ?_); rintro e wt ⟨rfl, TT⟩)
      | (go_at_call 14; (with_reducible refine (Z2.out _).mono ?_); rintro e wt ⟨rfl, TT⟩))
  all_goals go_split_ands
  all_goals go_wp2_with fail
  all_goals go_ret
  all_goals exact ⟨rfl, by assumption⟩

set_option maxRecDepth 100000 in
set_option maxHeartbeats 2000000 in
theorem order_way4 (a b c d s n u m : Int) (k : (s == u) = true) (k2 : (n == m) = true) (w : World) (hE : Env w)
    (x1 : ∀ w, Calls Tryd.prog 13 #[tm s n, tm u m] w fun e w' => e = .returned (.bool false) ∧ Below w.heap.size w w')
    (x2 : ∀ w, Calls Tryd.prog 13 #[tm u m, tm s n] w fun e w' => e = .returned (.bool false) ∧ Below w.heap.size w w')
    (x3 : ∀ w, Calls Tryd.prog 13 #[tm s n, tm s 0] w fun e w' => e = .returned (.bool false) ∧ Below w.heap.size w w')
    (x4 : ∀ w, Calls Tryd.prog 13 #[tm s 0, tm u 0] w fun e w' => e = .returned (.bool false) ∧ Below w.heap.size w w')
    (z1 : ∀ w, Calls Tryd.prog 14 #[tm s n] w fun e w' => e = .returned (tm s 0) ∧ Below w.heap.size w w')
    (z2 : ∀ w, Calls Tryd.prog 14 #[tm u m] w fun e w' => e = .returned (tm u 0) ∧ Below w.heap.size w w')
    (t1 : ∀ w, Calls Tryd.prog 9 #[.int .i64 a, .int .i64 b] w fun e w' => e = .returned (tm s n) ∧ Below w.heap.size w w')
    (t2 : ∀ w, Calls Tryd.prog 9 #[.int .i64 c, .int .i64 d] w fun e w' => e = .returned (tm u m) ∧ Below w.heap.size w w') :
    Calls Tryd.prog 5 #[.int .i64 a, .int .i64 b, .int .i64 c, .int .i64 d] w fun e w' => e = .returned (.bool true) ∧ Below w.heap.size w w' := by
  have HS := Lib.hid (stamped_any w hE)
  have T1 := Lib.hid t1
  have T2 := Lib.hid t2
  clear t1 t2 hE
  have X1 := Lib.hid x1
  have X2 := Lib.hid x2
  have X3 := Lib.hid x3
  have X4 := Lib.hid x4
  have Z1 := Lib.hid z1
  have Z2 := Lib.hid z2
  clear x1 x2 x3 x4 z1 z2
  go_enter Tryd.func5, Tryd.ntmps5
  go_wp2_with fail
  refine HS.out.mono ?_
  rintro e w1 ⟨rfl, h⟩
  have B1 := Lib.hid h
  clear h
  go_wp2_with fail
  refine (T1.out _).mono ?_
  rintro e w2 ⟨rfl, h⟩
  have B2 := Lib.hid (thenB B1.out h)
  clear h
  go_wp2_with fail
  refine (T2.out _).mono ?_
  rintro e w3 ⟨rfl, h⟩
  have B3 := Lib.hid (thenB B2.out h)
  clear h
  go_wp2_with fail
  have z1 := (Blk.new w3 24 #[.int .i64 s, .int .i64 n]).alloc (.cells #[.int .i64 u, .int .i64 m] 24)
  have z2 := Blk.new (w3.alloc (.cells #[.int .i64 s, .int .i64 n] 24)) 24 #[.int .i64 u, .int .i64 m]
  rw [World.size_alloc] at z2
  have hB4 := (B3.out.alloc B3.out.size (.cells #[.int .i64 s, .int .i64 n] 24)).alloc (by have := B3.out.size; simp; omega) (.cells #[.int .i64 u, .int .i64 m] 24)
  generalize ((w3.alloc (.cells #[.int .i64 s, .int .i64 n] 24)).alloc (.cells #[.int .i64 u, .int .i64 m] 24)) = w4 at z1 z2 hB4 ⊢
  generalize w3.heap.size = g at z1 z2 ⊢
  have c0 := z1.cell 0
  have c1 := z1.cell 1
  have c2 := z2.cell 0
  have c3 := z2.cell 1
  clear z1 z2
  go_region_held3 (fun w' => w'.cell? ⟨g, 0, none⟩ = some (.int .i64 s) ∧ w'.cell? ⟨g, 1, none⟩ = some (.int .i64 n) ∧ w'.cell? ⟨g + 1, 0, none⟩ = some (.int .i64 u) ∧ w'.cell? ⟨g + 1, 1, none⟩ = some (.int .i64 m) ∧ Below w.heap.size w w')
    (first
      | (go_split_ands; exact ⟨keep_cell TT (by assumption), keep_cell TT (by assumption), keep_cell TT (by assumption), keep_cell TT (by assumption), thenB (by assumption) TT⟩)
      | (go_split_ands; refine ⟨?_, ?_, ?_, ?_, ?_⟩ <;> first | assumption | exact Below.drew (by assumption) | exact below_alloc (by assumption) _ | go_keep)
      | go_keep)
    (first
      | (go_at_call 13; (with_reducible refine (X1.out _).mono ?_); rintro e wt ⟨rfl, TT⟩)
      | (go_at_call 13; (with_reducible refine (X2.out _).mono ?_); rintro e wt ⟨rfl, TT⟩))
  all_goals go_split_ands
  all_goals rename_i v0 v1 v2 v3 vB
  all_goals go_wp2_with fail
  all_goals refine wp_loop_rounds 4 ?_
  all_goals rw [rounds_succ]
  all_goals go_wp2_with fail
  all_goals rw [rounds_succ]
  all_goals go_wp2_with fail
  all_goals rw [rounds_succ]
  all_goals go_wp2_with fail
  all_goals rw [rounds_succ]
  all_goals go_wp2_with fail
  all_goals go_region_held3 (fun w' => w'.cell? ⟨g, 0, none⟩ = some (.int .i64 s) ∧ w'.cell? ⟨g, 1, none⟩ = some (.int .i64 n) ∧ w'.cell? ⟨g + 1, 0, none⟩ = some (.int .i64 u) ∧ w'.cell? ⟨g + 1, 1, none⟩ = some (.int .i64 m) ∧ Below w.heap.size w w')
    (first
      | (go_split_ands; exact ⟨keep_cell TT (by assumption), keep_cell TT (by assumption), keep_cell TT (by assumption), keep_cell TT (by assumption), thenB (by assumption) TT⟩)
      | (go_split_ands; refine ⟨?_, ?_, ?_, ?_, ?_⟩ <;> first | assumption | exact Below.drew (by assumption) | exact below_alloc (by assumption) _ | go_keep)
      | go_keep)
    (first
      | (go_at_call 13; (with_reducible refine (X1.out _).mono ?_); rintro e wt ⟨rfl, TT⟩)
      | (go_at_call 13; (with_reducible refine (X3.out _).mono ?_); rintro e wt ⟨rfl, TT⟩)
      | (go_at_call 13; (with_reducible refine (X4.out _).mono ?_); rintro e wt ⟨rfl, TT⟩)
      | (go_at_call 14; (with_reducible refine (Z1.out _).mono ?_); rintro e wt ⟨rfl, TT⟩)
      | (go_at_call 14; (with_reducible refine (Z2.out _).mono ?_); rintro e wt ⟨rfl, TT⟩))
  all_goals go_split_ands
  all_goals go_wp2_with fail
  all_goals go_ret
  all_goals exact ⟨rfl, by assumption⟩

set_option maxRecDepth 100000 in
set_option maxHeartbeats 2000000 in
theorem stampOrder_main (a b c d s n u m : Int) (n0 : 0 ≤ n) (w : World) (hE : Env w)
    (t1 : ∀ w, Calls Tryd.prog 9 #[.int .i64 a, .int .i64 b] w fun e w' => e = .returned (tm s n) ∧ Below w.heap.size w w')
    (t2 : ∀ w, Calls Tryd.prog 9 #[.int .i64 c, .int .i64 d] w fun e w' => e = .returned (tm u m) ∧ Below w.heap.size w w') :
    Calls Tryd.prog 5 #[.int .i64 a, .int .i64 b, .int .i64 c, .int .i64 d] w fun e w' => e = .returned (.bool true) ∧ Below w.heap.size w w' := by
  have x1 := fun w => before_any s n u m w
  have x2 := fun w => before_any u m s n w
  have x3 := fun w => before_any s n s 0 w
  have x4 := fun w => before_any s 0 u 0 w
  have z1 := fun w => cut_any s n w
  have z2 := fun w => cut_any u m w
  have e3 : lessT s n s 0 = false := by unfold lessT; exact decide_eq_false (by omega)
  rw [e3] at x3
  have hways : ((lessT s n u m = true ∧ lessT u m s n = false) ∧ (s == u) = false) ∨ ((lessT s n u m = true ∧ lessT u m s n = false) ∧ (s == u) = true ∧ (n == m) = false) ∨
      ((lessT s n u m = false ∧ lessT u m s n = true ∧ lessT s 0 u 0 = false) ∧ (s == u) = false) ∨ ((lessT s n u m = false ∧ lessT u m s n = true ∧ lessT s 0 u 0 = false) ∧ (s == u) = true ∧ (n == m) = false) ∨
      (lessT s n u m = false ∧ lessT u m s n = false ∧ lessT s 0 u 0 = false) ∧ (s == u) = true ∧ (n == m) = true := by
    unfold lessT
    simp only [beq_eq_false_iff_ne, beq_iff_eq, decide_eq_true_eq, decide_eq_false_iff_not]
    omega
  rcases hways with ⟨⟨e1, e2⟩, k⟩ | ⟨⟨e1, e2⟩, k, k2⟩ | ⟨⟨e1, e2, e4⟩, k⟩ | ⟨⟨e1, e2, e4⟩, k, k2⟩ | ⟨⟨e1, e2, e4⟩, k, k2⟩
  · rw [e1] at x1; rw [e2] at x2
    exact order_way0 a b c d s n u m k w hE x1 x2 x3 z1 t1 t2
  · rw [e1] at x1; rw [e2] at x2
    exact order_way1 a b c d s n u m k k2 w hE x1 x2 x3 z1 t1 t2
  · rw [e1] at x1; rw [e2] at x2; rw [e4] at x4
    exact order_way2 a b c d s n u m k w hE x1 x2 x3 x4 z1 z2 t1 t2
  · rw [e1] at x1; rw [e2] at x2; rw [e4] at x4
    exact order_way3 a b c d s n u m k k2 w hE x1 x2 x3 x4 z1 z2 t1 t2
  · rw [e1] at x1; rw [e2] at x2; rw [e4] at x4
    exact order_way4 a b c d s n u m k k2 w hE x1 x2 x3 x4 z1 z2 t1 t2

theorem stampOrder_walk (a : Int) (_wa : (Lit.int .i64 a).wf = true) (b : Int) (_wb : (Lit.int .i64 b).wf = true) (c : Int) (_wc : (Lit.int .i64 c).wf = true) (d : Int) (_wd : (Lit.int .i64 d).wf = true) (w : World) (hE : Env w) :
    Calls Tryd.prog 5 #[.int .i64 a, .int .i64 b, .int .i64 c, .int .i64 d] w fun e w' => e = .returned (.bool true) ∧ Below w.heap.size w w' :=
  stampOrder_main a b c d _ _ _ _ (timed_bd a b).2.2.1 w hE (timed_any a b) (timed_any c d)

end Go.Proofs.YtgkgjlcbappbkaaDoor
