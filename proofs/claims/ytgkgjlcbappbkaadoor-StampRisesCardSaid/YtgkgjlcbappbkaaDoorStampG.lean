/-
  The fact on times that every statement on times looks at.
-/
import Derived.Test.YtgkgjlcbappbkaaDoorStampF
import Derived.Laws.StructEq
namespace Go.Proofs.YtgkgjlcbappbkaaDoor
open Go.RowKit

theorem at_of {w : World} {f : FuncId} {args : Array Value} {r : Value} (h : ∀ w', Below w.heap.size w w' → Calls Tryd.prog f args w' fun e w'' => e = .returned r ∧ Below w'.heap.size w' w'') :
    ∀ w', Below w.heap.size w w' → Calls Tryd.prog f args w' fun e w'' => e = .returned r ∧ Below w.heap.size w w'' :=
  fun w' hb => (h w' hb).mono fun _ _ ⟨he, h2⟩ => ⟨he, thenB hb h2⟩

theorem all_ints : ∀ (xs ys : List Int), xs.length = ys.length → ((List.range xs.length).all fun i => xs.getD i 0 == ys.getD i 0) = (xs == ys)
  | [], [], _ => rfl
  | x :: xs, y :: ys, h => by
    have ih := all_ints xs ys (by simpa using h)
    rw [List.length_cons, List.range_succ_eq_map, List.all_cons, List.all_map]
    simp only [List.getD_cons_zero, Function.comp_def, List.getD_cons_succ, ih]
    simp [List.cons_beq_cons]
  | [], _ :: _, h => by simp at h
  | _ :: _, [], h => by simp at h
/-- Two arrays of numbers, one against the other. -/
theorem run_ints (P : Program) (w : World) (d : Nat) (t e : TypeId) (n : Nat) (ht : P.underlying t = some (.array n e)) (he : P.underlying e = some (.int .i64)) (hsz : ∀ w, (sizeOf e).run P w = .ok 1 w)
    (xs ys : List Int) (hx : xs.length = n) (hy : ys.length = n) :
    (Op.equalIn (d + 2) t (.agg (xs.map (Value.int .i64)).toArray) (.agg (ys.map (Value.int .i64)).toArray)).run P w = .ok (xs == ys) w := by
  rw [← all_ints xs ys (hx.trans hy.symm), hx, List.range_eq_range', Op.equalIn]
  simp only [Sem.run_bind, run_underlying ht, Result.andThen_ok, hsz, Std.Legacy.Range.forIn_eq_forIn_range', Std.Legacy.Range.size, Nat.sub_zero, Nat.add_sub_cancel, Nat.div_one]
  have hl : ∀ i ∈ List.range' 0 n 1, i < n := fun i hi => by simpa using (List.mem_range'_1.1 hi).2
  generalize List.range' 0 n 1 = l at hl ⊢
  induction l with
  | nil => simp
  | cons i l ih =>
    have hi : i < n := hl i (by simp)
    have px : (part e (xs.map (Value.int .i64)).toArray (i * 1)).run P w = .ok (.int .i64 (xs.getD i 0)) w := by
      simp [part, isAgg, run_underlying he, List.getD, List.getElem?_eq_getElem (show i < xs.length by omega)]
    have py : (part e (ys.map (Value.int .i64)).toArray (i * 1)).run P w = .ok (.int .i64 (ys.getD i 0)) w := by
      simp [part, isAgg, run_underlying he, List.getD, List.getElem?_eq_getElem (show i < ys.length by omega)]
    have pe : (Op.equalIn (d + 1) e (.int .i64 (xs.getD i 0)) (.int .i64 (ys.getD i 0))).run P w = .ok (xs.getD i 0 == ys.getD i 0) w := by
      rw [run_equalIn_int w d e .i64 .i64 _ _ he]
    simp only [List.forIn_cons, Sem.run_bind, px, py, pe, Result.andThen_ok, List.all_cons]
    cases hb : (xs.getD i 0 == ys.getD i 0)
    · simp
    · simp only [Bool.not_true, Bool.false_eq_true, if_false, Sem.run_pure, Result.andThen_ok, Bool.true_and]
      exact ih fun j hj => hl j (by simp [hj])
theorem six_eq (xs ys : List Int) (hx : xs.length = 6) (hy : ys.length = 6) (w : World) :
    (Op.equalIn 10000 26 (.agg (xs.map (Value.int .i64)).toArray) (.agg (ys.map (Value.int .i64)).toArray)).run Tryd.prog w = .ok (xs == ys) w :=
  run_ints Tryd.prog w 9998 26 3 6 Tryd.underlying26 Tryd.underlying3 Tryd.sizeOf3 xs ys hx hy

theorem half : Stp.text (-1) 500000000 = [45, 48, 46, 53] := by
  have e1 : Stp.whl (-1) 500000000 = 0 := by decide
  have e2 : Stp.prt (-1) 500000000 = 500000000 := by decide
  have e3 : Lib.decDigits (1000000000 + 500000000) = [49, 53, 48, 48, 48, 48, 48, 48, 48, 48] := by
    rw [Lib.decDigits_eq, Lib.nDigits_unique 9 _ (by omega) (by omega)]; decide
  have e4 : Stp.tail9 500000000 = [53] := by
    unfold Stp.tail9 Stp.dig9; rw [e3]; decide
  unfold Stp.text
  rw [e1, e2, e4, Lib.decDigits_one (by omega)]
  decide
theorem leap_day : six 951782400 = .agg #[.int .i64 2000, .int .i64 2, .int .i64 29, .int .i64 0, .int .i64 0, .int .i64 0] := by
  have e1 : Cal.yz (Cal.dayOf 951782400) = 2000 := by decide
  have e2 : Cal.mz (Cal.dayOf 951782400) = 2 := by decide
  have e3 : Cal.dz (Cal.dayOf 951782400) = 29 := by decide
  have e4 : Cal.restOf 951782400 = 0 := by decide
  unfold six
  rw [e1, e2, e3, e4]; rfl
theorem read_two : parsed (Stp.read true [49] [50, 53]) = .tuple #[tm (-2) 750000000, .nilIface] := by
  have e : Stp.read true [49] [50, 53] = (-2, 750000000) := by decide
  rw [e]; rfl

set_option maxRecDepth 100000 in
set_option maxHeartbeats 1000000 in
theorem stamped_any (w : World) (hE : Env w) : Calls Tryd.prog 8 #[] w fun e w' => e = .returned (.bool true) ∧ Below w.heap.size w w' := by
  have c1 := at_of (w := w) fun w' hb => text_any (-1) 500000000 ⟨by omega, by omega, by omega, by omega⟩ w' (hE.below hb)
  have c2 := at_of (w := w) fun w' hb => parse_any ⟨#[45, 49, 46, 50, 53]⟩ true true [49] [50, 53] (by decide) (by decide) (by decide) (by decide) (fun _ => by decide) (fun h => by cases h) (by decide) (by decide) (by decide) w' (hE.below hb)
  have c3 := at_of (w := w) fun w' _ => date_any 951782400 0 (by omega) (by omega) w'
  rw [half] at c1
  rw [read_two] at c2
  rw [leap_day] at c3
  have C1 : Hid (∀ w', Below w.heap.size w w' → Calls Tryd.prog 12 #[tm (-1) 500000000] w' fun e w'' => e = .returned (.tuple #[.string ⟨#[45, 48, 46, 53]⟩, .nilIface]) ∧ Below w.heap.size w w'') := c1
  have C2 := Lib.hid c2
  have C3 := Lib.hid c3
  have hq : ∀ w, (Op.equalIn 10000 26 (.agg #[.int .i64 2000, .int .i64 2, .int .i64 29, .int .i64 0, .int .i64 0, .int .i64 0]) (.agg #[.int .i64 2000, .int .i64 2, .int .i64 29, .int .i64 0, .int .i64 0, .int .i64 0])).run Tryd.prog w = .ok true w := six_eq [2000, 2, 29, 0, 0, 0] [2000, 2, 29, 0, 0, 0] rfl rfl
  clear c1 c2 c3 hE
  go_enter Tryd.func8, Tryd.ntmps8
  go_wp2_with fail
  refine (C1.out _ (Below.refl _ _)).mono ?_
  rintro e w1 ⟨rfl, h⟩
  have B1 := Lib.hid h
  clear h
  go_wp2_with fail
  refine (C2.out _ B1.out).mono ?_
  rintro e w2 ⟨rfl, h⟩
  have B2 := Lib.hid h
  clear h
  go_wp2_with fail
  refine (C3.out _ (B2.out.alloc B2.out.size _)).mono ?_
  rintro e w3 ⟨rfl, h⟩
  have B3 := Lib.hid h
  clear h
  go_wp2_with fail
  go_ret
  exact ⟨rfl, B3.out⟩

end Go.Proofs.YtgkgjlcbappbkaaDoor
