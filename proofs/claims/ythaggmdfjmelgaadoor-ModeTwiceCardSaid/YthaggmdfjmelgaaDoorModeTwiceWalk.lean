/-
  The walk of ModeTwice.
-/
import Derived.Test.YthaggmdfjmelgaaDoorModeG
import Derived.Test.YthaggmdfjmelgaaDoorTell
namespace Go.Proofs.YthaggmdfjmelgaaDoor
open Go.RowKit

theorem bs_empty {l : List UInt8} (h : l = []) : (bs l).toList.isEmpty = true := by subst h; rw [Lib.toList_data, bs_list]; rfl
theorem bs_full {l : List UInt8} (h : l ≠ []) : (bs l).toList.isEmpty = false := by
  rw [Lib.toList_data, bs_list]
  cases l with
  | nil => exact absurd rfl h
  | cons c cs => rfl

set_option maxRecDepth 100000 in
set_option maxHeartbeats 4000000 in
/-- Texts that are passed over. -/
theorem twice_early (a : Int) (s t : ByteArray) (dir : Bool) (w : World)
    (h : 40 < s.size ∨ (s.size ≤ 40 ∧ 40 < t.size) ∨ (s.size ≤ 40 ∧ t.size ≤ 40 ∧ 0 ≤ Lib.indexByte s.data.toList 88) ∨ (s.size ≤ 40 ∧ t.size ≤ 40 ∧ ¬ 0 ≤ Lib.indexByte s.data.toList 88 ∧ Lib.trimS s.data.toList Mode.eight = []) ∨ (s.size ≤ 40 ∧ t.size ≤ 40 ∧ ¬ 0 ≤ Lib.indexByte s.data.toList 88 ∧ Lib.trimS s.data.toList Mode.eight ≠ [] ∧ Lib.trimS t.data.toList Mode.eight = [])) :
    Calls Tryd.prog 6 #[.int .i64 a, .string s, .string t, .bool dir] w fun e w' => e = .returned (.bool true) ∧ Below w.heap.size w w' := by
  have M := Lib.hid moded_any
  rcases h with h1 | ⟨h1, h2⟩ | ⟨h1, h2, h3⟩ | ⟨h1, h2, h3, h4⟩ | ⟨h1, h2, h3, h4, h5⟩
  · have k1 : (40 : Int) < s.size := by omega
    go_enter Tryd.func6, Tryd.ntmps6
    go_wp2_with (go_at_call 7; refine (M.out _).mono ?_; rintro e w1 ⟨rfl, h⟩; have B1 := Lib.hid h; clear h)
    go_ret
    exact ⟨rfl, B1.out⟩
  · have k1 : (s.size : Int) ≤ 40 := by omega
    have k2 : (40 : Int) < t.size := by omega
    go_enter Tryd.func6, Tryd.ntmps6
    go_wp2_with (go_at_call 7; refine (M.out _).mono ?_; rintro e w1 ⟨rfl, h⟩; have B1 := Lib.hid h; clear h)
    go_ret
    exact ⟨rfl, B1.out⟩
  · have k1 : (s.size : Int) ≤ 40 := by omega
    have k2 : (t.size : Int) ≤ 40 := by omega
    have hx := has_X s
    rw [decide_eq_true h3] at hx
    have X := Lib.hid hx
    clear hx h1 h2 h3
    go_enter Tryd.func6, Tryd.ntmps6
    go_wp2_with (first
      | (go_at_call 7; refine (M.out _).mono ?_; rintro e w1 ⟨rfl, h⟩; have B1 := Lib.hid h; clear h)
      | (go_at_call 13; refine (X.out _).mono ?_; rintro e w2 ⟨rfl, rfl⟩))
    go_ret
    exact ⟨rfl, B1.out⟩
  · have k1 : (s.size : Int) ≤ 40 := by omega
    have k2 : (t.size : Int) ≤ 40 := by omega
    have hx := has_X s
    rw [decide_eq_false h3] at hx
    have X := Lib.hid hx
    have TS := Lib.hid (trim_eight s (by omega))
    have q1 := bs_empty h4
    generalize bs (Lib.trimS s.data.toList Mode.eight) = Q at TS q1
    clear hx h1 h2 h3 h4
    go_enter Tryd.func6, Tryd.ntmps6
    go_wp2_with (first
      | (go_at_call 7; refine (M.out _).mono ?_; rintro e w1 ⟨rfl, h⟩; have B1 := Lib.hid h; clear h)
      | (go_at_call 13; refine (X.out _).mono ?_; rintro e w2 ⟨rfl, rfl⟩)
      | (go_at_call 14; refine (TS.out _).mono ?_; clear TS; rintro e w3 ⟨rfl, h⟩; have B2 := Lib.hid (thenB B1.out h); clear h))
    go_ret
    exact ⟨rfl, B2.out⟩
  · have k1 : (s.size : Int) ≤ 40 := by omega
    have k2 : (t.size : Int) ≤ 40 := by omega
    have hx := has_X s
    rw [decide_eq_false h3] at hx
    have X := Lib.hid hx
    have TS := Lib.hid (trim_eight s (by omega))
    have TT := Lib.hid (trim_eight t (by omega))
    have q1 := bs_full h4
    have q2 := bs_empty h5
    generalize bs (Lib.trimS s.data.toList Mode.eight) = Q at TS q1
    generalize bs (Lib.trimS t.data.toList Mode.eight) = R at TT q2
    clear hx h1 h2 h3 h4 h5
    go_enter Tryd.func6, Tryd.ntmps6
    go_wp2_with (first
      | (go_at_call 7; refine (M.out _).mono ?_; rintro e w1 ⟨rfl, h⟩; have B1 := Lib.hid h; clear h)
      | (go_at_call 13; refine (X.out _).mono ?_; rintro e w2 ⟨rfl, rfl⟩)
      | (go_at_call 14; refine (TS.out _).mono ?_; clear TS; rintro e w3 ⟨rfl, h⟩; have B2 := Lib.hid (thenB B1.out h); clear h)
      | (go_at_call 14; refine (TT.out _).mono ?_; clear TT; rintro e w4 ⟨rfl, h⟩; have B3 := Lib.hid (thenB B2.out h); clear h))
    go_ret
    exact ⟨rfl, B3.out⟩

set_option maxRecDepth 100000 in
set_option maxHeartbeats 8000000 in
theorem modeTwice_walk (a : Int) (_wa : (Lit.int .i64 a).wf = true) (s : ByteArray) (_hs : s.size ≤ 140737488351232) (t : ByteArray) (_ht : t.size ≤ 140737488351232) (dir : Bool) (w : World) (hL : laidMetH Tryd.prog Rows.modeTwiceRow.laid w) :
    Calls Tryd.prog 6 #[.int .i64 a, .string s, .string t, .bool dir] w fun e w' => e = .returned (.bool true) ∧ Below w.heap.size w w' := by
  by_cases h1 : s.size ≤ 40
  case neg => exact twice_early a s t dir w (.inl (by omega))
  by_cases h2 : t.size ≤ 40
  case neg => exact twice_early a s t dir w (.inr (.inl ⟨h1, by omega⟩))
  by_cases h3 : 0 ≤ Lib.indexByte s.data.toList 88
  · exact twice_early a s t dir w (.inr (.inr (.inl ⟨h1, h2, h3⟩)))
  by_cases h4 : Lib.trimS s.data.toList Mode.eight = []
  · exact twice_early a s t dir w (.inr (.inr (.inr (.inl ⟨h1, h2, h3, h4⟩))))
  by_cases h5 : Lib.trimS t.data.toList Mode.eight = []
  · exact twice_early a s t dir w (.inr (.inr (.inr (.inr ⟨h1, h2, h3, h4, h5⟩))))
  have hE : ErrT w := errT_of_laid hL (by simp [Rows.modeTwiceRow, Rows.laid_errors_errorType])
  have M := Lib.hid moded_any
  have k1 : (s.size : Int) ≤ 40 := by omega
  have k2 : (t.size : Int) ≤ 40 := by omega
  have nx := no_X s h3
  have ms := Mode.trim_ne _ h4
  have mt := Mode.trim_ne _ h5
  have hx := has_X s
  rw [decide_eq_false h3] at hx
  have X := Lib.hid hx
  have TS := Lib.hid (trim_eight s (by omega))
  have TT := Lib.hid (trim_eight t (by omega))
  have q1 := bs_full h4
  have q2 := bs_full h5
  generalize bs (Lib.trimS s.data.toList Mode.eight) = Q at TS q1
  generalize bs (Lib.trimS t.data.toList Mode.eight) = R at TT q2
  have p0 := pickN_lo a 4096 (by omega)
  have p1 := pickN_hi a 4096 (by omega)
  obtain ⟨m, hm⟩ : ∃ m : BitVec 12, pickN a 4096 = (m.toNat : Int) := ⟨BitVec.ofNat 12 (pickN a 4096).toNat, by rw [BitVec.toNat_ofNat, Nat.mod_eq_of_lt (by omega)]; omega⟩
  have hpa : ∀ w, Calls Tryd.prog 8 #[.int .i64 a, .int .i64 4096] w fun e w' => e = .returned (.int .i64 (m.toNat : Int)) ∧ w' = w := fun w => by
    have := pick_any a 4096 w (by omega) (by omega)
    rw [hm] at this
    exact this
  have PA := Lib.hid hpa
  clear hx hpa p0 p1 hm h3 h4 h5 hL
  have c1 := change_any m s dir (by omega)
  have hr : ∃ r, Mode.change m s.data.toList dir = some r := by
    unfold Mode.change; rw [Mode.octL_not _ ms]; exact ⟨_, rfl⟩
  obtain ⟨r, hr⟩ := hr
  rw [hr] at c1
  cases r with
  | none =>
    have c1 : ∀ w, Calls Tryd.prog 11 #[.int .i64 m.toNat, .string s, .bool dir] w fun e w' => e = .returned (.tuple #[.int .i64 0, .iface 36 (.int .i64 3)]) ∧ Below w.heap.size w w' := c1
    have C1 := Lib.hid c1
    clear c1 hr h1 h2 nx ms mt
    go_enter Tryd.func6, Tryd.ntmps6
    go_wp2_with (first
      | (go_at_call 7; refine (M.out _).mono ?_; rintro e w1 ⟨rfl, h⟩; have B1 := Lib.hid h; clear h)
      | (go_at_call 13; refine (X.out _).mono ?_; rintro e w2 ⟨rfl, rfl⟩)
      | (go_at_call 14; refine (TS.out _).mono ?_; clear TS; rintro e w3 ⟨rfl, h⟩; have B2 := Lib.hid (thenB B1.out h); clear h)
      | (go_at_call 14; refine (TT.out _).mono ?_; clear TT; rintro e w4 ⟨rfl, h⟩; have B3 := Lib.hid (thenB B2.out h); clear h)
      | (go_at_call 8; refine (PA.out _).mono ?_; rintro e w5 ⟨rfl, rfl⟩)
      | (go_at_call 11; refine (C1.out _).mono ?_; clear C1; rintro e w6 ⟨rfl, h⟩; have B4 := Lib.hid (thenB B3.out h); clear h))
    go_ret
    exact ⟨rfl, B4.out⟩
  | some n =>
    have c1 : ∀ w, Calls Tryd.prog 11 #[.int .i64 m.toNat, .string s, .bool dir] w fun e w' => e = .returned (.tuple #[.int .i64 n.toNat, .nilIface]) ∧ Below w.heap.size w w' := c1
    have c2 : ∀ w, Calls Tryd.prog 11 #[.int .i64 n.toNat, .string s, .bool dir] w fun e w' => e = .returned (.tuple #[.int .i64 n.toNat, .nilIface]) ∧ Below w.heap.size w w' := fun w => by
      have := change_any n s dir (by omega) w
      rw [Mode.change_twice m n _ dir nx ms hr] at this
      exact this
    have hS : (s ++ ⟨#[44]⟩ ++ t).data.toList = s.data.toList ++ 44 :: t.data.toList := by rw [cat_list, cat_list, List.append_assoc]; rfl
    have hz : (s ++ ⟨#[44]⟩ ++ t).size < 1000 := by rw [ByteArray.size_append, ByteArray.size_append]; show _ + 1 + _ < 1000; omega
    have c3 := change_any n t dir (by omega)
    have c4 := change_any m (s ++ ⟨#[44]⟩ ++ t) dir hz
    rw [hS, Mode.change_join m n _ _ dir ms mt hr] at c4
    have hadd := fun w => run_string_add_sum (P := Tryd.prog) w s ⟨#[44]⟩ (by show _ + 1 ≤ _; omega)
    have hadd2 := fun w => run_string_add_sum (P := Tryd.prog) w (s ++ ⟨#[44]⟩) t (by rw [ByteArray.size_append]; show _ + 1 + _ ≤ _; omega)
    have hr2 : ∃ r, Mode.change n t.data.toList dir = some r := by
      unfold Mode.change; rw [Mode.octL_not _ mt]; exact ⟨_, rfl⟩
    obtain ⟨r2, hr2⟩ := hr2
    rw [hr2] at c3 c4
    clear hr hr2 h1 h2 nx ms mt hS hz
    generalize hSS : s ++ ⟨#[44]⟩ ++ t = SS at c4 hadd2
    clear hSS
    cases r2 with
    | none =>
      have c3 : ∀ w, Calls Tryd.prog 11 #[.int .i64 n.toNat, .string t, .bool dir] w fun e w' => e = .returned (.tuple #[.int .i64 0, .iface 36 (.int .i64 3)]) ∧ Below w.heap.size w w' := c3
      have c4 : ∀ w, Calls Tryd.prog 11 #[.int .i64 m.toNat, .string SS, .bool dir] w fun e w' => e = .returned (.tuple #[.int .i64 0, .iface 36 (.int .i64 3)]) ∧ Below w.heap.size w w' := c4
      have C1 := Lib.hid c1
      have C2 := Lib.hid c2
      have C3 := Lib.hid c3
      have C4 := Lib.hid c4
      clear c1 c2 c3 c4
      go_enter Tryd.func6, Tryd.ntmps6
      go_wp2_with (first
        | (go_at_call 7; refine (M.out _).mono ?_; rintro e w1 ⟨rfl, h⟩; have B1 := Lib.hid h; clear h)
        | (go_at_call 13; refine (X.out _).mono ?_; rintro e w2 ⟨rfl, rfl⟩)
        | (go_at_call 14; refine (TS.out _).mono ?_; clear TS; rintro e w3 ⟨rfl, h⟩; have B2 := Lib.hid (thenB B1.out h); clear h)
        | (go_at_call 14; refine (TT.out _).mono ?_; clear TT; rintro e w4 ⟨rfl, h⟩; have B3 := Lib.hid (thenB B2.out h); clear h)
        | (go_at_call 8; refine (PA.out _).mono ?_; rintro e w5 ⟨rfl, rfl⟩)
        | (go_at_call 11; refine (C1.out _).mono ?_; clear C1; rintro e w6 ⟨rfl, h⟩; have B4 := Lib.hid (thenB B3.out h); clear h)
        | (go_at_call 11; refine (C2.out _).mono ?_; clear C2; rintro e w7 ⟨rfl, h⟩; have B5 := Lib.hid (thenB B4.out h); clear h)
        | (go_at_call 11; refine (C3.out _).mono ?_; clear C3; rintro e w8 ⟨rfl, h⟩; have B6 := Lib.hid (thenB B5.out h); clear h)
        | (go_at_call 11; refine (C4.out _).mono ?_; clear C4; rintro e w9 ⟨rfl, h⟩; have B7 := Lib.hid (thenB B6.out h); clear h))
      have hE7 := hE.below B7.out
      have T1 := Lib.hid (tell_errno 3 w9 hE7)
      refine T1.out.mono ?_
      rintro e w10 ⟨rfl, h⟩
      have B8 := Lib.hid (thenB B7.out h)
      clear h T1 hE7
      go_wp2_with fail
      have T2 := Lib.hid (tell_errno 3 w10 (hE.below B8.out))
      refine T2.out.mono ?_
      rintro e w11 ⟨rfl, h⟩
      have B9 := Lib.hid (thenB B8.out h)
      clear h T2
      go_wp2_with fail
      go_ret
      exact ⟨rfl, B9.out⟩
    | some x =>
      have c3 : ∀ w, Calls Tryd.prog 11 #[.int .i64 n.toNat, .string t, .bool dir] w fun e w' => e = .returned (.tuple #[.int .i64 x.toNat, .nilIface]) ∧ Below w.heap.size w w' := c3
      have c4 : ∀ w, Calls Tryd.prog 11 #[.int .i64 m.toNat, .string SS, .bool dir] w fun e w' => e = .returned (.tuple #[.int .i64 x.toNat, .nilIface]) ∧ Below w.heap.size w w' := c4
      have C1 := Lib.hid c1
      have C2 := Lib.hid c2
      have C3 := Lib.hid c3
      have C4 := Lib.hid c4
      clear c1 c2 c3 c4
      go_enter Tryd.func6, Tryd.ntmps6
      go_wp2_with (first
        | (go_at_call 7; refine (M.out _).mono ?_; rintro e w1 ⟨rfl, h⟩; have B1 := Lib.hid h; clear h)
        | (go_at_call 13; refine (X.out _).mono ?_; rintro e w2 ⟨rfl, rfl⟩)
        | (go_at_call 14; refine (TS.out _).mono ?_; clear TS; rintro e w3 ⟨rfl, h⟩; have B2 := Lib.hid (thenB B1.out h); clear h)
        | (go_at_call 14; refine (TT.out _).mono ?_; clear TT; rintro e w4 ⟨rfl, h⟩; have B3 := Lib.hid (thenB B2.out h); clear h)
        | (go_at_call 8; refine (PA.out _).mono ?_; rintro e w5 ⟨rfl, rfl⟩)
        | (go_at_call 11; refine (C1.out _).mono ?_; clear C1; rintro e w6 ⟨rfl, h⟩; have B4 := Lib.hid (thenB B3.out h); clear h)
        | (go_at_call 11; refine (C2.out _).mono ?_; clear C2; rintro e w7 ⟨rfl, h⟩; have B5 := Lib.hid (thenB B4.out h); clear h)
        | (go_at_call 11; refine (C3.out _).mono ?_; clear C3; rintro e w8 ⟨rfl, h⟩; have B6 := Lib.hid (thenB B5.out h); clear h)
        | (go_at_call 11; refine (C4.out _).mono ?_; clear C4; rintro e w9 ⟨rfl, h⟩; have B7 := Lib.hid (thenB B6.out h); clear h))
      refine (tell_nil _).mono ?_
      rintro e w10 ⟨rfl, rfl⟩
      go_wp2_with fail
      refine (tell_nil _).mono ?_
      rintro e w11 ⟨rfl, rfl⟩
      go_wp2_with fail
      go_ret
      exact ⟨rfl, B7.out⟩

end Go.Proofs.YthaggmdfjmelgaaDoor
