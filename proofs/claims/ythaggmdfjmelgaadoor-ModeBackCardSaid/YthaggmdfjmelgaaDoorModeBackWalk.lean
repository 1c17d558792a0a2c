/-
  The walk of ModeBack.
-/
import Derived.Test.YthaggmdfjmelgaaDoorModeF
namespace Go.Proofs.YthaggmdfjmelgaaDoor
open Go.RowKit

set_option maxRecDepth 100000 in
set_option maxHeartbeats 4000000 in
theorem modeBack_walk (a : Int) (_wa : (Lit.int .i64 a).wf = true) (s : ByteArray) (hs : s.size ≤ 140737488351232) (w : World) :
    Calls Tryd.prog 3 #[.int .i64 a, .string s] w fun e w' => e = .returned (.bool true) ∧ Below w.heap.size w w' := by
  have p0 := pickN_lo a 4096 (by omega)
  have p1 := pickN_hi a 4096 (by omega)
  obtain ⟨m, hm⟩ := Int.eq_ofNat_of_zero_le p0
  have hm2 : m < 4096 := by omega
  have hpick : ∀ w, Calls Tryd.prog 8 #[.int .i64 a, .int .i64 4096] w fun e w' => e = .returned (.int .i64 (m : Int)) ∧ w' = w := fun w => by
    have := pick_any a 4096 w (by omega) (by omega)
    rw [hm] at this
    exact this
  have htext := text_any m hm2
  have hoct := octal_any m hm2
  obtain ⟨X, hX⟩ : ∃ X : ByteArray, ⟨(Mode.text m).toArray⟩ = X := ⟨_, rfl⟩
  obtain ⟨Y, hY⟩ : ∃ Y : ByteArray, ⟨(Mode.digits 5 m []).toArray⟩ = Y := ⟨_, rfl⟩
  rw [hX] at htext
  rw [hY] at hoct
  have hXl : X.data.toList = Mode.text m := by rw [← hX]
  have hYl : Y.data.toList = Mode.digits 5 m [] := by rw [← hY]
  have hpar : ∀ w, Calls Tryd.prog 9 #[.string X] w fun e w' => e = .returned (.tuple #[.int .i64 (m : Int), .nilIface]) ∧ w' = w := fun w => by
    have h := Mode.text_parse m hm2
    have h9 : X.size = 9 := by
      rw [← list_size, hXl]; unfold Mode.parse at h; split at h
      · assumption
      · cases h
    have := parse_full X h9 w
    rw [hXl, h] at this
    exact this
  have hchg : ∀ w, Calls Tryd.prog 11 #[.int .i64 0, .string Y, .bool false] w fun e w' => e = .returned (.tuple #[.int .i64 (m : Int), .nilIface]) ∧ Below w.heap.size w w' := fun w => by
    have h := Mode.digits_oct m hm2
    have hy : Y.size < 1000 := by
      rw [← list_size, hYl]
      have : ∀ (f n : Nat) (l : List UInt8), (Mode.digits f n l).length ≤ f + l.length := by
        intro f; induction f with
        | zero => intro n l; simp [Mode.digits]
        | succ f ih => intro n l; rw [Mode.digits]; split
                       · have := ih (n / 8) ((48 + n % 8).toUInt8 :: l); simp only [List.length_cons] at this; omega
                       · omega
      have := this 5 m []
      simp only [List.length_nil] at this
      omega
    have := change_any 0#12 Y false hy w
    rw [hYl, Mode.change, h] at this
    simp only [chV] at this
    rw [if_neg (by omega)] at this
    simp only [BitVec.toNat_ofNat, Nat.mod_eq_of_lt (show m < 2 ^ 12 from hm2)] at this
    exact this
  have M := Lib.hid moded_any
  have PK := Lib.hid hpick
  have TX := Lib.hid htext
  have OC := Lib.hid hoct
  have PA := Lib.hid hpar
  have CH := Lib.hid hchg
  have hlast : (∀ w, Calls Tryd.prog 9 #[.string s] w fun e w' => e = .returned (.tuple #[.int .i64 0, .iface 36 (.int .i64 3)]) ∧ w' = w) ∨ ∃ v : Nat, (∀ w, Calls Tryd.prog 9 #[.string s] w fun e w' => e = .returned (.tuple #[.int .i64 (v : Int), .nilIface]) ∧ w' = w) ∧ (∀ w, Calls Tryd.prog 10 #[.int .i64 v] w fun e w' => e = .returned (.string s) ∧ Below w.heap.size w w') := by
    by_cases h9 : s.size = 9
    · cases hp : Mode.parse s.data.toList with
      | none => exact .inl fun w => by have := parse_full s h9 w; rw [hp] at this; exact this
      | some v =>
        obtain ⟨hv, ht⟩ := Mode.parse_text _ _ hp
        refine .inr ⟨v, fun w => by have := parse_full s h9 w; rw [hp] at this; exact this, fun w => ?_⟩
        have := text_any v hv w
        rw [ht] at this
        exact this
    · exact .inl fun w => by
        have := parse_short s h9 w
        have hn : Mode.parse s.data.toList = none := by unfold Mode.parse; rw [if_neg (by rw [list_size]; exact h9)]
        rw [hn] at this; exact this
  clear hpick htext hoct hpar hchg hX hY hXl hYl p0 p1 hm hs
  rcases hlast with hl | ⟨v, hl, ht⟩
  · have HL := Lib.hid hl
    clear hl
    go_enter Tryd.func3, Tryd.ntmps3
    go_wp2_with (go_at_call 7; refine (M.out _).mono ?_; rintro e w1 ⟨rfl, h⟩; have B1 := Lib.hid h; clear h)
    go_wp2_with (first
      | (go_at_call 8; refine (PK.out _).mono ?_; rintro e w2 ⟨rfl, rfl⟩)
      | (go_at_call 10; refine (TX.out _).mono ?_; clear TX; rintro e w3 ⟨rfl, h⟩; have B2 := Lib.hid (thenB B1.out h); clear h)
      | (go_at_call 9; refine (PA.out _).mono ?_; clear PA; rintro e w4 ⟨rfl, rfl⟩)
      | (go_at_call 12; refine (OC.out _).mono ?_; clear OC; rintro e w5 ⟨rfl, h⟩; have B3 := Lib.hid (thenB B2.out h); clear h)
      | (go_at_call 11; refine (CH.out _).mono ?_; clear CH; rintro e w6 ⟨rfl, h⟩; have B4 := Lib.hid (thenB B3.out h); clear h))
    refine (HL.out _).mono ?_
    rintro e w7 ⟨rfl, rfl⟩
    go_wp2_with fail
    go_ret
    exact ⟨rfl, B4.out⟩
  · have HL := Lib.hid hl
    have HT := Lib.hid ht
    clear hl ht
    go_enter Tryd.func3, Tryd.ntmps3
    go_wp2_with (go_at_call 7; refine (M.out _).mono ?_; rintro e w1 ⟨rfl, h⟩; have B1 := Lib.hid h; clear h)
    go_wp2_with (first
      | (go_at_call 8; refine (PK.out _).mono ?_; rintro e w2 ⟨rfl, rfl⟩)
      | (go_at_call 10; refine (TX.out _).mono ?_; clear TX; rintro e w3 ⟨rfl, h⟩; have B2 := Lib.hid (thenB B1.out h); clear h)
      | (go_at_call 9; refine (PA.out _).mono ?_; clear PA; rintro e w4 ⟨rfl, rfl⟩)
      | (go_at_call 12; refine (OC.out _).mono ?_; clear OC; rintro e w5 ⟨rfl, h⟩; have B3 := Lib.hid (thenB B2.out h); clear h)
      | (go_at_call 11; refine (CH.out _).mono ?_; clear CH; rintro e w6 ⟨rfl, h⟩; have B4 := Lib.hid (thenB B3.out h); clear h))
    refine (HL.out _).mono ?_
    rintro e w7 ⟨rfl, rfl⟩
    go_wp2_with fail
    refine (HT.out _).mono ?_
    rintro e w8 ⟨rfl, h⟩
    have B5 := Lib.hid (thenB B4.out h)
    clear h
    go_wp2_with fail
    go_ret
    exact ⟨rfl, B5.out⟩

end Go.Proofs.YthaggmdfjmelgaaDoor
