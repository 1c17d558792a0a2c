/-
  Contracts for changes that are done twice: strings.Contains of one byte, strings.Trim of octal digits.
-/
import Derived.Test.YthaggmdfjmelgaaDoorModeF
import Derived.Test.YthaggmdfjmelgaaDoorStrs
import Derived.Shelf.Strings.SlTrimAscii
namespace Mode
open Go.Lib
def eight : List UInt8 := [48, 49, 50, 51, 52, 53, 54, 55]
theorem eight_is (b : UInt8) : eight.contains b = true ↔ ¬ (b < 48 ∨ 55 < b) := by
  unfold eight
  rw [List.contains_iff_mem, UInt8.lt_iff_toNat_lt, UInt8.lt_iff_toNat_lt]
  constructor
  · intro h
    simp only [List.mem_cons, List.not_mem_nil, or_false] at h
    rcases h with rfl | rfl | rfl | rfl | rfl | rfl | rfl | rfl <;> decide
  · intro h
    have e1 : (48 : UInt8).toNat = 48 := rfl
    have e2 : (55 : UInt8).toNat = 55 := rfl
    have hb : b = UInt8.ofNat b.toNat := by simp
    have h3 : b.toNat = 48 ∨ b.toNat = 49 ∨ b.toNat = 50 ∨ b.toNat = 51 ∨ b.toNat = 52 ∨ b.toNat = 53 ∨ b.toNat = 54 ∨ b.toNat = 55 := by omega
    rcases h3 with h | h | h | h | h | h | h | h <;> (rw [hb, h]; decide)
theorem drop_nil {p : UInt8 → Bool} : ∀ {l : List UInt8}, l.dropWhile p = [] ↔ ∀ b ∈ l, p b = true
  | [] => by simp
  | x :: r => by
    by_cases h : p x = true
    · rw [List.dropWhile_cons_of_pos h, drop_nil]; simp [h]
    · rw [List.dropWhile_cons_of_neg h]
      simp only [List.cons_ne_nil, List.mem_cons, false_iff]
      intro k; exact h (k x (.inl rfl))
theorem trim_ne (l : List UInt8) (h : trimS l eight ≠ []) : ∃ c ∈ l, c < 48 ∨ 55 < c := by
  refine Classical.byContradiction fun hn => h ?_
  unfold trimS trimLeftS
  rw [drop_nil]
  intro b hb
  unfold trimRightS at hb
  rw [List.mem_reverse] at hb
  have hm := List.mem_reverse.1 ((List.dropWhile_sublist _).subset hb)
  exact (eight_is b).2 fun hc => hn ⟨b, hm, hc⟩
end Mode
namespace Go.Proofs.YthaggmdfjmelgaaDoor
open Go.RowKit

theorem trim_eight (s : ByteArray) (hs : s.size ≤ 1000000) (w : World) : Calls Tryd.prog 14 #[.string s, .string ⟨#[48, 49, 50, 51, 52, 53, 54, 55]⟩] w fun e w' => e = .returned (.string (bs (Lib.trimS s.data.toList Mode.eight))) ∧ Below w.heap.size w w' :=
  Any.strings_Trim_laid Tryd.lays160 (by kernel_rfl) s ⟨#[48, 49, 50, 51, 52, 53, 54, 55]⟩ w (by omega) (by decide) (ascii_of_all (by decide))

/-- Whether X is among the bytes. -/
theorem has_X (s : ByteArray) (w : World) : Calls Tryd.prog 13 #[.string s, .string ⟨#[88]⟩] w fun e w' => e = .returned (.bool (decide (0 ≤ Lib.indexByte s.data.toList 88))) ∧ w' = w := by
  have h3 : ∀ w : World, Calls Tryd.prog 42 #[.string s, .int .u8 88] w fun e w' => e = .returned (.int .i64 (Lib.indexByte s.data.toList 88)) ∧ w' = w := fun w => Tryd.stringslite_IndexByte s 88 w
  have H3 := Lib.hid h3
  have h2 : ∀ w : World, Calls Tryd.prog 32 #[.string s, .string ⟨#[88]⟩] w fun e w' => e = .returned (.int .i64 (Lib.indexByte s.data.toList 88)) ∧ w' = w := by
    intro w
    go_enter Tryd.func32, Tryd.ntmps32
    go_wp2_with ((go_at_call 42; refine (H3.out _).mono ?_; rintro e w2 ⟨rfl, rfl⟩))
    · rename_i hh
      have e1 : s.data.toList = [88] := by rw [← Lib.toList_data]; exact (eq_of_beq hh).symm
      go_ret
      rw [e1]
      exact ⟨rfl, rfl⟩
    · go_ret
      exact ⟨rfl, rfl⟩
  have H2 := Lib.hid h2
  have h1 : ∀ w : World, Calls Tryd.prog 19 #[.string s, .string ⟨#[88]⟩] w fun e w' => e = .returned (.int .i64 (Lib.indexByte s.data.toList 88)) ∧ w' = w := by
    intro w
    go_enter Tryd.func19, Tryd.ntmps19
    go_wp2_with ((go_at_call 32; refine (H2.out _).mono ?_; rintro e w2 ⟨rfl, rfl⟩))
    go_ret
    exact ⟨rfl, rfl⟩
  have H1 := Lib.hid h1
  clear h1 h2 h3
  go_enter Tryd.func13, Tryd.ntmps13
  go_wp2_with ((go_at_call 19; refine (H1.out _).mono ?_; rintro e w2 ⟨rfl, rfl⟩))
  go_ret
  exact ⟨rfl, rfl⟩
theorem no_X (s : ByteArray) (h : ¬ 0 ≤ Lib.indexByte s.data.toList 88) : (88 : UInt8) ∉ s.data.toList := by
  intro hm
  have hv : Lib.indexByte s.data.toList 88 = -1 := by have := Lib.indexByte_ge s.data.toList 88; omega
  obtain ⟨k, hk, e⟩ := List.getElem_of_mem hm
  exact Lib.indexByte_none hv k (by rw [List.getElem?_eq_getElem hk, e])

end Go.Proofs.YthaggmdfjmelgaaDoor
