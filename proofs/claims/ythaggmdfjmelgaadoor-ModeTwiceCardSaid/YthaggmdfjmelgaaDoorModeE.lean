/-
  mode.Text.
-/
import Derived.Test.YthaggmdfjmelgaaDoorModeD
import Derived.Lib.SlBytesConst
namespace Go.Proofs.YthaggmdfjmelgaaDoor
open Go.RowKit

def lettersA : Array Value := #[.int .u8 114, .int .u8 119, .int .u8 120, .int .u8 114, .int .u8 119, .int .u8 120, .int .u8 114, .int .u8 119, .int .u8 120]
theorem letters_bytes (w : World) : Bytes (w.alloc (.cells lettersA 5 (9, 10))) w.heap.size Mode.lettersL := fun j hj => by
  have h := heap_alloc_new w (.cells lettersA 5 (9, 10))
  have hj9 : j < 9 := hj
  have h9 : j = 0 ∨ j = 1 ∨ j = 2 ∨ j = 3 ∨ j = 4 ∨ j = 5 ∨ j = 6 ∨ j = 7 ∨ j = 8 := by omega
  constructor
  · simp only [World.cell?, h]
    rcases h9 with rfl | rfl | rfl | rfl | rfl | rfl | rfl | rfl | rfl <;> rfl
  · rcases h9 with rfl | rfl | rfl | rfl | rfl | rfl | rfl | rfl | rfl <;> (unfold World.frozen?; rw [h]; rfl)

theorem bit_at (m k : Nat) (hm : m < 4096) : bits .and .i64 (((m / 2 ^ k : Nat) : Nat) : Int) 1 = ((m >>> k % 2 : Nat) : Int) := by
  have h : m / 2 ^ k < 4096 := Nat.lt_of_le_of_lt (Nat.div_le_self _ _) hm
  have e := bits_and (BitVec.ofNat 12 (m / 2 ^ k)) 1#12
  rw [BitVec.toNat_and, BitVec.toNat_ofNat, Nat.mod_eq_of_lt h] at e
  refine e.trans ?_
  rw [show (1#12).toNat = 1 from rfl, Nat.and_one_is_mod, Nat.shiftRight_eq_div_pow]
theorem bit_zero {m k : Nat} (hm : m < 4096) (h : m >>> k % 2 = 0) : (bits .and .i64 (((m / 2 ^ k : Nat) : Nat) : Int) 1 == 0) = true := by rw [bit_at m k hm, h]; rfl
theorem bit_one {m k : Nat} (hm : m < 4096) (h : ¬ m >>> k % 2 = 0) : (bits .and .i64 (((m / 2 ^ k : Nat) : Nat) : Int) 1 == 0) = false := by
  rw [bit_at m k hm, beq_eq_false_iff_ne]; omega

set_option maxRecDepth 100000 in
set_option maxHeartbeats 8000000 in
theorem text_any (m : Nat) (hm : m < 4096) (w : World) : Calls Tryd.prog 10 #[.int .i64 m] w fun e w' => e = .returned (.string ⟨(Mode.text m).toArray⟩) ∧ Below w.heap.size w w' := by
  have hcs := fun (w : World) (C : Array Value) (n c : Nat) => Lib.run_convert_bytes_const (P := Tryd.prog) w 39 5 C n c Tryd.underlying39 Tryd.underlying5
  go_enter Tryd.func10, Tryd.ntmps10
  go_wp2_with fail
  have hB0 := letters_bytes w
  have hb0 := (Below.refl w.heap.size w).alloc (Nat.le_refl _) (.cells lettersA 5 (9, 10))
  obtain ⟨W, hW⟩ : ∃ W, w.alloc (.cells lettersA 5 (9, 10)) = W := ⟨_, rfl⟩
  rw [hW] at hB0 hb0
  unfold lettersA at hW
  rw [hW]
  obtain ⟨B, hB⟩ : ∃ B, w.heap.size = B := ⟨_, rfl⟩
  rw [hB] at hB0 hb0 ⊢
  clear hW hcs
  go_loopg [11] 10 (fun g iv wr => ∃ (i : Nat), iv = .int .i64 i ∧ i ≤ 9 ∧ g + i = 10 ∧ Bytes wr B (Mode.dashL m i) ∧ Below B w wr)
  case atStart => exact ⟨0, rfl, by omega, by omega, by rw [Mode.dash_zero]; exact hB0, hb0⟩
  case round =>
    clear hB0 hb0
    obtain ⟨i, rfl, hi, hg, hb, hbl⟩ := hrel
    have h9 : i = 0 ∨ i = 1 ∨ i = 2 ∨ i = 3 ∨ i = 4 ∨ i = 5 ∨ i = 6 ∨ i = 7 ∨ i = 8 ∨ i = 9 := by omega
    rcases h9 with rfl | rfl | rfl | rfl | rfl | rfl | rfl | rfl | rfl | rfl
    · have f0 := hb.frozen (j := 0) (by rw [Mode.dash_len]; omega)
      have c0 := hb.cell (j := 0) (by rw [Mode.dash_len]; omega)
      have hb2 := hb.set_ 0 45
      have HB := Lib.hid hb
      have HB2 := Lib.hid hb2
      have hds := Mode.dash_succ m 0 (by omega)
      have HD := Lib.hid hds
      clear hb hb2 hds
      by_cases hbt : m >>> 8 % 2 = 0
      · have hz : (bits .and .i64 ((m : Int) / 256) 1 == 0) = true := bit_zero (k := 8) hm hbt
        have HT := Lib.hid hbt
        clear hbt
        go_wp2_with fail
        go_roundg 9
        case measure => omega
        case rel => exact ⟨1, by go_num, by omega, by omega, by rw [HD.out, if_pos HT.out]; exact HB2.out, hbl.setCell (p := ⟨B, 0, none⟩) (Nat.le_refl _) _⟩
      · have hz : (bits .and .i64 ((m : Int) / 256) 1 == 0) = false := bit_one (k := 8) hm hbt
        have HT := Lib.hid hbt
        clear hbt
        go_wp2_with fail
        go_roundg 9
        case measure => omega
        case rel => exact ⟨1, by go_num, by omega, by omega, by rw [HD.out, if_neg HT.out]; exact HB.out, hbl⟩
    · have f0 := hb.frozen (j := 1) (by rw [Mode.dash_len]; omega)
      have c0 := hb.cell (j := 1) (by rw [Mode.dash_len]; omega)
      have hb2 := hb.set_ 1 45
      have HB := Lib.hid hb
      have HB2 := Lib.hid hb2
      have hds := Mode.dash_succ m 1 (by omega)
      have HD := Lib.hid hds
      clear hb hb2 hds
      by_cases hbt : m >>> 7 % 2 = 0
      · have hz : (bits .and .i64 ((m : Int) / 128) 1 == 0) = true := bit_zero (k := 7) hm hbt
        have HT := Lib.hid hbt
        clear hbt
        go_wp2_with fail
        go_roundg 8
        case measure => omega
        case rel => exact ⟨2, by go_num, by omega, by omega, by rw [HD.out, if_pos HT.out]; exact HB2.out, hbl.setCell (p := ⟨B, 1, none⟩) (Nat.le_refl _) _⟩
      · have hz : (bits .and .i64 ((m : Int) / 128) 1 == 0) = false := bit_one (k := 7) hm hbt
        have HT := Lib.hid hbt
        clear hbt
        go_wp2_with fail
        go_roundg 8
        case measure => omega
        case rel => exact ⟨2, by go_num, by omega, by omega, by rw [HD.out, if_neg HT.out]; exact HB.out, hbl⟩
    · have f0 := hb.frozen (j := 2) (by rw [Mode.dash_len]; omega)
      have c0 := hb.cell (j := 2) (by rw [Mode.dash_len]; omega)
      have hb2 := hb.set_ 2 45
      have HB := Lib.hid hb
      have HB2 := Lib.hid hb2
      have hds := Mode.dash_succ m 2 (by omega)
      have HD := Lib.hid hds
      clear hb hb2 hds
      by_cases hbt : m >>> 6 % 2 = 0
      · have hz : (bits .and .i64 ((m : Int) / 64) 1 == 0) = true := bit_zero (k := 6) hm hbt
        have HT := Lib.hid hbt
        clear hbt
        go_wp2_with fail
        go_roundg 7
        case measure => omega
        case rel => exact ⟨3, by go_num, by omega, by omega, by rw [HD.out, if_pos HT.out]; exact HB2.out, hbl.setCell (p := ⟨B, 2, none⟩) (Nat.le_refl _) _⟩
      · have hz : (bits .and .i64 ((m : Int) / 64) 1 == 0) = false := bit_one (k := 6) hm hbt
        have HT := Lib.hid hbt
        clear hbt
        go_wp2_with fail
        go_roundg 7
        case measure => omega
        case rel => exact ⟨3, by go_num, by omega, by omega, by rw [HD.out, if_neg HT.out]; exact HB.out, hbl⟩
    · have f0 := hb.frozen (j := 3) (by rw [Mode.dash_len]; omega)
      have c0 := hb.cell (j := 3) (by rw [Mode.dash_len]; omega)
      have hb2 := hb.set_ 3 45
      have HB := Lib.hid hb
      have HB2 := Lib.hid hb2
      have hds := Mode.dash_succ m 3 (by omega)
      have HD := Lib.hid hds
      clear hb hb2 hds
      by_cases hbt : m >>> 5 % 2 = 0
      · have hz : (bits .and .i64 ((m : Int) / 32) 1 == 0) = true := bit_zero (k := 5) hm hbt
        have HT := Lib.hid hbt
        clear hbt
        go_wp2_with fail
        go_roundg 6
        case measure => omega
        case rel => exact ⟨4, by go_num, by omega, by omega, by rw [HD.out, if_pos HT.out]; exact HB2.out, hbl.setCell (p := ⟨B, 3, none⟩) (Nat.le_refl _) _⟩
      · have hz : (bits .and .i64 ((m : Int) / 32) 1 == 0) = false := bit_one (k := 5) hm hbt
        have HT := Lib.hid hbt
        clear hbt
        go_wp2_with fail
        go_roundg 6
        case measure => omega
        case rel => exact ⟨4, by go_num, by omega, by omega, by rw [HD.out, if_neg HT.out]; exact HB.out, hbl⟩
    · have f0 := hb.frozen (j := 4) (by rw [Mode.dash_len]; omega)
      have c0 := hb.cell (j := 4) (by rw [Mode.dash_len]; omega)
      have hb2 := hb.set_ 4 45
      have HB := Lib.hid hb
      have HB2 := Lib.hid hb2
      have hds := Mode.dash_succ m 4 (by omega)
      have HD := Lib.hid hds
      clear hb hb2 hds
      by_cases hbt : m >>> 4 % 2 = 0
      · have hz : (bits .and .i64 ((m : Int) / 16) 1 == 0) = true := bit_zero (k := 4) hm hbt
        have HT := Lib.hid hbt
        clear hbt
        go_wp2_with fail
        go_roundg 5
        case measure => omega
        case rel => exact ⟨5, by go_num, by omega, by omega, by rw [HD.out, if_pos HT.out]; exact HB2.out, hbl.setCell (p := ⟨B, 4, none⟩) (Nat.le_refl _) _⟩
      · have hz : (bits .and .i64 ((m : Int) / 16) 1 == 0) = false := bit_one (k := 4) hm hbt
        have HT := Lib.hid hbt
        clear hbt
        go_wp2_with fail
        go_roundg 5
        case measure => omega
        case rel => exact ⟨5, by go_num, by omega, by omega, by rw [HD.out, if_neg HT.out]; exact HB.out, hbl⟩
    · have f0 := hb.frozen (j := 5) (by rw [Mode.dash_len]; omega)
      have c0 := hb.cell (j := 5) (by rw [Mode.dash_len]; omega)
      have hb2 := hb.set_ 5 45
      have HB := Lib.hid hb
      have HB2 := Lib.hid hb2
      have hds := Mode.dash_succ m 5 (by omega)
      have HD := Lib.hid hds
      clear hb hb2 hds
      by_cases hbt : m >>> 3 % 2 = 0
      · have hz : (bits .and .i64 ((m : Int) / 8) 1 == 0) = true := bit_zero (k := 3) hm hbt
        have HT := Lib.hid hbt
        clear hbt
        go_wp2_with fail
        go_roundg 4
        case measure => omega
        case rel => exact ⟨6, by go_num, by omega, by omega, by rw [HD.out, if_pos HT.out]; exact HB2.out, hbl.setCell (p := ⟨B, 5, none⟩) (Nat.le_refl _) _⟩
      · have hz : (bits .and .i64 ((m : Int) / 8) 1 == 0) = false := bit_one (k := 3) hm hbt
        have HT := Lib.hid hbt
        clear hbt
        go_wp2_with fail
        go_roundg 4
        case measure => omega
        case rel => exact ⟨6, by go_num, by omega, by omega, by rw [HD.out, if_neg HT.out]; exact HB.out, hbl⟩
    · have f0 := hb.frozen (j := 6) (by rw [Mode.dash_len]; omega)
      have c0 := hb.cell (j := 6) (by rw [Mode.dash_len]; omega)
      have hb2 := hb.set_ 6 45
      have HB := Lib.hid hb
      have HB2 := Lib.hid hb2
      have hds := Mode.dash_succ m 6 (by omega)
      have HD := Lib.hid hds
      clear hb hb2 hds
      by_cases hbt : m >>> 2 % 2 = 0
      · have hz : (bits .and .i64 ((m : Int) / 4) 1 == 0) = true := bit_zero (k := 2) hm hbt
        have HT := Lib.hid hbt
        clear hbt
        go_wp2_with fail
        go_roundg 3
        case measure => omega
        case rel => exact ⟨7, by go_num, by omega, by omega, by rw [HD.out, if_pos HT.out]; exact HB2.out, hbl.setCell (p := ⟨B, 6, none⟩) (Nat.le_refl _) _⟩
      · have hz : (bits .and .i64 ((m : Int) / 4) 1 == 0) = false := bit_one (k := 2) hm hbt
        have HT := Lib.hid hbt
        clear hbt
        go_wp2_with fail
        go_roundg 3
        case measure => omega
        case rel => exact ⟨7, by go_num, by omega, by omega, by rw [HD.out, if_neg HT.out]; exact HB.out, hbl⟩
    · have f0 := hb.frozen (j := 7) (by rw [Mode.dash_len]; omega)
      have c0 := hb.cell (j := 7) (by rw [Mode.dash_len]; omega)
      have hb2 := hb.set_ 7 45
      have HB := Lib.hid hb
      have HB2 := Lib.hid hb2
      have hds := Mode.dash_succ m 7 (by omega)
      have HD := Lib.hid hds
      clear hb hb2 hds
      by_cases hbt : m >>> 1 % 2 = 0
      · have hz : (bits .and .i64 ((m : Int) / 2) 1 == 0) = true := bit_zero (k := 1) hm hbt
        have HT := Lib.hid hbt
        clear hbt
        go_wp2_with fail
        go_roundg 2
        case measure => omega
        case rel => exact ⟨8, by go_num, by omega, by omega, by rw [HD.out, if_pos HT.out]; exact HB2.out, hbl.setCell (p := ⟨B, 7, none⟩) (Nat.le_refl _) _⟩
      · have hz : (bits .and .i64 ((m : Int) / 2) 1 == 0) = false := bit_one (k := 1) hm hbt
        have HT := Lib.hid hbt
        clear hbt
        go_wp2_with fail
        go_roundg 2
        case measure => omega
        case rel => exact ⟨8, by go_num, by omega, by omega, by rw [HD.out, if_neg HT.out]; exact HB.out, hbl⟩
    · have f0 := hb.frozen (j := 8) (by rw [Mode.dash_len]; omega)
      have c0 := hb.cell (j := 8) (by rw [Mode.dash_len]; omega)
      have hb2 := hb.set_ 8 45
      have HB := Lib.hid hb
      have HB2 := Lib.hid hb2
      have hds := Mode.dash_succ m 8 (by omega)
      have HD := Lib.hid hds
      clear hb hb2 hds
      by_cases hbt : m >>> 0 % 2 = 0
      · have hz : (bits .and .i64 (m : Int) 1 == 0) = true := by have e := bit_zero (k := 0) hm hbt; rw [Nat.pow_zero, Nat.div_one] at e; exact e
        have HT := Lib.hid hbt
        clear hbt
        go_wp2_with fail
        go_roundg 1
        case measure => omega
        case rel => exact ⟨9, by go_num, by omega, by omega, by rw [HD.out, if_pos HT.out]; exact HB2.out, hbl.setCell (p := ⟨B, 8, none⟩) (Nat.le_refl _) _⟩
      · have hz : (bits .and .i64 (m : Int) 1 == 0) = false := by have e := bit_one (k := 0) hm hbt; rw [Nat.pow_zero, Nat.div_one] at e; exact e
        have HT := Lib.hid hbt
        clear hbt
        go_wp2_with fail
        go_roundg 1
        case measure => omega
        case rel => exact ⟨9, by go_num, by omega, by omega, by rw [HD.out, if_neg HT.out]; exact HB.out, hbl⟩
    · have hb3 : Bytes wr B (Mode.specI m 0) := hb
      clear hb
      go_wp2_with fail
      go_loopg [24] 4 (fun g iv wr => ∃ (i : Nat), iv = .int .i64 i ∧ i ≤ 3 ∧ g + i = 4 ∧ Bytes wr B (Mode.specI m i) ∧ Below B w wr)
      case atStart => exact ⟨0, rfl, by omega, by omega, hb3, hbl⟩
      case round =>
        clear hb3 hbl
        obtain ⟨i, rfl, hi, hg, hb, hbl⟩ := hrel
        have h9 : i = 0 ∨ i = 1 ∨ i = 2 ∨ i = 3 := by omega
        rcases h9 with rfl | rfl | rfl | rfl
        · have hlen := Mode.specI_len m 0
          have f0 := hb.frozen (j := 2) (by omega)
          have c0 := hb.cell (j := 2) (by omega)
          obtain ⟨x, hx⟩ : ∃ x, (Mode.specI m 0)[2]'(by omega) = x := ⟨_, rfl⟩
          rw [hx] at c0
          have hget : (Mode.specI m 0).getD 2 0 = x := by rw [List.getD_eq_getElem?_getD, List.getElem?_eq_getElem (by omega), hx]; rfl
          have hb2 := hb.set_ 2 (if x = 45 then 83 else 115)
          have hsp : Mode.specI m 1 = if m >>> 11 % 2 = 0 then Mode.specI m 0 else (Mode.specI m 0).set 2 (if x = 45 then 83 else 115) := by
            rw [← hget]; rfl
          have q2 : ((⟨#[115, 115, 116]⟩ : ByteArray)[0].toNat : Int) = 115 := rfl
          have HB := Lib.hid hb
          have HB2 := Lib.hid hb2
          have HD := Lib.hid hsp
          clear hb hb2 hsp hget hx hlen
          by_cases hbt : m >>> 11 % 2 = 0
          · have hz : (bits .and .i64 ((m : Int) / 2048) 1 == 0) = true := bit_zero (k := 11) hm hbt
            have HT := Lib.hid hbt
            clear hbt
            go_wp2_with fail
            go_roundg 3
            case measure => omega
            case rel => exact ⟨1, by go_num, by omega, by omega, by rw [HD.out, if_pos HT.out]; exact HB.out, hbl⟩
          · have hz : (bits .and .i64 ((m : Int) / 2048) 1 == 0) = false := bit_one (k := 11) hm hbt
            have HT := Lib.hid hbt
            clear hbt
            by_cases hx : x = 45
            · have hx1 : ((x.toNat : Int) == 45) = true := u8_eq (d := 45) hx
              have HX := Lib.hid hx
              clear hx
              go_wp2_with fail
              go_roundg 3
              case measure => omega
              case rel => exact ⟨1, by go_num, by omega, by omega, by have h := HB2.out; rw [if_pos HX.out] at h; rw [HD.out, if_neg HT.out, if_pos HX.out]; exact h, hbl.setCell (p := ⟨B, 2, none⟩) (Nat.le_refl _) _⟩
            · have hx1 : ((x.toNat : Int) == 45) = false := u8_ne (d := 45) hx
              have HX : Hid (x ≠ 45) := hx
              clear hx
              go_wp2_with fail
              go_roundg 3
              case measure => omega
              case rel => exact ⟨1, by go_num, by omega, by omega, by have h := HB2.out; rw [if_neg HX.out] at h; rw [HD.out, if_neg HT.out, if_neg HX.out]; exact h, hbl.setCell (p := ⟨B, 2, none⟩) (Nat.le_refl _) _⟩
        · have hlen := Mode.specI_len m 1
          have f0 := hb.frozen (j := 5) (by omega)
          have c0 := hb.cell (j := 5) (by omega)
          obtain ⟨x, hx⟩ : ∃ x, (Mode.specI m 1)[5]'(by omega) = x := ⟨_, rfl⟩
          rw [hx] at c0
          have hget : (Mode.specI m 1).getD 5 0 = x := by rw [List.getD_eq_getElem?_getD, List.getElem?_eq_getElem (by omega), hx]; rfl
          have hb2 := hb.set_ 5 (if x = 45 then 83 else 115)
          have hsp : Mode.specI m 2 = if m >>> 10 % 2 = 0 then Mode.specI m 1 else (Mode.specI m 1).set 5 (if x = 45 then 83 else 115) := by
            rw [← hget]; rfl
          have q2 : ((⟨#[115, 115, 116]⟩ : ByteArray)[1].toNat : Int) = 115 := rfl
          have HB := Lib.hid hb
          have HB2 := Lib.hid hb2
          have HD := Lib.hid hsp
          clear hb hb2 hsp hget hx hlen
          by_cases hbt : m >>> 10 % 2 = 0
          · have hz : (bits .and .i64 ((m : Int) / 1024) 1 == 0) = true := bit_zero (k := 10) hm hbt
            have HT := Lib.hid hbt
            clear hbt
            go_wp2_with fail
            go_roundg 2
            case measure => omega
            case rel => exact ⟨2, by go_num, by omega, by omega, by rw [HD.out, if_pos HT.out]; exact HB.out, hbl⟩
          · have hz : (bits .and .i64 ((m : Int) / 1024) 1 == 0) = false := bit_one (k := 10) hm hbt
            have HT := Lib.hid hbt
            clear hbt
            by_cases hx : x = 45
            · have hx1 : ((x.toNat : Int) == 45) = true := u8_eq (d := 45) hx
              have HX := Lib.hid hx
              clear hx
              go_wp2_with fail
              go_roundg 2
              case measure => omega
              case rel => exact ⟨2, by go_num, by omega, by omega, by have h := HB2.out; rw [if_pos HX.out] at h; rw [HD.out, if_neg HT.out, if_pos HX.out]; exact h, hbl.setCell (p := ⟨B, 5, none⟩) (Nat.le_refl _) _⟩
            · have hx1 : ((x.toNat : Int) == 45) = false := u8_ne (d := 45) hx
              have HX : Hid (x ≠ 45) := hx
              clear hx
              go_wp2_with fail
              go_roundg 2
              case measure => omega
              case rel => exact ⟨2, by go_num, by omega, by omega, by have h := HB2.out; rw [if_neg HX.out] at h; rw [HD.out, if_neg HT.out, if_neg HX.out]; exact h, hbl.setCell (p := ⟨B, 5, none⟩) (Nat.le_refl _) _⟩
        · have hlen := Mode.specI_len m 2
          have f0 := hb.frozen (j := 8) (by omega)
          have c0 := hb.cell (j := 8) (by omega)
          obtain ⟨x, hx⟩ : ∃ x, (Mode.specI m 2)[8]'(by omega) = x := ⟨_, rfl⟩
          rw [hx] at c0
          have hget : (Mode.specI m 2).getD 8 0 = x := by rw [List.getD_eq_getElem?_getD, List.getElem?_eq_getElem (by omega), hx]; rfl
          have hb2 := hb.set_ 8 (if x = 45 then 84 else 116)
          have hsp : Mode.specI m 3 = if m >>> 9 % 2 = 0 then Mode.specI m 2 else (Mode.specI m 2).set 8 (if x = 45 then 84 else 116) := by
            rw [← hget]; rfl
          have q2 : ((⟨#[115, 115, 116]⟩ : ByteArray)[2].toNat : Int) = 116 := rfl
          have HB := Lib.hid hb
          have HB2 := Lib.hid hb2
          have HD := Lib.hid hsp
          clear hb hb2 hsp hget hx hlen
          by_cases hbt : m >>> 9 % 2 = 0
          · have hz : (bits .and .i64 ((m : Int) / 512) 1 == 0) = true := bit_zero (k := 9) hm hbt
            have HT := Lib.hid hbt
            clear hbt
            go_wp2_with fail
            go_roundg 1
            case measure => omega
            case rel => exact ⟨3, by go_num, by omega, by omega, by rw [HD.out, if_pos HT.out]; exact HB.out, hbl⟩
          · have hz : (bits .and .i64 ((m : Int) / 512) 1 == 0) = false := bit_one (k := 9) hm hbt
            have HT := Lib.hid hbt
            clear hbt
            by_cases hx : x = 45
            · have hx1 : ((x.toNat : Int) == 45) = true := u8_eq (d := 45) hx
              have HX := Lib.hid hx
              clear hx
              go_wp2_with fail
              go_roundg 1
              case measure => omega
              case rel => exact ⟨3, by go_num, by omega, by omega, by have h := HB2.out; rw [if_pos HX.out] at h; rw [HD.out, if_neg HT.out, if_pos HX.out]; exact h, hbl.setCell (p := ⟨B, 8, none⟩) (Nat.le_refl _) _⟩
            · have hx1 : ((x.toNat : Int) == 45) = false := u8_ne (d := 45) hx
              have HX : Hid (x ≠ 45) := hx
              clear hx
              go_wp2_with fail
              go_roundg 1
              case measure => omega
              case rel => exact ⟨3, by go_num, by omega, by omega, by have h := HB2.out; rw [if_neg HX.out] at h; rw [HD.out, if_neg HT.out, if_neg HX.out]; exact h, hbl.setCell (p := ⟨B, 8, none⟩) (Nat.le_refl _) _⟩
        · have hcv := hb.text (P := Tryd.prog) Tryd.underlying39 Tryd.underlying5 Tryd.underlying9 9 9 (Mode.specI_len m 3)
          clear hb
          go_wp2_with fail
          go_ret
          rw [hB]
          exact ⟨rfl, hbl⟩

end Go.Proofs.YthaggmdfjmelgaaDoor
