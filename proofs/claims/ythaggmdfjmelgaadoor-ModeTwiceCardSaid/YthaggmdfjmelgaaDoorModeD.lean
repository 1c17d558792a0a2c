/-
  mode.Change at any text; mode.Text; mode.Parse.
-/
import Derived.Test.YthaggmdfjmelgaaDoorModeC
import Derived.Test.YthaggmdfjmelgaaDoorBytes
namespace Go.Proofs.YthaggmdfjmelgaaDoor
open Go.RowKit

set_option maxRecDepth 100000 in
set_option maxHeartbeats 4000000 in
theorem change_oct (m : BitVec 12) (s : ByteArray) (dir : Bool) (n : Nat) (ho : ∀ w, Calls Tryd.prog 16 #[.string s] w fun e w' => e = .returned (.tuple #[.int .i64 (n : Int), .bool true]) ∧ w' = w) (w : World) :
    Calls Tryd.prog 11 #[.int .i64 m.toNat, .string s, .bool dir] w fun e w' => e = .returned (if 4095 < n then .tuple #[.int .i64 0, eRange] else .tuple #[.int .i64 n, .nilIface]) ∧ Below w.heap.size w w' := by
  have e1 : decide ((m.toNat : Int) < 0) = false := decide_eq_false (by omega)
  have e2 : decide (4095 < (m.toNat : Int)) = false := decide_eq_false (by have := w_hi m; omega)
  have OC := Lib.hid ho
  clear ho
  by_cases hn : 4095 < n
  · rw [if_pos hn]
    have hn2 : (4095 : Int) < n := by omega
    go_enter Tryd.func11, Tryd.ntmps11
    go_wp2_with (go_at_call 16; refine (OC.out _).mono ?_; rintro e w' ⟨rfl, rfl⟩)
    refine bodyPost_ret (v := .tuple #[.int .i64 0, eRange]) (by simp [results, Tryd.f11, go_sem, eRange]) rfl ⟨rfl, ?_⟩
    exact ((((Below.refl _ _).alloc (Nat.le_refl _) _).alloc (by simp) _).alloc (by simp; omega) _).alloc (by simp; omega) _
  · rw [if_neg hn]
    have hn2 : ¬ (4095 : Int) < n := by omega
    go_enter Tryd.func11, Tryd.ntmps11
    go_wp2_with (go_at_call 16; refine (OC.out _).mono ?_; rintro e w' ⟨rfl, rfl⟩)
    refine bodyPost_ret (v := .tuple #[.int .i64 n, .nilIface]) (by simp [results, Tryd.f11, go_sem]) rfl ⟨rfl, ?_⟩
    exact ((((Below.refl _ _).alloc (Nat.le_refl _) _).alloc (by simp) _).alloc (by simp; omega) _).alloc (by simp; omega) _

/-- **mode.Change.** -/
theorem change_any (m : BitVec 12) (s : ByteArray) (dir : Bool) (hs : s.size < 1000) (w : World) :
    Calls Tryd.prog 11 #[.int .i64 m.toNat, .string s, .bool dir] w fun e w' => e = .returned (chV (Mode.change m s.data.toList dir)) ∧ Below w.heap.size w w' := by
  unfold Mode.change
  cases ho : Mode.octL s.data.toList with
  | none => exact change_parts m s dir hs ho w
  | some n =>
    have h0 : 0 < s.size := by
      rcases Nat.eq_zero_or_pos s.size with h | h
      · have h1 : s.data.toList = [] := List.eq_nil_of_length_eq_zero (by rw [list_size]; exact h)
        rw [h1] at ho; cases ho
      · exact h
    refine (change_oct m s dir n (fun w => ?_) w).mono ?_
    · have := oct_any s h0 hs w
      rw [ho] at this
      exact this
    · rintro e w' ⟨rfl, hb⟩
      refine ⟨?_, hb⟩
      dsimp only
      by_cases hn : 4095 < n
      · rw [if_pos hn, if_pos hn]; rfl
      · rw [if_neg hn, if_neg hn]
        simp only [chV, BitVec.toNat_ofNat]
        rw [Nat.mod_eq_of_lt (by omega)]

/-- What Parse hands back. -/
def parV : Option Nat → Value
  | some n => .tuple #[.int .i64 (n : Int), .nilIface]
  | none => .tuple #[.int .i64 0, eForm]

set_option maxRecDepth 100000 in
theorem parse_short (s : ByteArray) (hs : ¬ s.size = 9) (w : World) : Calls Tryd.prog 9 #[.string s] w fun e w' => e = .returned (parV (Mode.parse s.data.toList)) ∧ w' = w := by
  have hz : Mode.parse s.data.toList = none := by unfold Mode.parse; rw [if_neg (by rw [list_size]; exact hs)]
  rw [hz]
  have hs2 : ((s.size : Int) == 9) = false := by rw [beq_eq_false_iff_ne]; omega
  have hs3 : ((s.size : Int) != 9) = true := by rw [bne, hs2]; rfl
  go_enter Tryd.func9, Tryd.ntmps9
  go_wp2_with fail
  go_ret2
  exact ⟨rfl, rfl⟩

set_option maxRecDepth 100000 in
set_option maxHeartbeats 8000000 in
theorem parse_full (s : ByteArray) (hs : s.size = 9) (w : World) : Calls Tryd.prog 9 #[.string s] w fun e w' => e = .returned (parV (Mode.parse s.data.toList)) ∧ w' = w := by
  obtain ⟨r, hr⟩ : ∃ r, Mode.parse s.data.toList = r := ⟨_, rfl⟩
  rw [hr]
  have hr0 : Hid (Mode.parseGo 0 (0#12).toNat (s.data.toList.drop 0) = r) := by rw [← hr, Mode.parse, if_pos (by rw [list_size]; exact hs)]; rfl
  clear hr
  have HS := Lib.hid hs
  have hs2 : (s.size : Int) = 9 := by omega
  clear hs
  go_enter Tryd.func9, Tryd.ntmps9
  go_wp2_with fail
  go_loopg [4, 16] 10 (fun g mv iv wr => ∃ (i : Nat) (v : BitVec 12), iv = .int .i64 i ∧ mv = .int .i64 v.toNat ∧ i ≤ 9 ∧ g + i = 10 ∧ Hid (Mode.parseGo i v.toNat (s.data.toList.drop i) = r) ∧ wr = w)
  case atStart => exact ⟨0, 0#12, rfl, rfl, by omega, by omega, hr0, rfl⟩
  case round =>
    obtain ⟨i, v, rfl, rfl, hi, hg, hR, rfl⟩ := hrel
    have h9 : i = 0 ∨ i = 1 ∨ i = 2 ∨ i = 3 ∨ i = 4 ∨ i = 5 ∨ i = 6 ∨ i = 7 ∨ i = 8 ∨ i = 9 := by omega
    rcases h9 with rfl | rfl | rfl | rfl | rfl | rfl | rfl | rfl | rfl | rfl
    · have hd := drop_at s 0 (by have := HS.out; omega)
      have q1 : ((⟨#[114, 119, 120, 114, 119, 120, 114, 119, 120]⟩ : ByteArray)[0].toNat : Int) = 114 := rfl
      have q2 : ((⟨#[115, 115, 116]⟩ : ByteArray)[0].toNat : Int) = 115 := rfl
      have hR2 := hR.out
      rw [hd] at hR2
      clear hR hd
      by_cases h0 : s[0] = 45
      · have e0 : ((s[0].toNat : Int) == 45) = true := u8_eq (d := 45) h0
        rw [h0] at hR2
        have HR : Hid (Mode.parseGo 1 (v ||| 0#12).toNat (s.data.toList.drop 1) = r) := hR2
        clear hR2 h0
        go_wp2_with fail
        go_roundg 9
        case measure => omega
        case rel => exact ⟨1, v, by go_num, rfl, by omega, by omega, by have := HR; rw [BitVec.or_zero] at this; exact this, rfl⟩
      by_cases h1 : s[0] = 114
      · have e0 : ((s[0].toNat : Int) == 45) = false := u8_ne (d := 45) h0
        have e1 : ((s[0].toNat : Int) == 114) = true := u8_eq (d := 114) h1
        rw [h1] at hR2
        have HR : Hid (Mode.parseGo 1 (v ||| 256#12).toNat (s.data.toList.drop 1) = r) := hR2
        clear hR2 h0 h1
        go_wp2_with fail
        go_roundg 9
        case measure => omega
        case rel => exact ⟨1, v ||| 256#12, by go_num, congrArg (Value.int .i64) (bits_or v 256#12), by omega, by omega, HR, rfl⟩
      have hz : r = none := by rw [← hR2, Mode.parseGo, show Mode.letterM 0 s[0] = none by simp [Mode.letterM, h0, h1]]
      subst hz
      have e0 : ((s[0].toNat : Int) == 45) = false := u8_ne (d := 45) h0
      have e1 : ((s[0].toNat : Int) == 114) = false := u8_ne (d := 114) h1
      clear hR2 h0 h1
      go_wp2_with fail
      go_ret2
      exact ⟨rfl, rfl⟩
    · have hd := drop_at s 1 (by have := HS.out; omega)
      have q1 : ((⟨#[114, 119, 120, 114, 119, 120, 114, 119, 120]⟩ : ByteArray)[1].toNat : Int) = 119 := rfl
      have q2 : ((⟨#[115, 115, 116]⟩ : ByteArray)[0].toNat : Int) = 115 := rfl
      have hR2 := hR.out
      rw [hd] at hR2
      clear hR hd
      by_cases h0 : s[1] = 45
      · have e0 : ((s[1].toNat : Int) == 45) = true := u8_eq (d := 45) h0
        rw [h0] at hR2
        have HR : Hid (Mode.parseGo 2 (v ||| 0#12).toNat (s.data.toList.drop 2) = r) := hR2
        clear hR2 h0
        go_wp2_with fail
        go_roundg 8
        case measure => omega
        case rel => exact ⟨2, v, by go_num, rfl, by omega, by omega, by have := HR; rw [BitVec.or_zero] at this; exact this, rfl⟩
      by_cases h1 : s[1] = 119
      · have e0 : ((s[1].toNat : Int) == 45) = false := u8_ne (d := 45) h0
        have e1 : ((s[1].toNat : Int) == 119) = true := u8_eq (d := 119) h1
        rw [h1] at hR2
        have HR : Hid (Mode.parseGo 2 (v ||| 128#12).toNat (s.data.toList.drop 2) = r) := hR2
        clear hR2 h0 h1
        go_wp2_with fail
        go_roundg 8
        case measure => omega
        case rel => exact ⟨2, v ||| 128#12, by go_num, congrArg (Value.int .i64) (bits_or v 128#12), by omega, by omega, HR, rfl⟩
      have hz : r = none := by rw [← hR2, Mode.parseGo, show Mode.letterM 1 s[1] = none by simp [Mode.letterM, h0, h1]]
      subst hz
      have e0 : ((s[1].toNat : Int) == 45) = false := u8_ne (d := 45) h0
      have e1 : ((s[1].toNat : Int) == 119) = false := u8_ne (d := 119) h1
      clear hR2 h0 h1
      go_wp2_with fail
      go_ret2
      exact ⟨rfl, rfl⟩
    · have hd := drop_at s 2 (by have := HS.out; omega)
      have q1 : ((⟨#[114, 119, 120, 114, 119, 120, 114, 119, 120]⟩ : ByteArray)[2].toNat : Int) = 120 := rfl
      have q2 : ((⟨#[115, 115, 116]⟩ : ByteArray)[0].toNat : Int) = 115 := rfl
      have q3 : bits .or .i64 64 2048 = 2112 := by decide
      have hR2 := hR.out
      rw [hd] at hR2
      clear hR hd
      by_cases h0 : s[2] = 45
      · have e0 : ((s[2].toNat : Int) == 45) = true := u8_eq (d := 45) h0
        rw [h0] at hR2
        have HR : Hid (Mode.parseGo 3 (v ||| 0#12).toNat (s.data.toList.drop 3) = r) := hR2
        clear hR2 h0
        go_wp2_with fail
        go_roundg 7
        case measure => omega
        case rel => exact ⟨3, v, by go_num, rfl, by omega, by omega, by have := HR; rw [BitVec.or_zero] at this; exact this, rfl⟩
      by_cases h1 : s[2] = 120
      · have e0 : ((s[2].toNat : Int) == 45) = false := u8_ne (d := 45) h0
        have e1 : ((s[2].toNat : Int) == 120) = true := u8_eq (d := 120) h1
        rw [h1] at hR2
        have HR : Hid (Mode.parseGo 3 (v ||| 64#12).toNat (s.data.toList.drop 3) = r) := hR2
        clear hR2 h0 h1
        go_wp2_with fail
        go_roundg 7
        case measure => omega
        case rel => exact ⟨3, v ||| 64#12, by go_num, congrArg (Value.int .i64) (bits_or v 64#12), by omega, by omega, HR, rfl⟩
      by_cases h2 : s[2] = 115
      · have e0 : ((s[2].toNat : Int) == 45) = false := u8_ne (d := 45) h0
        have e1 : ((s[2].toNat : Int) == 120) = false := u8_ne (d := 120) h1
        have e2 : ((s[2].toNat : Int) == 115) = true := u8_eq (d := 115) h2
        rw [h2] at hR2
        have HR : Hid (Mode.parseGo 3 (v ||| 2112#12).toNat (s.data.toList.drop 3) = r) := hR2
        clear hR2 h0 h1 h2
        go_wp2_with fail
        go_roundg 7
        case measure => omega
        case rel => exact ⟨3, v ||| 2112#12, by go_num, congrArg (Value.int .i64) (bits_or v 2112#12), by omega, by omega, HR, rfl⟩
      by_cases h3 : s[2] = 83
      · have e0 : ((s[2].toNat : Int) == 45) = false := u8_ne (d := 45) h0
        have e1 : ((s[2].toNat : Int) == 120) = false := u8_ne (d := 120) h1
        have e2 : ((s[2].toNat : Int) == 115) = false := u8_ne (d := 115) h2
        have e3 : ((s[2].toNat : Int) == 83) = true := u8_eq (d := 83) h3
        rw [h3] at hR2
        have HR : Hid (Mode.parseGo 3 (v ||| 2048#12).toNat (s.data.toList.drop 3) = r) := hR2
        clear hR2 h0 h1 h2 h3
        go_wp2_with fail
        go_roundg 7
        case measure => omega
        case rel => exact ⟨3, v ||| 2048#12, by go_num, congrArg (Value.int .i64) (bits_or v 2048#12), by omega, by omega, HR, rfl⟩
      have hz : r = none := by rw [← hR2, Mode.parseGo, show Mode.letterM 2 s[2] = none by simp [Mode.letterM, h0, h1, h2, h3]]
      subst hz
      have e0 : ((s[2].toNat : Int) == 45) = false := u8_ne (d := 45) h0
      have e1 : ((s[2].toNat : Int) == 120) = false := u8_ne (d := 120) h1
      have e2 : ((s[2].toNat : Int) == 115) = false := u8_ne (d := 115) h2
      have e3 : ((s[2].toNat : Int) == 83) = false := u8_ne (d := 83) h3
      clear hR2 h0 h1 h2 h3
      go_wp2_with fail
      go_ret2
      exact ⟨rfl, rfl⟩
    · have hd := drop_at s 3 (by have := HS.out; omega)
      have q1 : ((⟨#[114, 119, 120, 114, 119, 120, 114, 119, 120]⟩ : ByteArray)[3].toNat : Int) = 114 := rfl
      have q2 : ((⟨#[115, 115, 116]⟩ : ByteArray)[1].toNat : Int) = 115 := rfl
      have hR2 := hR.out
      rw [hd] at hR2
      clear hR hd
      by_cases h0 : s[3] = 45
      · have e0 : ((s[3].toNat : Int) == 45) = true := u8_eq (d := 45) h0
        rw [h0] at hR2
        have HR : Hid (Mode.parseGo 4 (v ||| 0#12).toNat (s.data.toList.drop 4) = r) := hR2
        clear hR2 h0
        go_wp2_with fail
        go_roundg 6
        case measure => omega
        case rel => exact ⟨4, v, by go_num, rfl, by omega, by omega, by have := HR; rw [BitVec.or_zero] at this; exact this, rfl⟩
      by_cases h1 : s[3] = 114
      · have e0 : ((s[3].toNat : Int) == 45) = false := u8_ne (d := 45) h0
        have e1 : ((s[3].toNat : Int) == 114) = true := u8_eq (d := 114) h1
        rw [h1] at hR2
        have HR : Hid (Mode.parseGo 4 (v ||| 32#12).toNat (s.data.toList.drop 4) = r) := hR2
        clear hR2 h0 h1
        go_wp2_with fail
        go_roundg 6
        case measure => omega
        case rel => exact ⟨4, v ||| 32#12, by go_num, congrArg (Value.int .i64) (bits_or v 32#12), by omega, by omega, HR, rfl⟩
      have hz : r = none := by rw [← hR2, Mode.parseGo, show Mode.letterM 3 s[3] = none by simp [Mode.letterM, h0, h1]]
      subst hz
      have e0 : ((s[3].toNat : Int) == 45) = false := u8_ne (d := 45) h0
      have e1 : ((s[3].toNat : Int) == 114) = false := u8_ne (d := 114) h1
      clear hR2 h0 h1
      go_wp2_with fail
      go_ret2
      exact ⟨rfl, rfl⟩
    · have hd := drop_at s 4 (by have := HS.out; omega)
      have q1 : ((⟨#[114, 119, 120, 114, 119, 120, 114, 119, 120]⟩ : ByteArray)[4].toNat : Int) = 119 := rfl
      have q2 : ((⟨#[115, 115, 116]⟩ : ByteArray)[1].toNat : Int) = 115 := rfl
      have hR2 := hR.out
      rw [hd] at hR2
      clear hR hd
      by_cases h0 : s[4] = 45
      · have e0 : ((s[4].toNat : Int) == 45) = true := u8_eq (d := 45) h0
        rw [h0] at hR2
        have HR : Hid (Mode.parseGo 5 (v ||| 0#12).toNat (s.data.toList.drop 5) = r) := hR2
        clear hR2 h0
        go_wp2_with fail
        go_roundg 5
        case measure => omega
        case rel => exact ⟨5, v, by go_num, rfl, by omega, by omega, by have := HR; rw [BitVec.or_zero] at this; exact this, rfl⟩
      by_cases h1 : s[4] = 119
      · have e0 : ((s[4].toNat : Int) == 45) = false := u8_ne (d := 45) h0
        have e1 : ((s[4].toNat : Int) == 119) = true := u8_eq (d := 119) h1
        rw [h1] at hR2
        have HR : Hid (Mode.parseGo 5 (v ||| 16#12).toNat (s.data.toList.drop 5) = r) := hR2
        clear hR2 h0 h1
        go_wp2_with fail
        go_roundg 5
        case measure => omega
        case rel => exact ⟨5, v ||| 16#12, by go_num, congrArg (Value.int .i64) (bits_or v 16#12), by omega, by omega, HR, rfl⟩
      have hz : r = none := by rw [← hR2, Mode.parseGo, show Mode.letterM 4 s[4] = none by simp [Mode.letterM, h0, h1]]
      subst hz
      have e0 : ((s[4].toNat : Int) == 45) = false := u8_ne (d := 45) h0
      have e1 : ((s[4].toNat : Int) == 119) = false := u8_ne (d := 119) h1
      clear hR2 h0 h1
      go_wp2_with fail
      go_ret2
      exact ⟨rfl, rfl⟩
    · have hd := drop_at s 5 (by have := HS.out; omega)
      have q1 : ((⟨#[114, 119, 120, 114, 119, 120, 114, 119, 120]⟩ : ByteArray)[5].toNat : Int) = 120 := rfl
      have q2 : ((⟨#[115, 115, 116]⟩ : ByteArray)[1].toNat : Int) = 115 := rfl
      have q3 : bits .or .i64 8 1024 = 1032 := by decide
      have hR2 := hR.out
      rw [hd] at hR2
      clear hR hd
      by_cases h0 : s[5] = 45
      · have e0 : ((s[5].toNat : Int) == 45) = true := u8_eq (d := 45) h0
        rw [h0] at hR2
        have HR : Hid (Mode.parseGo 6 (v ||| 0#12).toNat (s.data.toList.drop 6) = r) := hR2
        clear hR2 h0
        go_wp2_with fail
        go_roundg 4
        case measure => omega
        case rel => exact ⟨6, v, by go_num, rfl, by omega, by omega, by have := HR; rw [BitVec.or_zero] at this; exact this, rfl⟩
      by_cases h1 : s[5] = 120
      · have e0 : ((s[5].toNat : Int) == 45) = false := u8_ne (d := 45) h0
        have e1 : ((s[5].toNat : Int) == 120) = true := u8_eq (d := 120) h1
        rw [h1] at hR2
        have HR : Hid (Mode.parseGo 6 (v ||| 8#12).toNat (s.data.toList.drop 6) = r) := hR2
        clear hR2 h0 h1
        go_wp2_with fail
        go_roundg 4
        case measure => omega
        case rel => exact ⟨6, v ||| 8#12, by go_num, congrArg (Value.int .i64) (bits_or v 8#12), by omega, by omega, HR, rfl⟩
      by_cases h2 : s[5] = 115
      · have e0 : ((s[5].toNat : Int) == 45) = false := u8_ne (d := 45) h0
        have e1 : ((s[5].toNat : Int) == 120) = false := u8_ne (d := 120) h1
        have e2 : ((s[5].toNat : Int) == 115) = true := u8_eq (d := 115) h2
        rw [h2] at hR2
        have HR : Hid (Mode.parseGo 6 (v ||| 1032#12).toNat (s.data.toList.drop 6) = r) := hR2
        clear hR2 h0 h1 h2
        go_wp2_with fail
        go_roundg 4
        case measure => omega
        case rel => exact ⟨6, v ||| 1032#12, by go_num, congrArg (Value.int .i64) (bits_or v 1032#12), by omega, by omega, HR, rfl⟩
      by_cases h3 : s[5] = 83
      · have e0 : ((s[5].toNat : Int) == 45) = false := u8_ne (d := 45) h0
        have e1 : ((s[5].toNat : Int) == 120) = false := u8_ne (d := 120) h1
        have e2 : ((s[5].toNat : Int) == 115) = false := u8_ne (d := 115) h2
        have e3 : ((s[5].toNat : Int) == 83) = true := u8_eq (d := 83) h3
        rw [h3] at hR2
        have HR : Hid (Mode.parseGo 6 (v ||| 1024#12).toNat (s.data.toList.drop 6) = r) := hR2
        clear hR2 h0 h1 h2 h3
        go_wp2_with fail
        go_roundg 4
        case measure => omega
        case rel => exact ⟨6, v ||| 1024#12, by go_num, congrArg (Value.int .i64) (bits_or v 1024#12), by omega, by omega, HR, rfl⟩
      have hz : r = none := by rw [← hR2, Mode.parseGo, show Mode.letterM 5 s[5] = none by simp [Mode.letterM, h0, h1, h2, h3]]
      subst hz
      have e0 : ((s[5].toNat : Int) == 45) = false := u8_ne (d := 45) h0
      have e1 : ((s[5].toNat : Int) == 120) = false := u8_ne (d := 120) h1
      have e2 : ((s[5].toNat : Int) == 115) = false := u8_ne (d := 115) h2
      have e3 : ((s[5].toNat : Int) == 83) = false := u8_ne (d := 83) h3
      clear hR2 h0 h1 h2 h3
      go_wp2_with fail
      go_ret2
      exact ⟨rfl, rfl⟩
    · have hd := drop_at s 6 (by have := HS.out; omega)
      have q1 : ((⟨#[114, 119, 120, 114, 119, 120, 114, 119, 120]⟩ : ByteArray)[6].toNat : Int) = 114 := rfl
      have q2 : ((⟨#[115, 115, 116]⟩ : ByteArray)[2].toNat : Int) = 116 := rfl
      have hR2 := hR.out
      rw [hd] at hR2
      clear hR hd
      by_cases h0 : s[6] = 45
      · have e0 : ((s[6].toNat : Int) == 45) = true := u8_eq (d := 45) h0
        rw [h0] at hR2
        have HR : Hid (Mode.parseGo 7 (v ||| 0#12).toNat (s.data.toList.drop 7) = r) := hR2
        clear hR2 h0
        go_wp2_with fail
        go_roundg 3
        case measure => omega
        case rel => exact ⟨7, v, by go_num, rfl, by omega, by omega, by have := HR; rw [BitVec.or_zero] at this; exact this, rfl⟩
      by_cases h1 : s[6] = 114
      · have e0 : ((s[6].toNat : Int) == 45) = false := u8_ne (d := 45) h0
        have e1 : ((s[6].toNat : Int) == 114) = true := u8_eq (d := 114) h1
        rw [h1] at hR2
        have HR : Hid (Mode.parseGo 7 (v ||| 4#12).toNat (s.data.toList.drop 7) = r) := hR2
        clear hR2 h0 h1
        go_wp2_with fail
        go_roundg 3
        case measure => omega
        case rel => exact ⟨7, v ||| 4#12, by go_num, congrArg (Value.int .i64) (bits_or v 4#12), by omega, by omega, HR, rfl⟩
      have hz : r = none := by rw [← hR2, Mode.parseGo, show Mode.letterM 6 s[6] = none by simp [Mode.letterM, h0, h1]]
      subst hz
      have e0 : ((s[6].toNat : Int) == 45) = false := u8_ne (d := 45) h0
      have e1 : ((s[6].toNat : Int) == 114) = false := u8_ne (d := 114) h1
      clear hR2 h0 h1
      go_wp2_with fail
      go_ret2
      exact ⟨rfl, rfl⟩
    · have hd := drop_at s 7 (by have := HS.out; omega)
      have q1 : ((⟨#[114, 119, 120, 114, 119, 120, 114, 119, 120]⟩ : ByteArray)[7].toNat : Int) = 119 := rfl
      have q2 : ((⟨#[115, 115, 116]⟩ : ByteArray)[2].toNat : Int) = 116 := rfl
      have hR2 := hR.out
      rw [hd] at hR2
      clear hR hd
      by_cases h0 : s[7] = 45
      · have e0 : ((s[7].toNat : Int) == 45) = true := u8_eq (d := 45) h0
        rw [h0] at hR2
        have HR : Hid (Mode.parseGo 8 (v ||| 0#12).toNat (s.data.toList.drop 8) = r) := hR2
        clear hR2 h0
        go_wp2_with fail
        go_roundg 2
        case measure => omega
        case rel => exact ⟨8, v, by go_num, rfl, by omega, by omega, by have := HR; rw [BitVec.or_zero] at this; exact this, rfl⟩
      by_cases h1 : s[7] = 119
      · have e0 : ((s[7].toNat : Int) == 45) = false := u8_ne (d := 45) h0
        have e1 : ((s[7].toNat : Int) == 119) = true := u8_eq (d := 119) h1
        rw [h1] at hR2
        have HR : Hid (Mode.parseGo 8 (v ||| 2#12).toNat (s.data.toList.drop 8) = r) := hR2
        clear hR2 h0 h1
        go_wp2_with fail
        go_roundg 2
        case measure => omega
        case rel => exact ⟨8, v ||| 2#12, by go_num, congrArg (Value.int .i64) (bits_or v 2#12), by omega, by omega, HR, rfl⟩
      have hz : r = none := by rw [← hR2, Mode.parseGo, show Mode.letterM 7 s[7] = none by simp [Mode.letterM, h0, h1]]
      subst hz
      have e0 : ((s[7].toNat : Int) == 45) = false := u8_ne (d := 45) h0
      have e1 : ((s[7].toNat : Int) == 119) = false := u8_ne (d := 119) h1
      clear hR2 h0 h1
      go_wp2_with fail
      go_ret2
      exact ⟨rfl, rfl⟩
    · have hd := drop_at s 8 (by have := HS.out; omega)
      have q1 : ((⟨#[114, 119, 120, 114, 119, 120, 114, 119, 120]⟩ : ByteArray)[8].toNat : Int) = 120 := rfl
      have q2 : ((⟨#[115, 115, 116]⟩ : ByteArray)[2].toNat : Int) = 116 := rfl
      have q3 : bits .or .i64 1 512 = 513 := by decide
      have hR2 := hR.out
      rw [hd] at hR2
      clear hR hd
      by_cases h0 : s[8] = 45
      · have e0 : ((s[8].toNat : Int) == 45) = true := u8_eq (d := 45) h0
        rw [h0] at hR2
        have HR : Hid (Mode.parseGo 9 (v ||| 0#12).toNat (s.data.toList.drop 9) = r) := hR2
        clear hR2 h0
        go_wp2_with fail
        go_roundg 1
        case measure => omega
        case rel => exact ⟨9, v, by go_num, rfl, by omega, by omega, by have := HR; rw [BitVec.or_zero] at this; exact this, rfl⟩
      by_cases h1 : s[8] = 120
      · have e0 : ((s[8].toNat : Int) == 45) = false := u8_ne (d := 45) h0
        have e1 : ((s[8].toNat : Int) == 120) = true := u8_eq (d := 120) h1
        rw [h1] at hR2
        have HR : Hid (Mode.parseGo 9 (v ||| 1#12).toNat (s.data.toList.drop 9) = r) := hR2
        clear hR2 h0 h1
        go_wp2_with fail
        go_roundg 1
        case measure => omega
        case rel => exact ⟨9, v ||| 1#12, by go_num, congrArg (Value.int .i64) (bits_or v 1#12), by omega, by omega, HR, rfl⟩
      by_cases h2 : s[8] = 116
      · have e0 : ((s[8].toNat : Int) == 45) = false := u8_ne (d := 45) h0
        have e1 : ((s[8].toNat : Int) == 120) = false := u8_ne (d := 120) h1
        have e2 : ((s[8].toNat : Int) == 116) = true := u8_eq (d := 116) h2
        rw [h2] at hR2
        have HR : Hid (Mode.parseGo 9 (v ||| 513#12).toNat (s.data.toList.drop 9) = r) := hR2
        clear hR2 h0 h1 h2
        go_wp2_with fail
        go_roundg 1
        case measure => omega
        case rel => exact ⟨9, v ||| 513#12, by go_num, congrArg (Value.int .i64) (bits_or v 513#12), by omega, by omega, HR, rfl⟩
      by_cases h3 : s[8] = 84
      · have e0 : ((s[8].toNat : Int) == 45) = false := u8_ne (d := 45) h0
        have e1 : ((s[8].toNat : Int) == 120) = false := u8_ne (d := 120) h1
        have e2 : ((s[8].toNat : Int) == 116) = false := u8_ne (d := 116) h2
        have e3 : ((s[8].toNat : Int) == 84) = true := u8_eq (d := 84) h3
        rw [h3] at hR2
        have HR : Hid (Mode.parseGo 9 (v ||| 512#12).toNat (s.data.toList.drop 9) = r) := hR2
        clear hR2 h0 h1 h2 h3
        go_wp2_with fail
        go_roundg 1
        case measure => omega
        case rel => exact ⟨9, v ||| 512#12, by go_num, congrArg (Value.int .i64) (bits_or v 512#12), by omega, by omega, HR, rfl⟩
      have hz : r = none := by rw [← hR2, Mode.parseGo, show Mode.letterM 8 s[8] = none by simp [Mode.letterM, h0, h1, h2, h3]]
      subst hz
      have e0 : ((s[8].toNat : Int) == 45) = false := u8_ne (d := 45) h0
      have e1 : ((s[8].toNat : Int) == 120) = false := u8_ne (d := 120) h1
      have e2 : ((s[8].toNat : Int) == 116) = false := u8_ne (d := 116) h2
      have e3 : ((s[8].toNat : Int) == 84) = false := u8_ne (d := 84) h3
      clear hR2 h0 h1 h2 h3
      go_wp2_with fail
      go_ret2
      exact ⟨rfl, rfl⟩
    · have hz : r = some v.toNat := by rw [← hR.out, drop_over s 9 (by have := HS.out; omega)]; rfl
      subst hz
      clear hR
      go_wp2_with fail
      go_ret2
      exact ⟨rfl, rfl⟩

end Go.Proofs.YthaggmdfjmelgaaDoor
