/-
  number.wide.
-/
import Derived.Test.YtdhnjbiigpiecaaDoorNumA
import Derived.Laws.Bits128
import Derived.Laws.BitsAllLaws
namespace Go.Proofs.YtdhnjbiigpiecaaDoor
open Go.RowKit

theorem i64_or_byte (x y : Int) (hx : x % 256 = 0) (h0 : -9223372036854775808 ≤ x) (h1 : x ≤ 9223372036854775807) (h2 : 0 ≤ y) (h3 : y < 256) : bits .or .i64 x y = x + y := by
  show IntKind.i64.wrap ((BitVec.ofInt 64 x ||| BitVec.ofInt 64 y).toNat : Int) = _
  obtain ⟨b, rfl⟩ := Int.eq_ofNat_of_zero_le h2
  have ea : (BitVec.ofInt 64 x).toNat = 2 ^ 8 * ((x % 18446744073709551616).toNat / 256) := by
    rw [BitVec.toNat_ofInt]; omega
  have eb : (BitVec.ofInt 64 (b : Int)).toNat = b := by
    rw [BitVec.toNat_ofInt]; omega
  rw [BitVec.toNat_or, ea, eb, ← Nat.two_pow_add_eq_or_of_lt (by omega), IntKind.wrap_i64]
  omega

/-- number.wide's loop -/
def wideGo : List UInt8 → Int → Option Int
  | [], n => some n
  | c :: cs, n => if 36028797018963968 ≤ n ∨ n < -36028797018963968 then none else wideGo cs (n * 256 + c.toNat)
def wideAns : Option Int → Value
  | some n => .tuple #[.int .i64 n, .nilIface]
  | none => .tuple #[.int .i64 0, .iface 32 (.int .i64 2)]
def wide (l : List UInt8) : Option Int := match l with
  | [] => none
  | c :: cs => wideGo cs (if c.toNat = 255 then -1 else (c.toNat % 128 : Nat))

theorem drop_at (s : ByteArray) (k : Nat) (h : k < s.size) : s.data.toList.drop k = s[k] :: s.data.toList.drop (k + 1) := by
  have h' : k < s.data.toList.length := by simpa using h
  rw [List.drop_eq_getElem_cons h']; rfl
theorem drop_over (s : ByteArray) (k : Nat) (h : s.size ≤ k) : s.data.toList.drop k = [] := List.drop_of_length_le (by simpa using h)
theorem u8_and127 (c : UInt8) : bits .and .u8 (c.toNat : Int) 127 = ((c.toNat % 128 : Nat) : Int) := by
  rw [u8_and _ _ (by omega) (by have := c.toNat_lt; omega) (by decide) (by decide)]
  have : ((c.toNat : Int).toNat &&& (127 : Int).toNat) = c.toNat % 2 ^ 7 := by
    rw [show (127 : Int).toNat = 2 ^ 7 - 1 by decide, Nat.and_two_pow_sub_one_eq_mod]; rfl
  rw [this]

set_option maxHeartbeats 1000000 in
theorem wide_any (s : ByteArray) (h0 : 0 < s.size) (hs : s.size < 100) (w : World) :
    Calls Tryd.prog 58 #[.string s] w fun e w' => e = .returned (wideAns (wide s.data.toList)) ∧ w' = w := by
  have hc := u8_and127 s[0]
  have hlt := u8_nat_lt s[0]
  obtain ⟨r, hr⟩ : ∃ r, r = wide s.data.toList := ⟨_, rfl⟩
  rw [← hr]
  have hd := drop_at s 0 h0
  rw [List.drop_zero] at hd
  rw [hd] at hr
  clear hd
  have Hr := Lib.hid hr
  clear hr
  by_cases h255 : s[0] = 255
  · have hb : ((s[0].toNat : Int) == 255) = true := u8_eq (d := 255) h255
    go_enter Tryd.func58, Tryd.ntmps58
    go_wp2_with fail
    go_loopg [4, 5] (s.size) (fun g nv iv wr => ∃ (i : Nat) (n : Int), iv = .int .i64 i ∧ nv = .int .i64 n ∧ 1 ≤ i ∧ i ≤ s.size ∧ g + i = s.size + 1 ∧ Hid (r = wideGo (s.data.toList.drop i) n) ∧ wr = w)
    case atStart => exact ⟨1, _, rfl, rfl, by omega, by omega, by omega, by rw [Hr.out]; simp [wide, h255, Hid], rfl⟩
    case round =>
      obtain ⟨i, n, rfl, rfl, hi1, hi2, hg, hR, rfl⟩ := hrel
      have Hg := Lib.hid hg
      clear hg
      by_cases hi : i < s.size
      · have hi3 : (i : Int) < s.size := by omega
        have hbyte := u8_lt s[i]
        have hd := drop_at s i hi
        by_cases hbig : 36028797018963968 ≤ n
        · have hr : r = none := by rw [hR.out, hd, wideGo, if_pos (.inl hbig)]
          have Hr := Lib.hid hr
          clear hr hd
          go_wp2_with fail
          go_ret2
          rw [Hr.out]
          exact ⟨rfl, rfl⟩
        · by_cases hlow : n < -36028797018963968
          · have hr : r = none := by rw [hR.out, hd, wideGo, if_pos (.inr hlow)]
            have Hr := Lib.hid hr
            clear hr hd
            go_wp2_with fail
            go_ret2
            rw [Hr.out]
            exact ⟨rfl, rfl⟩
          · have hr : r = wideGo (s.data.toList.drop (i + 1)) (n * 256 + s[i].toNat) := by rw [hR.out, hd, wideGo, if_neg (by omega)]
            have Hr := Lib.hid hr
            have hor := i64_or_byte (n * 256) (s[i].toNat : Int) (by omega) (by omega) (by omega) (by omega) hbyte
            clear hr hd
            go_wp2_with fail
            go_roundg (s.size - i)
            case measure => have := Hg.out; omega
            case rel => exact ⟨i + 1, n * 256 + s[i].toNat, by go_num, by go_num, by omega, by omega, by omega, Hr.out, rfl⟩
      · have hr : r = some n := by rw [hR.out, drop_over s i (by omega), wideGo]
        have Hr := Lib.hid hr
        have hi3 : (s.size : Int) ≤ i := by omega
        clear hr
        go_wp2_with fail
        go_ret2
        rw [Hr.out]
        exact ⟨rfl, rfl⟩
  · have hb : ((s[0].toNat : Int) == 255) = false := u8_ne (d := 255) h255
    have h255n : ¬ s[0].toNat = 255 := fun h => h255 (UInt8.toNat_inj.1 h)
    go_enter Tryd.func58, Tryd.ntmps58
    go_wp2_with fail
    go_loopg [4, 5] (s.size) (fun g nv iv wr => ∃ (i : Nat) (n : Int), iv = .int .i64 i ∧ nv = .int .i64 n ∧ 1 ≤ i ∧ i ≤ s.size ∧ g + i = s.size + 1 ∧ Hid (r = wideGo (s.data.toList.drop i) n) ∧ wr = w)
    case atStart => exact ⟨1, _, rfl, rfl, by omega, by omega, by omega, by rw [Hr.out]; simp [wide, h255n, Hid], rfl⟩
    case round =>
      obtain ⟨i, n, rfl, rfl, hi1, hi2, hg, hR, rfl⟩ := hrel
      have Hg := Lib.hid hg
      clear hg
      by_cases hi : i < s.size
      · have hi3 : (i : Int) < s.size := by omega
        have hbyte := u8_lt s[i]
        have hd := drop_at s i hi
        by_cases hbig : 36028797018963968 ≤ n
        · have hr : r = none := by rw [hR.out, hd, wideGo, if_pos (.inl hbig)]
          have Hr := Lib.hid hr
          clear hr hd
          go_wp2_with fail
          go_ret2
          rw [Hr.out]
          exact ⟨rfl, rfl⟩
        · by_cases hlow : n < -36028797018963968
          · have hr : r = none := by rw [hR.out, hd, wideGo, if_pos (.inr hlow)]
            have Hr := Lib.hid hr
            clear hr hd
            go_wp2_with fail
            go_ret2
            rw [Hr.out]
            exact ⟨rfl, rfl⟩
          · have hr : r = wideGo (s.data.toList.drop (i + 1)) (n * 256 + s[i].toNat) := by rw [hR.out, hd, wideGo, if_neg (by omega)]
            have Hr := Lib.hid hr
            have hor := i64_or_byte (n * 256) (s[i].toNat : Int) (by omega) (by omega) (by omega) (by omega) hbyte
            clear hr hd
            go_wp2_with fail
            go_roundg (s.size - i)
            case measure => have := Hg.out; omega
            case rel => exact ⟨i + 1, n * 256 + s[i].toNat, by go_num, by go_num, by omega, by omega, by omega, Hr.out, rfl⟩
      · have hr : r = some n := by rw [hR.out, drop_over s i (by omega), wideGo]
        have Hr := Lib.hid hr
        have hi3 : (s.size : Int) ≤ i := by omega
        clear hr
        go_wp2_with fail
        go_ret2
        rw [Hr.out]
        exact ⟨rfl, rfl⟩

end Go.Proofs.YtdhnjbiigpiecaaDoor
