/-
  block.Sum, where there is no strings.Repeat.
-/
import Derived.Test.YtdhnjbiigpiecaaDoorBkLaws
import Derived.Test.YtdhnjbiigpiecaaDoorNumN
import Derived.Test.YtdhnjbiigpiecaaDoorTxt
import Derived.Test.YtdhnjbiigpiecaaDoorNumD
import Derived.Deep.LoopGhost
namespace Go.Proofs.YtdhnjbiigpiecaaDoor
open Go.RowKit

theorem i8_wrap (c : UInt8) : IntKind.i8.wrap (c.toNat : Int) = Bk.i8 c := by
  have := c.toNat_lt
  have e : IntKind.i8.wrap (c.toNat : Int) = ((c.toNat : Int) + 128) % 256 - 128 := by
    simp [IntKind.wrap, IntKind.bits, IntKind.signed]; split <;> omega
  unfold Bk.i8
  rw [e]
  split <;> omega

theorem sum_step {r a : Int} {sg : Bool} {s : ByteArray} {i : Nat} (h : i < s.size) (hr : r = a + Bk.sumFrom sg i (s.data.toList.drop i)) : r = (a + Bk.val sg i s[i]) + Bk.sumFrom sg (i + 1) (s.data.toList.drop (i + 1)) := by
  rw [hr, drop_at s i h]
  simp only [Bk.sumFrom]
  omega

set_option maxHeartbeats 1000000 in
theorem sum_any (s : ByteArray) (sg : Bool) (w : World) (h1 : s.size ≤ 512) (h2 : 512 ≤ s.size) :
    Calls Tryd.prog 46 #[.string s, .bool sg] w fun e w' => e = .returned (.tuple #[.int .i64 (Bk.sum sg s.data.toList), .nilIface]) ∧ w' = w := by
  obtain ⟨r, hr⟩ : ∃ r, r = Bk.sum sg s.data.toList := ⟨_, rfl⟩
  rw [← hr]
  have Hr := Lib.hid hr
  clear hr
  have hn : ((s.size : Int) != 512) = false := by simp; omega
  cases sg
  all_goals
    go_enter Tryd.func46, Tryd.ntmps46
    go_wp2_with fail
  · go_loopg [6, 14] (s.size) (fun g sv iv wr => ∃ (i : Nat) (a : Int), iv = .int .i64 i ∧ sv = .int .i64 a ∧ i ≤ s.size ∧ g + i = s.size ∧ -255 * (i : Int) ≤ a ∧ a ≤ 255 * (i : Int) ∧ Hid (r = a + Bk.sumFrom false i (s.data.toList.drop i)) ∧ wr = w)
    case atStart => exact ⟨0, 0, rfl, rfl, by omega, by omega, by omega, by omega, by rw [Hr.out]; simp [Hid, Bk.sum], rfl⟩
    case round =>
      obtain ⟨i, a, rfl, rfl, hi1, hg, ha1, ha2, hR, rfl⟩ := hrel
      have Hg := Lib.hid hg
      clear hg
      by_cases hi : i < s.size
      · have hi3 : (i : Int) < s.size := by omega
        have hst := sum_step hi hR.out
        have hbyte := u8_lt s[i]
        by_cases hin : 148 ≤ i ∧ i < 156
        · have hv : Bk.val false i s[i] = 32 := by unfold Bk.val; rw [if_pos hin]
          rw [hv] at hst
          have HS := Lib.hid hst
          have k1 : (148 : Int) ≤ i := by omega
          have k2 : (i : Int) < 156 := by omega
          clear hst hv hin
          go_wp2_with fail
          go_roundg (s.size - (i + 1))
          case measure => have := Hg.out; omega
          case rel => exact ⟨i + 1, a + 32, by go_num, by go_num, by omega, by omega, by omega, by omega, HS.out, rfl⟩
        · have hv : Bk.val false i s[i] = s[i].toNat := by unfold Bk.val; rw [if_neg hin]; rfl
          rw [hv] at hst
          have HS := Lib.hid hst
          have Hin := Lib.hid hin
          clear hst hv hin
          by_cases k1 : (148 : Int) ≤ i
          · have k2 : ¬ (i : Int) < 156 := by have := Hin.out; omega
            go_wp2_with fail
            go_roundg (s.size - (i + 1))
            case measure => have := Hg.out; omega
            case rel => exact ⟨i + 1, a + s[i].toNat, by go_num, by go_num, by omega, by omega, by omega, by omega, HS.out, rfl⟩
          · go_wp2_with fail
            go_roundg (s.size - (i + 1))
            case measure => have := Hg.out; omega
            case rel => exact ⟨i + 1, a + s[i].toNat, by go_num, by go_num, by omega, by omega, by omega, by omega, HS.out, rfl⟩
      · have hi3 : (s.size : Int) ≤ i := by omega
        have hr : r = a := by rw [hR.out, drop_over s i (by omega)]; simp [Bk.sumFrom]
        have Hr := Lib.hid hr
        clear hr
        go_wp2_with fail
        go_ret2
        rw [Hr.out]
        exact ⟨rfl, rfl⟩
  · go_loopg [6, 14] (s.size) (fun g sv iv wr => ∃ (i : Nat) (a : Int), iv = .int .i64 i ∧ sv = .int .i64 a ∧ i ≤ s.size ∧ g + i = s.size ∧ -255 * (i : Int) ≤ a ∧ a ≤ 255 * (i : Int) ∧ Hid (r = a + Bk.sumFrom true i (s.data.toList.drop i)) ∧ wr = w)
    case atStart => exact ⟨0, 0, rfl, rfl, by omega, by omega, by omega, by omega, by rw [Hr.out]; simp [Hid, Bk.sum], rfl⟩
    case round =>
      obtain ⟨i, a, rfl, rfl, hi1, hg, ha1, ha2, hR, rfl⟩ := hrel
      have Hg := Lib.hid hg
      clear hg
      by_cases hi : i < s.size
      · have hi3 : (i : Int) < s.size := by omega
        have hst := sum_step hi hR.out
        have hbyte := u8_lt s[i]
        by_cases hin : 148 ≤ i ∧ i < 156
        · have hv : Bk.val true i s[i] = 32 := by unfold Bk.val; rw [if_pos hin]
          rw [hv] at hst
          have HS := Lib.hid hst
          have k1 : (148 : Int) ≤ i := by omega
          have k2 : (i : Int) < 156 := by omega
          clear hst hv hin
          go_wp2_with fail
          go_roundg (s.size - (i + 1))
          case measure => have := Hg.out; omega
          case rel => exact ⟨i + 1, a + 32, by go_num, by go_num, by omega, by omega, by omega, by omega, HS.out, rfl⟩
        · have hv : Bk.val true i s[i] = Bk.i8 s[i] := by unfold Bk.val; rw [if_neg hin]; rfl
          rw [hv] at hst
          have HS := Lib.hid hst
          have Hin := Lib.hid hin
          have hw := i8_wrap s[i]
          obtain ⟨v, hv2⟩ : ∃ v, v = Bk.i8 s[i] := ⟨_, rfl⟩
          have hv3 : -128 ≤ v ∧ v ≤ 127 := by rw [hv2]; unfold Bk.i8; have := s[i].toNat_lt; split <;> omega
          obtain ⟨hv4, hv5⟩ := hv3
          rw [← hv2] at hw HS
          clear hst hv hin hv2
          by_cases k1 : (148 : Int) ≤ i
          · have k2 : ¬ (i : Int) < 156 := by have := Hin.out; omega
            go_wp2_with fail
            go_roundg (s.size - (i + 1))
            case measure => have := Hg.out; omega
            case rel => exact ⟨i + 1, a + v, by go_num, by go_num, by omega, by omega, by omega, by omega, HS.out, rfl⟩
          · go_wp2_with fail
            go_roundg (s.size - (i + 1))
            case measure => have := Hg.out; omega
            case rel => exact ⟨i + 1, a + v, by go_num, by go_num, by omega, by omega, by omega, by omega, HS.out, rfl⟩
      · have hi3 : (s.size : Int) ≤ i := by omega
        have hr : r = a := by rw [hR.out, drop_over s i (by omega)]; simp [Bk.sumFrom]
        have Hr := Lib.hid hr
        clear hr
        go_wp2_with fail
        go_ret2
        rw [Hr.out]
        exact ⟨rfl, rfl⟩

end Go.Proofs.YtdhnjbiigpiecaaDoor
