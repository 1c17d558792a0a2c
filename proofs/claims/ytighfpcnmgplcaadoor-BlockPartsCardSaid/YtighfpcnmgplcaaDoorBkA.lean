/-
  block.Pad, Fill, Sum, Seal, Right.
-/
import Derived.Test.YtighfpcnmgplcaaDoorBkLaws
import Derived.Test.YtighfpcnmgplcaaDoorNumN
import Derived.Test.YtighfpcnmgplcaaDoorRep
import Derived.Deep.LoopGhost
namespace Go.Proofs.YtighfpcnmgplcaaDoor
open Go.RowKit

theorem pad_any (n : Nat) (h : n ≤ 1000000000) (w : World) : Calls Tryd.prog 15 #[.int .i64 n] w fun e w' => e = .returned (.int .i64 (Bk.pad n)) ∧ w' = w := by
  have h0 : ¬ (n : Int) < 0 := by omega
  go_enter Tryd.func15, Tryd.ntmps15
  go_wp2_with fail
  go_ret
  exact ⟨congrArg (fun x => Ending.returned (Value.int .i64 x)) (by unfold Bk.pad; omega), rfl⟩

def fillB (s : ByteArray) : ByteArray := ⟨(Bk.fill s.data.toList).toArray⟩
theorem fillB_list (s : ByteArray) : (fillB s).data.toList = Bk.fill s.data.toList := rfl
theorem fillB_size (s : ByteArray) : (fillB s).size = s.size + Bk.pad s.size := by
  show (Bk.fill s.data.toList).length = _
  rw [Bk.fill_len]; simp

theorem fill_any (s : ByteArray) (h : s.size ≤ 1000000) (w : World) : Calls Tryd.prog 14 #[.string s] w fun e w' => e = .returned (.string (fillB s)) ∧ Below w.heap.size w w' := by
  have hp := Bk.pad_lt s.size
  obtain ⟨A, hA, rA⟩ := rep_named 0 (Bk.pad s.size) (by omega)
  have hAs : A.size ≤ 512 := by have := congrArg List.length hA; simp at this; omega
  have he : s ++ A = fillB s := ba_ext (by rw [cat_list, hA, fillB_list]; simp [Bk.fill])
  have HE := Lib.hid he
  have RA := Lib.hid rA
  have PA := Lib.hid (fun w => pad_any s.size (by omega) w)
  have c1 := fun w => run_string_add_sum (P := Tryd.prog) w s A (by omega)
  clear he hA rA
  go_enter Tryd.func14, Tryd.ntmps14
  go_wp2_with fail
  refine (PA.out _).mono ?_
  rintro e w1 ⟨rfl, rfl⟩
  go_wp2_with fail
  refine (RA.out _).mono ?_
  rintro e w2 ⟨rfl, hb⟩
  have HB := Lib.hid hb
  clear hb
  go_wp2_with fail
  go_ret
  rw [HE.out]
  exact ⟨rfl, HB.out⟩

theorem i8_wrap (c : UInt8) : IntKind.i8.wrap (c.toNat : Int) = Bk.i8 c := by
  have := c.toNat_lt
  have e : IntKind.i8.wrap (c.toNat : Int) = ((c.toNat : Int) + 128) % 256 - 128 := by
    simp [IntKind.wrap, IntKind.bits, IntKind.signed]; split <;> omega
  unfold Bk.i8
  rw [e]
  split <;> omega

theorem sum_step {r a : Int} {sg : Bool} {s : ByteArray} {i : Nat} (h : i < s.size) (hr : r = a + Bk.sumFrom sg i (s.data.toList.drop i)) : r = (a + Bk.val sg i s[i]) + Bk.sumFrom sg (i + 1) (s.data.toList.drop (i + 1)) := by
  rw [hr, drop_at s i h]
  simp only [Bk.sumFrom]
  omega

set_option maxHeartbeats 1000000 in
theorem sum_any (s : ByteArray) (sg : Bool) (w : World) (h1 : s.size ≤ 512) (h2 : 512 ≤ s.size) :
    Calls Tryd.prog 13 #[.string s, .bool sg] w fun e w' => e = .returned (.tuple #[.int .i64 (Bk.sum sg s.data.toList), .nilIface]) ∧ w' = w := by
  obtain ⟨r, hr⟩ : ∃ r, r = Bk.sum sg s.data.toList := ⟨_, rfl⟩
  rw [← hr]
  have Hr := Lib.hid hr
  clear hr
  have hn : ((s.size : Int) != 512) = false := by simp; omega
  cases sg
  all_goals
    go_enter Tryd.func13, Tryd.ntmps13
    go_wp2_with fail
  · go_loopg [6, 14] (s.size) (fun g sv iv wr => ∃ (i : Nat) (a : Int), iv = .int .i64 i ∧ sv = .int .i64 a ∧ i ≤ s.size ∧ g + i = s.size ∧ -255 * (i : Int) ≤ a ∧ a ≤ 255 * (i : Int) ∧ Hid (r = a + Bk.sumFrom false i (s.data.toList.drop i)) ∧ wr = w)
    case atStart => exact ⟨0, 0, rfl, rfl, by omega, by omega, by omega, by omega, by rw [Hr.out]; simp [Hid, Bk.sum], rfl⟩
    case round =>
      obtain ⟨i, a, rfl, rfl, hi1, hg, ha1, ha2, hR, rfl⟩ := hrel
      have Hg := Lib.hid hg
      clear hg
      by_cases hi : i < s.size
      · have hi3 : (i : Int) < s.size := by omega
        have hst := sum_step hi hR.out
        have hbyte := u8_lt s[i]
        by_cases hin : 148 ≤ i ∧ i < 156
        · have hv : Bk.val false i s[i] = 32 := by unfold Bk.val; rw [if_pos hin]
          rw [hv] at hst
          have HS := Lib.hid hst
          have k1 : (148 : Int) ≤ i := by omega
          have k2 : (i : Int) < 156 := by omega
          clear hst hv hin
          go_wp2_with fail
          go_roundg (s.size - (i + 1))
          case measure => have := Hg.out; omega
          case rel => exact ⟨i + 1, a + 32, by go_num, by go_num, by omega, by omega, by omega, by omega, HS.out, rfl⟩
        · have hv : Bk.val false i s[i] = s[i].toNat := by unfold Bk.val; rw [if_neg hin]; rfl
          rw [hv] at hst
          have HS := Lib.hid hst
          have Hin := Lib.hid hin
          clear hst hv hin
          by_cases k1 : (148 : Int) ≤ i
          · have k2 : ¬ (i : Int) < 156 := by have := Hin.out; omega
            go_wp2_with fail
            go_roundg (s.size - (i + 1))
            case measure => have := Hg.out; omega
            case rel => exact ⟨i + 1, a + s[i].toNat, by go_num, by go_num, by omega, by omega, by omega, by omega, HS.out, rfl⟩
          · go_wp2_with fail
            go_roundg (s.size - (i + 1))
            case measure => have := Hg.out; omega
            case rel => exact ⟨i + 1, a + s[i].toNat, by go_num, by go_num, by omega, by omega, by omega, by omega, HS.out, rfl⟩
      · have hi3 : (s.size : Int) ≤ i := by omega
        have hr : r = a := by rw [hR.out, drop_over s i (by omega)]; simp [Bk.sumFrom]
        have Hr := Lib.hid hr
        clear hr
        go_wp2_with fail
        go_ret2
        rw [Hr.out]
        exact ⟨rfl, rfl⟩
  · go_loopg [6, 14] (s.size) (fun g sv iv wr => ∃ (i : Nat) (a : Int), iv = .int .i64 i ∧ sv = .int .i64 a ∧ i ≤ s.size ∧ g + i = s.size ∧ -255 * (i : Int) ≤ a ∧ a ≤ 255 * (i : Int) ∧ Hid (r = a + Bk.sumFrom true i (s.data.toList.drop i)) ∧ wr = w)
    case atStart => exact ⟨0, 0, rfl, rfl, by omega, by omega, by omega, by omega, by rw [Hr.out]; simp [Hid, Bk.sum], rfl⟩
    case round =>
      obtain ⟨i, a, rfl, rfl, hi1, hg, ha1, ha2, hR, rfl⟩ := hrel
      have Hg := Lib.hid hg
      clear hg
      by_cases hi : i < s.size
      · have hi3 : (i : Int) < s.size := by omega
        have hst := sum_step hi hR.out
        have hbyte := u8_lt s[i]
        by_cases hin : 148 ≤ i ∧ i < 156
        · have hv : Bk.val true i s[i] = 32 := by unfold Bk.val; rw [if_pos hin]
          rw [hv] at hst
          have HS := Lib.hid hst
          have k1 : (148 : Int) ≤ i := by omega
          have k2 : (i : Int) < 156 := by omega
          clear hst hv hin
          go_wp2_with fail
          go_roundg (s.size - (i + 1))
          case measure => have := Hg.out; omega
          case rel => exact ⟨i + 1, a + 32, by go_num, by go_num, by omega, by omega, by omega, by omega, HS.out, rfl⟩
        · have hv : Bk.val true i s[i] = Bk.i8 s[i] := by unfold Bk.val; rw [if_neg hin]; rfl
          rw [hv] at hst
          have HS := Lib.hid hst
          have Hin := Lib.hid hin
          have hw := i8_wrap s[i]
          obtain ⟨v, hv2⟩ : ∃ v, v = Bk.i8 s[i] := ⟨_, rfl⟩
          have hv3 : -128 ≤ v ∧ v ≤ 127 := by rw [hv2]; unfold Bk.i8; have := s[i].toNat_lt; split <;> omega
          obtain ⟨hv4, hv5⟩ := hv3
          rw [← hv2] at hw HS
          clear hst hv hin hv2
          by_cases k1 : (148 : Int) ≤ i
          · have k2 : ¬ (i : Int) < 156 := by have := Hin.out; omega
            go_wp2_with fail
            go_roundg (s.size - (i + 1))
            case measure => have := Hg.out; omega
            case rel => exact ⟨i + 1, a + v, by go_num, by go_num, by omega, by omega, by omega, by omega, HS.out, rfl⟩
          · go_wp2_with fail
            go_roundg (s.size - (i + 1))
            case measure => have := Hg.out; omega
            case rel => exact ⟨i + 1, a + v, by go_num, by go_num, by omega, by omega, by omega, by omega, HS.out, rfl⟩
      · have hi3 : (s.size : Int) ≤ i := by omega
        have hr : r = a := by rw [hR.out, drop_over s i (by omega)]; simp [Bk.sumFrom]
        have Hr := Lib.hid hr
        clear hr
        go_wp2_with fail
        go_ret2
        rw [Hr.out]
        exact ⟨rfl, rfl⟩

end Go.Proofs.YtighfpcnmgplcaaDoor
