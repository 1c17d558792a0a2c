/-
  number.Read.
-/
import Derived.Test.YtdhnjbiigpiecaaDoorNumC
import Derived.Test.YtdhnjbiigpiecaaDoorShelf
import Derived.Shelf.Strings.SlTrimAscii
import Derived.Lib.ConvBytes
namespace Go.Proofs.YtdhnjbiigpiecaaDoor
open Go.RowKit Go.Shelf Go.Lib

def readGo : List UInt8 → Nat → Option (Option Nat)
  | [], n => some (some n)
  | c :: cs, n => if c.toNat < 48 ∨ 55 < c.toNat then none else if 1152921504606846976 ≤ n then some none else readGo cs (8 * n + (c.toNat - 48))
def readAns : Option (Option Nat) → Value
  | some (some n) => .tuple #[.int .i64 n, .nilIface]
  | some none => .tuple #[.int .i64 0, .iface 32 (.int .i64 2)]
  | none => .tuple #[.int .i64 0, .iface 32 (.int .i64 3)]
def trimmed (l : List UInt8) : List UInt8 := Lib.trimRightS (Lib.trimLeftB l 32) [32, 0]

theorem dropWhile_le' (p : UInt8 → Bool) (l : List UInt8) : (l.dropWhile p).length ≤ l.length := (List.dropWhile_suffix p).length_le
theorem trimL_le (l : List UInt8) (c : UInt8) : (Lib.trimLeftB l c).length ≤ l.length := by
  unfold Lib.trimLeftB; exact dropWhile_le' _ _
theorem trimR_le (l cs : List UInt8) : (Lib.trimRightS l cs).length ≤ l.length := by
  unfold Lib.trimRightS
  rw [List.length_reverse]
  exact Nat.le_trans (dropWhile_le' _ _) (by simp)
theorem ne_empty {s : ByteArray} (h : 0 < s.size) : s.toList.isEmpty = false := by
  rw [Lib.toList_data]
  have h' : 0 < s.data.toList.length := by simpa using h
  cases hl : s.data.toList with
  | nil => rw [hl] at h'; exact absurd h' (by decide)
  | cons => rfl

set_option maxRecDepth 100000 in
set_option maxHeartbeats 1000000 in
theorem read_low (s : ByteArray) (h0 : 0 < s.size) (hs : s.size < 1000) (hlow : (s[0]'h0).toNat < 128) (w : World) :
    Calls Tryd.prog 49 #[.string s] w fun e w' => e = .returned (readAns (readGo (trimmed s.data.toList) 0)) ∧ Below w.heap.size w w' := by
  have k1 : ¬ (128 : Int) ≤ (s[0].toNat : Int) := by omega
  obtain ⟨r, hr⟩ : ∃ r, r = readGo (trimmed s.data.toList) 0 := ⟨_, rfl⟩
  rw [← hr]
  have tl := Tryd.strings_TrimLeft_one s 32 (by decide)
  obtain ⟨a, ha⟩ : ∃ a : ByteArray, a = ⟨(Lib.trimLeftB s.data.toList 32).toArray⟩ := ⟨_, rfl⟩
  rw [← ha] at tl
  have hne := ne_empty h0
  have hasz : a.size ≤ s.size := by rw [ha]; exact trimL_le s.data.toList 32
  have tr := fun w => Any.strings_TrimRight_laid Tryd.lays162 (by kernel_rfl) a ⟨#[32, 0]⟩ w (by omega) (by decide) (ascii_of_all (by decide))
  obtain ⟨b, hb⟩ : ∃ b : ByteArray, b = ⟨(Lib.trimRightS a.data.toList [32, 0]).toArray⟩ := ⟨_, rfl⟩
  have tr : ∀ w, Calls Tryd.prog 59 #[.string a, .string ⟨#[32, 0]⟩] w fun e w' => e = .returned (.string b) ∧ Below w.heap.size w w' := by rw [hb]; exact tr
  have hbsz : b.size ≤ a.size := by rw [hb]; exact trimR_le a.data.toList [32, 0]
  have htr : b.data.toList = trimmed s.data.toList := by rw [hb, ha]; rfl
  rw [← htr] at hr
  clear htr hb ha
  have Hr := Lib.hid hr
  clear hr
  have TL := Lib.hid tl
  have TR := Lib.hid tr
  clear tl tr
  go_enter Tryd.func49, Tryd.ntmps49
  go_wp2_with fail
  refine (TL.out _).mono ?_
  rintro e w1 ⟨rfl, rfl⟩
  go_wp2_with fail
  refine (TR.out _).mono ?_
  rintro e w2 ⟨rfl, hb2⟩
  have B2 := Lib.hid hb2
  clear hb2
  have hcv := fun w : World => Lib.run_convert_string_bytes (P := Tryd.prog) w 9 29 5 b Tryd.underlying9 Tryd.underlying29 Tryd.underlying5
  go_wp2_with fail
  obtain ⟨wb, hwb⟩ : ∃ wb, wb = Lib.bytesWorld w2 5 b := ⟨_, rfl⟩
  have hcell : ∀ (j : Nat) (hj : j < b.size), wb.cell? ⟨w2.heap.size, j, none⟩ = some (.int .u8 ((b[j]'hj).toNat : Int)) := by
    intro j hj
    rw [hwb, Lib.bytesWorld_cell w2 _ b j hj]
    have h' : j < b.data.toList.length := by simpa using hj
    rw [List.getD_eq_getElem?_getD, List.getElem?_eq_getElem h']
    rfl
  have hwB : Below w1.heap.size w1 wb := by
    have hs := Lib.bytesWorld_size w2 5 b
    have hx : Below w2.heap.size w2 wb := by
      rw [hwb]; exact ⟨rfl, rfl, rfl, by rw [hs]; omega, fun j hj => Lib.bytesWorld_at_old w2 _ b j hj⟩
    exact thenB B2.out hx
  rw [← hwb]
  clear hwb hcv
  have HC := Lib.hid hcell
  have HW := Lib.hid hwB
  clear hcell hwB
  go_loopg [4, 22] (b.size) (fun g nv iv wr => ∃ i n : Nat, iv = .int .i64 i ∧ nv = .int .i64 n ∧ i ≤ b.size ∧ g + i = b.size ∧ n ≤ 9223372036854775807 ∧ Hid (r = readGo (b.data.toList.drop i) n) ∧ wr = wb)
  case atStart => exact ⟨0, 0, rfl, rfl, by omega, by omega, by omega, by rw [List.drop_zero]; exact Hr.out, rfl⟩
  case round =>
    obtain ⟨i, n, rfl, rfl, hi, hg, hn, hR, rfl⟩ := hrel
    have Hg := Lib.hid hg
    clear hg
    by_cases hi2 : i < b.size
    · have hi3 : (i : Int) < b.size := by omega
      have c0 := HC.out i hi2
      have hd := drop_at b i hi2
      have hlt := u8_nat_lt b[i]
      by_cases h1 : b[i].toNat < 48
      · have hr : r = none := by rw [hR.out, hd, readGo, if_pos (.inl h1)]
        have h1' : (b[i].toNat : Int) < 48 := by omega
        have Hr := Lib.hid hr
        clear hr hd
        go_wp2_with fail
        go_ret2
        rw [Hr.out]
        exact ⟨rfl, HW.out⟩
      · by_cases h2 : 55 < b[i].toNat
        · have hr : r = none := by rw [hR.out, hd, readGo, if_pos (.inr h2)]
          have h1' : ¬ (b[i].toNat : Int) < 48 := by omega
          have h2' : (55 : Int) < b[i].toNat := by omega
          have Hr := Lib.hid hr
          clear hr hd
          go_wp2_with fail
          go_ret2
          rw [Hr.out]
          exact ⟨rfl, HW.out⟩
        · have h1' : ¬ (b[i].toNat : Int) < 48 := by omega
          have h2' : ¬ (55 : Int) < b[i].toNat := by omega
          by_cases h3 : 1152921504606846976 ≤ n
          · have hr : r = some none := by rw [hR.out, hd, readGo, if_neg (by omega), if_pos h3]
            have h3' : (1152921504606846976 : Int) ≤ n := by omega
            have Hr := Lib.hid hr
            clear hr hd
            go_wp2_with fail
            go_ret2
            rw [Hr.out]
            exact ⟨rfl, HW.out⟩
          · have hr : r = readGo (b.data.toList.drop (i + 1)) (8 * n + (b[i].toNat - 48)) := by rw [hR.out, hd, readGo, if_neg (by omega), if_neg h3]
            have h3' : ¬ (1152921504606846976 : Int) ≤ n := by omega
            have Hr := Lib.hid hr
            clear hr hd
            go_wp2_with fail
            go_roundg (b.size - (i + 1))
            case measure => have := Hg.out; omega
            case rel =>
              have ec : (8 * (n : Int) + ((b[i].toNat : Int) - 48)) = ((8 * n + (b[i].toNat - 48) : Nat) : Int) := by omega
              exact ⟨i + 1, 8 * n + (b[i].toNat - 48), by go_num, by rw [ec], by omega, by omega, by omega, Hr.out, rfl⟩
    · have hr : r = some (some n) := by rw [hR.out, drop_over b i (by omega), readGo]
      have hi3 : (b.size : Int) ≤ i := by omega
      have Hr := Lib.hid hr
      clear hr
      go_wp2_with fail
      go_ret2
      rw [Hr.out]
      exact ⟨rfl, HW.out⟩

end Go.Proofs.YtdhnjbiigpiecaaDoor
