/-
  number.Read.
-/
import Derived.Test.YtkhkjacnoiopcaaGreatDoorZpa
import Derived.Test.YtkhkjacnoiopcaaGreatDoorZab
import Derived.Shelf.Strings.SlTrimAscii
import Derived.Lib.ConvBytes
import Derived.Test.YtkhkjacnoiopcaaGreatDoorZaa
import Derived.Lib.Repeat
import Derived.Laws.Shifts
import Derived.Lib.IfaceEq
import Derived.LaidEql
import Derived.Lib.UnsafeStr
import Derived.Lib.LazyBuf
import Derived.Laws.IdiomCopy
set_option linter.unusedVariables false
set_option linter.unusedSimpArgs false

set_option linter.unusedVariables false
set_option linter.unusedSimpArgs false
namespace Go.Proofs.YtkhkjacnoiopcaaGreatDoor
open Go.RowKit Go.Shelf Go.Lib

def readGo : List UInt8 → Nat → Option (Option Nat)
  | [], n => some (some n)
  | c :: cs, n => if c.toNat < 48 ∨ 55 < c.toNat then none else if 1152921504606846976 ≤ n then some none else readGo cs (8 * n + (c.toNat - 48))
def readAns : Option (Option Nat) → Value
  | some (some n) => .tuple #[.int .i64 n, .nilIface]
  | some none => .tuple #[.int .i64 0, .iface 63 (.int .i64 2)]
  | none => .tuple #[.int .i64 0, .iface 63 (.int .i64 3)]
def trimmed (l : List UInt8) : List UInt8 := Lib.trimRightS (Lib.trimLeftB l 32) [32, 0]

theorem dropWhile_le' (p : UInt8 → Bool) (l : List UInt8) : (l.dropWhile p).length ≤ l.length := (List.dropWhile_suffix p).length_le
theorem trimL_le (l : List UInt8) (c : UInt8) : (Lib.trimLeftB l c).length ≤ l.length := by
  unfold Lib.trimLeftB; exact dropWhile_le' _ _
theorem trimR_le (l cs : List UInt8) : (Lib.trimRightS l cs).length ≤ l.length := by
  unfold Lib.trimRightS
  rw [List.length_reverse]
  exact Nat.le_trans (dropWhile_le' _ _) (by simp)
theorem ne_empty {s : ByteArray} (h : 0 < s.size) : s.toList.isEmpty = false := by
  rw [Lib.toList_data]
  have h' : 0 < s.data.toList.length := by simpa using h
  cases hl : s.data.toList with
  | nil => rw [hl] at h'; exact absurd h' (by decide)
  | cons => rfl

set_option maxRecDepth 100000 in
set_option maxHeartbeats 1000000 in
theorem read_low (s : ByteArray) (h0 : 0 < s.size) (hs : s.size < 1000) (hlow : (s[0]'h0).toNat < 128) (w : World) :
    Calls Tryz.prog 134 #[.string s] w fun e w' => e = .returned (readAns (readGo (trimmed s.data.toList) 0)) ∧ Below w.heap.size w w' := by
  have k1 : ¬ (128 : Int) ≤ (s[0].toNat : Int) := by omega
  obtain ⟨r, hr⟩ : ∃ r, r = readGo (trimmed s.data.toList) 0 := ⟨_, rfl⟩
  rw [← hr]
  have tl := Tryz.strings_TrimLeft_one s 32 (by decide)
  obtain ⟨a, ha⟩ : ∃ a : ByteArray, a = ⟨(Lib.trimLeftB s.data.toList 32).toArray⟩ := ⟨_, rfl⟩
  rw [← ha] at tl
  have hne := ne_empty h0
  have hasz : a.size ≤ s.size := by rw [ha]; exact trimL_le s.data.toList 32
  have tr := fun w => Any.strings_TrimRight_laid Tryz.lays162 (by kernel_rfl) a ⟨#[32, 0]⟩ w (by omega) (by decide) (ascii_of_all (by decide))
  obtain ⟨b, hb⟩ : ∃ b : ByteArray, b = ⟨(Lib.trimRightS a.data.toList [32, 0]).toArray⟩ := ⟨_, rfl⟩
  have tr : ∀ w, Calls Tryz.prog 22 #[.string a, .string ⟨#[32, 0]⟩] w fun e w' => e = .returned (.string b) ∧ Below w.heap.size w w' := by rw [hb]; exact tr
  have hbsz : b.size ≤ a.size := by rw [hb]; exact trimR_le a.data.toList [32, 0]
  have htr : b.data.toList = trimmed s.data.toList := by rw [hb, ha]; rfl
  rw [← htr] at hr
  clear htr hb ha
  have Hr := Lib.hid hr
  clear hr
  have TL := Lib.hid tl
  have TR := Lib.hid tr
  clear tl tr
  go_enter Tryz.func134, Tryz.ntmps134
  go_wp2_with fail
  refine (TL.out _).mono ?_
  rintro e w1 ⟨rfl, rfl⟩
  go_wp2_with fail
  refine (TR.out _).mono ?_
  rintro e w2 ⟨rfl, hb2⟩
  have B2 := Lib.hid hb2
  clear hb2
  have hcv := fun w : World => Lib.run_convert_string_bytes (P := Tryz.prog) w 9 62 5 b Tryz.underlying9 Tryz.underlying62 Tryz.underlying5
  go_wp2_with fail
  obtain ⟨wb, hwb⟩ : ∃ wb, wb = Lib.bytesWorld w2 5 b := ⟨_, rfl⟩
  have hcell : ∀ (j : Nat) (hj : j < b.size), wb.cell? ⟨w2.heap.size, j, none⟩ = some (.int .u8 ((b[j]'hj).toNat : Int)) := by
    intro j hj
    rw [hwb, Lib.bytesWorld_cell w2 _ b j hj]
    have h' : j < b.data.toList.length := by simpa using hj
    rw [List.getD_eq_getElem?_getD, List.getElem?_eq_getElem h']
    rfl
  have hwB : Below w1.heap.size w1 wb := by
    have hs := Lib.bytesWorld_size w2 5 b
    have hx : Below w2.heap.size w2 wb := by
      rw [hwb]; exact ⟨rfl, rfl, rfl, by rw [hs]; omega, fun j hj => Lib.bytesWorld_at_old w2 _ b j hj⟩
    exact thenB B2.out hx
  rw [← hwb]
  clear hwb hcv
  have HC := Lib.hid hcell
  have HW := Lib.hid hwB
  clear hcell hwB
  go_loopg [4, 22] (b.size) (fun g nv iv wr => ∃ i n : Nat, iv = .int .i64 i ∧ nv = .int .i64 n ∧ i ≤ b.size ∧ g + i = b.size ∧ n ≤ 9223372036854775807 ∧ Hid (r = readGo (b.data.toList.drop i) n) ∧ wr = wb)
  case atStart => exact ⟨0, 0, rfl, rfl, by omega, by omega, by omega, by rw [List.drop_zero]; exact Hr.out, rfl⟩
  case round =>
    obtain ⟨i, n, rfl, rfl, hi, hg, hn, hR, rfl⟩ := hrel
    have Hg := Lib.hid hg
    clear hg
    by_cases hi2 : i < b.size
    · have hi3 : (i : Int) < b.size := by omega
      have c0 := HC.out i hi2
      have hd := drop_at b i hi2
      have hlt := u8_nat_lt b[i]
      by_cases h1 : b[i].toNat < 48
      · have hr : r = none := by rw [hR.out, hd, readGo, if_pos (.inl h1)]
        have h1' : (b[i].toNat : Int) < 48 := by omega
        have Hr := Lib.hid hr
        clear hr hd
        go_wp2_with fail
        go_ret2
        rw [Hr.out]
        exact ⟨rfl, HW.out⟩
      · by_cases h2 : 55 < b[i].toNat
        · have hr : r = none := by rw [hR.out, hd, readGo, if_pos (.inr h2)]
          have h1' : ¬ (b[i].toNat : Int) < 48 := by omega
          have h2' : (55 : Int) < b[i].toNat := by omega
          have Hr := Lib.hid hr
          clear hr hd
          go_wp2_with fail
          go_ret2
          rw [Hr.out]
          exact ⟨rfl, HW.out⟩
        · have h1' : ¬ (b[i].toNat : Int) < 48 := by omega
          have h2' : ¬ (55 : Int) < b[i].toNat := by omega
          by_cases h3 : 1152921504606846976 ≤ n
          · have hr : r = some none := by rw [hR.out, hd, readGo, if_neg (by omega), if_pos h3]
            have h3' : (1152921504606846976 : Int) ≤ n := by omega
            have Hr := Lib.hid hr
            clear hr hd
            go_wp2_with fail
            go_ret2
            rw [Hr.out]
            exact ⟨rfl, HW.out⟩
          · have hr : r = readGo (b.data.toList.drop (i + 1)) (8 * n + (b[i].toNat - 48)) := by rw [hR.out, hd, readGo, if_neg (by omega), if_neg h3]
            have h3' : ¬ (1152921504606846976 : Int) ≤ n := by omega
            have Hr := Lib.hid hr
            clear hr hd
            go_wp2_with fail
            go_roundg (b.size - (i + 1))
            case measure => have := Hg.out; omega
            case rel =>
              have ec : (8 * (n : Int) + ((b[i].toNat : Int) - 48)) = ((8 * n + (b[i].toNat - 48) : Nat) : Int) := by omega
              exact ⟨i + 1, 8 * n + (b[i].toNat - 48), by go_num, by rw [ec], by omega, by omega, by omega, Hr.out, rfl⟩
    · have hr : r = some (some n) := by rw [hR.out, drop_over b i (by omega), readGo]
      have hi3 : (b.size : Int) ≤ i := by omega
      have Hr := Lib.hid hr
      clear hr
      go_wp2_with fail
      go_ret2
      rw [Hr.out]
      exact ⟨rfl, HW.out⟩

end Go.Proofs.YtkhkjacnoiopcaaGreatDoor

set_option linter.unusedVariables false
set_option linter.unusedSimpArgs false
namespace Go.Proofs.YtkhkjacnoiopcaaGreatDoor
open Go.RowKit

/-- the number in a field; none: there is none -/
def rd (l : List UInt8) : Option Int := match l with
  | [] => none
  | c :: cs => if c.toNat < 128 then (match readGo (trimmed (c :: cs)) 0 with | some (some n) => some (n : Int) | _ => none) else wide (c :: cs)

theorem ans_wide (r : Option Int) : ∃ (n : Int) (E : Value), wideAns r = .tuple #[.int .i64 n, E] ∧ ((E = .nilIface ∧ r = some n) ∨ ((∃ k : Int, E = .iface 63 (.int .i64 k)) ∧ r = none)) := by
  cases r with
  | none => exact ⟨_, _, rfl, .inr ⟨⟨_, rfl⟩, rfl⟩⟩
  | some n => exact ⟨_, _, rfl, .inl ⟨rfl, rfl⟩⟩
theorem ans_read (r : Option (Option Nat)) : ∃ (n : Int) (E : Value), readAns r = .tuple #[.int .i64 n, E] ∧ ((E = .nilIface ∧ ∃ m : Nat, n = m ∧ r = some (some m)) ∨ ((∃ k : Int, E = .iface 63 (.int .i64 k)) ∧ ∀ m : Nat, r ≠ some (some m))) := by
  cases r with
  | none => exact ⟨_, _, rfl, .inr ⟨⟨_, rfl⟩, fun m h => by cases h⟩⟩
  | some r =>
    cases r with
    | none => exact ⟨_, _, rfl, .inr ⟨⟨_, rfl⟩, fun m h => by cases h⟩⟩
    | some n => exact ⟨_, _, rfl, .inl ⟨rfl, n, rfl, rfl⟩⟩

theorem bytes_cons (s : ByteArray) (h0 : 0 < s.size) : s.data.toList = s[0] :: s.data.toList.drop 1 := by
  have := drop_at s 0 h0
  rw [List.drop_zero] at this
  exact this

set_option maxHeartbeats 1000000 in
theorem read_high (s : ByteArray) (h0 : 0 < s.size) (hs : s.size < 100) (hhi : 128 ≤ (s[0]'h0).toNat) (n : Int) (E : Value) (hE : wideAns (wide s.data.toList) = .tuple #[.int .i64 n, E]) (w : World) :
    Calls Tryz.prog 134 #[.string s] w fun e w' => e = .returned (.tuple #[.int .i64 n, E]) ∧ w' = w := by
  have k1 : (128 : Int) ≤ (s[0].toNat : Int) := by omega
  have hne := ne_empty h0
  have hw := fun w => wide_any s h0 hs w
  rw [hE] at hw
  have HW := Lib.hid hw
  clear hw hE
  go_enter Tryz.func134, Tryz.ntmps134
  go_wp2_with fail
  refine (HW.out _).mono ?_
  rintro e w1 ⟨rfl, rfl⟩
  go_wp2_with fail
  go_ret2
  exact ⟨rfl, rfl⟩

theorem read_named (s : ByteArray) (h0 : 0 < s.size) (hs : s.size < 100) : ∃ (n : Int) (E : Value), (∀ w : World, Calls Tryz.prog 134 #[.string s] w fun e w' => e = .returned (.tuple #[.int .i64 n, E]) ∧ Below w.heap.size w w') ∧
    ((E = .nilIface ∧ rd s.data.toList = some n) ∨ ((∃ k : Int, E = .iface 63 (.int .i64 k)) ∧ rd s.data.toList = none)) := by
  have hc := bytes_cons s h0
  by_cases hl : (s[0]'h0).toNat < 128
  · obtain ⟨n, E, hE, h⟩ := ans_read (readGo (trimmed s.data.toList) 0)
    refine ⟨n, E, fun w => hE ▸ read_low s h0 (by omega) hl w, ?_⟩
    rw [hc] at h ⊢
    simp only [rd]
    rw [if_pos hl]
    rcases h with ⟨rfl, m, rfl, hr⟩ | ⟨hk, hr⟩
    · left; rw [hr]; exact ⟨rfl, rfl⟩
    · right
      refine ⟨hk, ?_⟩
      split
      · rename_i m hm; exact absurd hm (hr m)
      · rfl
  · obtain ⟨n, E, hE, h⟩ := ans_wide (wide s.data.toList)
    refine ⟨n, E, fun w => (read_high s h0 hs (by omega) n E hE w).mono fun e w' ⟨he, hw⟩ => ⟨he, hw ▸ Below.refl _ _⟩, ?_⟩
    rw [hc] at h ⊢
    simp only [rd]
    rw [if_neg hl]
    rcases h with ⟨rfl, hr⟩ | ⟨hk, hr⟩
    · exact .inl ⟨rfl, hr⟩
    · exact .inr ⟨hk, hr⟩

end Go.Proofs.YtkhkjacnoiopcaaGreatDoor

set_option linter.unusedVariables false
set_option linter.unusedSimpArgs false
namespace Go.Proofs.YtkhkjacnoiopcaaGreatDoor
open Go

theorem digs_mem (n k : Nat) : ∀ x ∈ Num.digs n k, 48 ≤ x.toNat ∧ x.toNat ≤ 55 := by
  induction k with
  | zero => intro x h; cases h
  | succ k ih =>
    intro x h
    rw [Num.digs] at h
    rcases List.mem_cons.1 h with rfl | h
    · rw [Num.digit_toNat]; omega
    · exact ih x h

theorem u8_not (x c : UInt8) (h : x.toNat ≠ c.toNat) : (x == c) = false := beq_eq_false_iff_ne.2 fun e => h (by rw [e])

theorem drop_all (p : UInt8 → Bool) (l : List UInt8) (hl : ∀ x ∈ l, p x = false) (t : List UInt8) (ht : ∀ x ∈ t, p x = true) : (t ++ l).dropWhile p = l := by
  induction t with
  | nil =>
    cases l with
    | nil => rfl
    | cons x l => simp [hl x (List.mem_cons_self ..)]
  | cons c t ih => rw [List.cons_append, List.dropWhile_cons_of_pos (ht c (List.mem_cons_self ..)), ih fun x hx => ht x (List.mem_cons_of_mem _ hx)]

theorem trimmed_tail (n k i : Nat) (t : List UInt8) (ht : ∀ x ∈ t, x = 32 ∨ x = 0) (hk : 1 ≤ k) : trimmed (List.replicate i 32 ++ Num.digs n k ++ t) = Num.digs n k := by
  obtain ⟨k, rfl⟩ : ∃ k', k = k' + 1 := ⟨k - 1, by omega⟩
  have hd := digs_mem n (k + 1)
  unfold trimmed
  have e1 : Lib.trimLeftB (List.replicate i 32 ++ Num.digs n (k + 1) ++ t) 32 = Num.digs n (k + 1) ++ t := by
    unfold Lib.trimLeftB
    rw [List.append_assoc]
    have h1 : ∀ (l : List UInt8), (List.replicate i 32 ++ l).dropWhile (fun x => x == (32 : UInt8)) = l.dropWhile (fun x => x == (32 : UInt8)) := by
      intro l
      induction i with
      | zero => rfl
      | succ i ih => rw [List.replicate_succ, List.cons_append, List.dropWhile_cons_of_pos (by decide), ih]
    rw [h1, Num.digs, List.cons_append, List.dropWhile_cons_of_neg]
    rw [u8_not _ _ (by rw [Num.digit_toNat]; have : (32 : UInt8).toNat = 32 := rfl; omega)]
    decide
  rw [e1]
  unfold Lib.trimRightS
  rw [List.reverse_append, drop_all, List.reverse_reverse]
  · intro x hx
    have := hd x (List.mem_reverse.1 hx)
    have h1 := u8_not x 32 (by have : (32 : UInt8).toNat = 32 := rfl; omega)
    have h2 := u8_not x 0 (by have : (0 : UInt8).toNat = 0 := rfl; omega)
    simp [List.contains, List.elem, h1, h2]
  · intro x hx
    rcases ht x (List.mem_reverse.1 hx) with rfl | rfl <;> decide

theorem readGo_digs (n k : Nat) (hn : n < 1152921504606846976) : readGo (Num.digs n k) (n / 8 ^ k) = some (some n) := by
  induction k with
  | zero => simp [Num.digs, readGo]
  | succ k ih =>
    have hle : n / 8 ^ (k + 1) ≤ n := Nat.div_le_self _ _
    rw [Num.digs, readGo, Num.digit_toNat, if_neg (by omega), if_neg (by omega)]
    have e : 8 * (n / 8 ^ (k + 1)) + (48 + n / 8 ^ k % 8 - 48) = n / 8 ^ k := by
      rw [Nat.pow_succ, ← Nat.div_div_eq_div_mul]
      omega
    rw [e, ih]

theorem read_tail (n W i : Nat) (t : List UInt8) (ht : ∀ x ∈ t, x = 32 ∨ x = 0) (hW : 2 ≤ W) (hW2 : W ≤ 20) (hn : n ≤ Num.most W) :
    readGo (trimmed (List.replicate i 32 ++ Num.digs n (W - 1) ++ t)) 0 = some (some n) := by
  rw [trimmed_tail n (W - 1) i t ht (by omega)]
  have hp := Num.pow_le (W - 1) (by omega)
  have hl := Num.lt_pow hW hn
  have := readGo_digs n (W - 1) (by omega)
  rw [Nat.div_eq_of_lt hl] at this
  exact this

theorem rd_tail (n W i : Nat) (t : List UInt8) (ht : ∀ x ∈ t, x = 32 ∨ x = 0) (hW : 2 ≤ W) (hW2 : W ≤ 20) (hn : n ≤ Num.most W) :
    rd (List.replicate i 32 ++ Num.digs n (W - 1) ++ t) = some (n : Int) := by
  have h := read_tail n W i t ht hW hW2 hn
  have hh : ∃ c l, List.replicate i 32 ++ Num.digs n (W - 1) ++ t = c :: l ∧ c.toNat < 128 := by
    cases i with
    | zero =>
      obtain ⟨k, hk⟩ : ∃ k, W - 1 = k + 1 := ⟨W - 2, by omega⟩
      rw [hk, Num.digs]
      exact ⟨_, _, rfl, by rw [Num.digit_toNat]; omega⟩
    | succ i => exact ⟨32, _, rfl, by decide⟩
  obtain ⟨c, l, e, hc⟩ := hh
  rw [e] at h ⊢
  simp only [rd]
  rw [if_pos hc, h]

theorem rd_octal (n W : Nat) (hW : 2 ≤ W) (hW2 : W ≤ 20) (hn : n ≤ Num.most W) : rd (Num.octal n W) = some (n : Int) := by
  have := rd_tail n W 0 [0] (by simp) hW hW2 hn
  rw [Num.octal_digs n W (by omega)]
  exact this

end Go.Proofs.YtkhkjacnoiopcaaGreatDoor

set_option linter.unusedVariables false
set_option linter.unusedSimpArgs false
namespace Go.Proofs.YtkhkjacnoiopcaaGreatDoor

/-- the number that a header tells as its sum -/
def toldL (l : List UInt8) : Option Int := rd ((l.drop 148).take 8)
def rightL (l : List UInt8) : Bool := match toldL l with
  | none => false
  | some n => decide (Bk.sum false l = n) || decide (Bk.sum true l = n)

theorem told_seal (l : List UInt8) (h : l.length = 512) : toldL (Bk.sld l) = some (Bk.sum false l) := by
  unfold toldL
  obtain ⟨h1, h2⟩ := Bk.sum_small l h
  rw [Bk.seal_field l h, Num.octal_digs _ _ (by decide), List.append_assoc]
  have := rd_tail (Bk.sum false l).toNat 7 0 ([0] ++ [32]) (by simp) (by decide) (by decide) h1
  rw [← h2]; exact this
theorem right_seal (l : List UInt8) (h : l.length = 512) : rightL (Bk.sld l) = true := by
  unfold rightL
  rw [told_seal l h, Bk.seal_sum false l h]
  simp

end Go.Proofs.YtkhkjacnoiopcaaGreatDoor

set_option linter.unusedVariables false
set_option linter.unusedSimpArgs false
namespace Go.Proofs.YtkhkjacnoiopcaaGreatDoor
open Go.RowKit

/-- cell j of the field behind i rounds -/
def binCell (n : Int) (W i j : Nat) : Int := if W ≤ j + i ∧ 1 ≤ j then (n / 256 ^ (W - 1 - j)) % 256 else 0
def binRow (n : Int) (W i : Nat) : Array Value := rowArr W fun j => .int .u8 (binCell n W i j)
theorem binRow_zero (n : Int) (W : Nat) : rowArr W (fun _ => Value.int .u8 0) = binRow n W 0 := rowArr_ext fun j _ => by
  have : binCell n W 0 j = 0 := by unfold binCell; rw [if_neg (by omega)]
  rw [this]

theorem binRow_next {n : Int} {W i : Nat} (hi : i + 1 < W) : (binRow n W i).setIfInBounds (W - 1 - i) (.int .u8 (n / 256 ^ i % 256)) = binRow n W (i + 1) := by
  refine rowArr_set W _ _ (W - 1 - i) _ (fun x hx => ?_)
  by_cases h : x = W - 1 - i
  · rw [if_pos h]
    have : binCell n W (i + 1) x = n / 256 ^ i % 256 := by
      unfold binCell; rw [if_pos (by omega), show W - 1 - x = i by omega]
    rw [this]
  · rw [if_neg h]
    have : binCell n W (i + 1) x = binCell n W i x := by
      unfold binCell
      by_cases h2 : W ≤ x + i ∧ 1 ≤ x
      · rw [if_pos h2, if_pos (by omega)]
      · rw [if_neg h2, if_neg (by omega)]
    rw [this]
def binFin (n : Int) (W j : Nat) : Int := if j = 0 then (if n < 0 then 255 else 128) else (n / 256 ^ (W - 1 - j)) % 256
def binLaw (n : Int) (W : Nat) : List UInt8 := (List.range W).map fun j => UInt8.ofNat (binFin n W j).toNat
theorem binFin_lt (n : Int) (W j : Nat) : 0 ≤ binFin n W j ∧ binFin n W j < 256 := by unfold binFin; split <;> (try split) <;> omega
theorem binRow_end (n : Int) (W i : Nat) (v : Int) (hW : 1 ≤ W) (h : i + 1 = W) (hv : v = if n < 0 then 255 else 128) (cs : Array Value) (hcs : cs = (binRow n W i).setIfInBounds 0 (.int .u8 v)) :
    cs.toList = Lib.byteCells (binLaw n W) := by
  have : cs = rowArr W fun j => .int .u8 (binFin n W j) := by
    rw [hcs]
    refine rowArr_set W _ _ 0 _ (fun x hx => ?_)
    unfold binFin binCell
    by_cases h0 : x = 0
    · rw [if_pos h0, if_pos h0, hv]
    · rw [if_neg h0, if_neg h0, if_pos (by omega)]
  rw [this]
  simp only [rowArr, binLaw, Lib.byteCells, List.map_map]
  refine List.map_congr_left fun j hj => ?_
  have hl := binFin_lt n W j
  simp only [Function.comp_apply]
  congr 1
  simp [UInt8.toNat_ofNat']
  omega
theorem set_twice (cs : Array Value) (i : Nat) (u v : Value) : (cs.setIfInBounds i u).setIfInBounds i v = cs.setIfInBounds i v := by
  simp

theorem div_big (n : Int) (hn1 : -9223372036854775808 ≤ n) (hn2 : n ≤ 9223372036854775807) (m : Int) (hm : 9223372036854775808 ≤ m) : n / m = if n < 0 then -1 else 0 := by
  split
  · exact (Int.ediv_emod_unique (by omega)).2 ⟨(by omega : (n + m) + m * -1 = n), by omega, by omega⟩ |>.1
  · exact Int.ediv_eq_zero_of_lt (by omega) (by omega)

theorem shr_bytes (n : Int) (hn1 : -9223372036854775808 ≤ n) (hn2 : n ≤ 9223372036854775807) (i : Nat) : Op.shift .shr .i64 n .i64 (8 * (i : Int)) = pure (.int .i64 (n / 256 ^ i)) := by
  rw [shift_shr_any _ _ _ _ (by omega)]
  have e : (8 * (i : Int)).toNat = 8 * i := by omega
  have e2 : (256 : Int) ^ i = 2 ^ (8 * i) := by rw [show (256 : Int) = 2 ^ 8 by rfl, ← Int.pow_mul]
  rw [e, e2]
  have eb : IntKind.i64.bits = 64 := rfl
  rw [eb]
  rcases Nat.le_total (8 * i) 64 with h | h
  · rw [Nat.min_eq_left h]
  · rw [Nat.min_eq_right h]
    have h1 : (2 : Int) ^ 64 ≤ 2 ^ (8 * i) := by
      have := Nat.pow_le_pow_right (n := 2) (by omega) h
      exact_mod_cast this
    rw [div_big n hn1 hn2 (2 ^ 64) (by decide), div_big n hn1 hn2 (2 ^ (8 * i)) (by
      have : (9223372036854775808 : Int) ≤ 2 ^ 64 := by decide
      omega)]

set_option maxRecDepth 100000 in
set_option maxHeartbeats 1000000 in
theorem binary_long (n : Int) (W : Nat) (w : World) (h1 : 9 ≤ W) (h2 : W ≤ 20) (hn1 : -9223372036854775808 ≤ n) (hn2 : n ≤ 9223372036854775807) :
    Calls Tryz.prog 161 #[.int .i64 n, .int .i64 W] w fun e w' => e = .returned (.tuple #[.string ⟨(binLaw n W).toArray⟩, .nilIface]) ∧ Below w.heap.size w w' := by
  have k1 : (9 : Int) ≤ W := by omega
  have k2 : (W : Int) ≤ 20 := by omega
  have hmk := run_make_one (P := Tryz.prog) 62 5 (.int .u8 0) 1 Tryz.underlying62 infoU8 rfl W (W : Int) rfl (by omega) (by omega)
  go_enter Tryz.func161, Tryz.ntmps161
  go_wp2_with fail
  obtain ⟨w2, hw2⟩ : ∃ w2, w2 = w.alloc (Obj.cells (rowArr W fun _ => Value.int .u8 0) 5) := ⟨_, rfl⟩
  rw [← hw2]
  have hb2 : Blk w2 w.heap.size 5 (binRow n W 0) := by rw [hw2, ← binRow_zero n W]; exact Blk.new _ _ _
  have hbl : Below w.heap.size w w2 := by rw [hw2]; exact (Below.refl _ _).alloc (Nat.le_refl _) _
  clear hw2
  go_loopg [30] (W - 1) (fun g iv wr => ∃ i : Nat, iv = .int .i64 i ∧ i + 1 ≤ W ∧ g + i + 1 = W ∧ Blk wr w.heap.size 5 (binRow n W i) ∧ Below w.heap.size w wr)
  case atStart => exact ⟨0, rfl, by omega, by omega, hb2, hbl⟩
  case round =>
    obtain ⟨i, rfl, hi, hg, hB, hbw⟩ := hrel
    clear hb2 hbl
    have Hg := Lib.hid hg
    have HB := Lib.hid hB
    have HW := Lib.hid hbw
    clear hg hbw
    by_cases hi2 : i + 1 < W
    · have cB := (hB.cell (W - 1 - i)).trans (rowArr_at W _ (W - 1 - i) (by omega))
      have fB := hB.frozen (W - 1 - i)
      have hi3 : (i : Int) + 1 < W := by omega
      have hsh := fun w : World => congrArg (fun m => Sem.run Tryz.prog m w) (shr_bytes n hn1 hn2 i)
      clear hB
      go_wp2_with fail
      go_roundg (W - (i + 2))
      case measure => have := Hg.out; omega
      case rel =>
        refine ⟨i + 1, by go_num, by omega, by omega, ?_, ?_⟩
        · rw [← binRow_next (n := n) hi2]
          exact HB.out.set_ _ _
        · exact HW.out.setCell (by first | exact Nat.le_refl _ | simp) _
    · have hi3 : (W : Int) ≤ (i : Int) + 1 := by omega
      have c0 := (hB.cell 0).trans (rowArr_at W _ 0 (by omega))
      have f0 := hB.frozen 0
      have B1 := hB.set_ 0 (.int .u8 128)
      have B2 := B1.set_ 0 (.int .u8 255)
      rw [set_twice] at B2
      have c1 : (wr.setCell ⟨w.heap.size, 0, none⟩ (.int .u8 128)).cell? ⟨w.heap.size, 0, none⟩ = some (.int .u8 128) := by
        rw [B1.cell 0]; exact Array.getElem?_setIfInBounds_self_of_lt (by simp [binRow, rowArr]; omega)
      have f1 := B1.frozen 0
      have hw1 : Below w.heap.size w (wr.setCell ⟨w.heap.size, 0, none⟩ (.int .u8 128)) := HW.out.setCell (by first | exact Nat.le_refl _ | simp) _
      have hw2 := hw1.setCell (p := ⟨w.heap.size, 0, none⟩) (by first | exact Nat.le_refl _ | simp) (.int .u8 255)
      by_cases hn0 : n < 0
      · have hcv := convert_row (P := Tryz.prog) _ 62 9 5 _ w.heap.size W W (binLaw n W) _ Tryz.underlying62 Tryz.underlying5 Tryz.underlying9 (by simp [binLaw]) (binRow_end n W i 255 (by omega) (by omega) (by rw [if_pos hn0]) _ rfl) B2
        clear hB B1 B2 hw1
        have HW2 := Lib.hid hw2
        clear hw2
        go_wp2_with fail
        go_ret2
        exact ⟨rfl, HW2.out⟩
      · have hcv := convert_row (P := Tryz.prog) _ 62 9 5 _ w.heap.size W W (binLaw n W) _ Tryz.underlying62 Tryz.underlying5 Tryz.underlying9 (by simp [binLaw]) (binRow_end n W i 128 (by omega) (by omega) (by rw [if_neg hn0]) _ rfl) B1
        clear hB B1 B2 hw2
        have HW1 := Lib.hid hw1
        clear hw1
        go_wp2_with fail
        go_ret2
        exact ⟨rfl, HW1.out⟩

set_option maxRecDepth 100000 in
set_option maxHeartbeats 1000000 in
theorem binary_eight (n : Int) (w : World) (r1 : -36028797018963968 ≤ n) (r2 : n ≤ 36028797018963967) :
    Calls Tryz.prog 161 #[.int .i64 n, .int .i64 8] w fun e w' => e = .returned (.tuple #[.string ⟨(binLaw n 8).toArray⟩, .nilIface]) ∧ Below w.heap.size w w' := by
  have hn1 : -9223372036854775808 ≤ n := by omega
  have hn2 : n ≤ 9223372036854775807 := by omega
  have hmk := run_make_one (P := Tryz.prog) 62 5 (.int .u8 0) 1 Tryz.underlying62 infoU8 rfl 8 (8 : Int) rfl (by omega) (by omega)
  go_enter Tryz.func161, Tryz.ntmps161
  go_wp2_with fail
  obtain ⟨w2, hw2⟩ : ∃ w2, w2 = w.alloc (Obj.cells (rowArr 8 fun _ => Value.int .u8 0) 5) := ⟨_, rfl⟩
  rw [← hw2]
  have hb2 : Blk w2 w.heap.size 5 (binRow n 8 0) := by rw [hw2, ← binRow_zero n 8]; exact Blk.new _ _ _
  have hbl : Below w.heap.size w w2 := by rw [hw2]; exact (Below.refl _ _).alloc (Nat.le_refl _) _
  clear hw2
  go_loopg [30] 7 (fun g iv wr => ∃ i : Nat, iv = .int .i64 i ∧ i + 1 ≤ 8 ∧ g + i + 1 = 8 ∧ Blk wr w.heap.size 5 (binRow n 8 i) ∧ Below w.heap.size w wr)
  case atStart => exact ⟨0, rfl, by omega, by omega, hb2, hbl⟩
  case round =>
    obtain ⟨i, rfl, hi, hg, hB, hbw⟩ := hrel
    clear hb2 hbl
    have Hg := Lib.hid hg
    have HB := Lib.hid hB
    have HW := Lib.hid hbw
    clear hg hbw
    by_cases hi2 : i + 1 < 8
    · have cB := (hB.cell (7 - i)).trans (rowArr_at 8 _ (7 - i) (by omega))
      have fB := hB.frozen (7 - i)
      have hi3 : (i : Int) < 7 := by omega
      have hsh := fun w : World => congrArg (fun m => Sem.run Tryz.prog m w) (shr_bytes n hn1 hn2 i)
      clear hB
      go_wp2_with fail
      go_roundg (8 - (i + 2))
      case measure => have := Hg.out; omega
      case rel =>
        refine ⟨i + 1, by go_num, by omega, by omega, ?_, ?_⟩
        · rw [show (2 : Int) ^ (8 * i) = 256 ^ i by rw [show (256 : Int) = 2 ^ 8 by rfl, ← Int.pow_mul], ← binRow_next (n := n) hi2]
          exact HB.out.set_ _ _
        · exact HW.out.setCell (by first | exact Nat.le_refl _ | simp) _
    · have hi3 : (7 : Int) ≤ (i : Int) := by omega
      have c0 := (hB.cell 0).trans (rowArr_at 8 _ 0 (by omega))
      have f0 := hB.frozen 0
      have B1 := hB.set_ 0 (.int .u8 128)
      have B2 := B1.set_ 0 (.int .u8 255)
      rw [set_twice] at B2
      have c1 : (wr.setCell ⟨w.heap.size, 0, none⟩ (.int .u8 128)).cell? ⟨w.heap.size, 0, none⟩ = some (.int .u8 128) := by
        rw [B1.cell 0]; exact Array.getElem?_setIfInBounds_self_of_lt (by simp [binRow, rowArr])
      have f1 := B1.frozen 0
      have hw1 : Below w.heap.size w (wr.setCell ⟨w.heap.size, 0, none⟩ (.int .u8 128)) := HW.out.setCell (by first | exact Nat.le_refl _ | simp) _
      have hw2 := hw1.setCell (p := ⟨w.heap.size, 0, none⟩) (by first | exact Nat.le_refl _ | simp) (.int .u8 255)
      by_cases hn0 : n < 0
      · have hcv := convert_row (P := Tryz.prog) _ 62 9 5 _ w.heap.size 8 8 (binLaw n 8) _ Tryz.underlying62 Tryz.underlying5 Tryz.underlying9 (by simp [binLaw]) (binRow_end n 8 i 255 (by omega) (by omega) (by rw [if_pos hn0]) _ rfl) B2
        clear hB B1 B2 hw1
        have HW2 := Lib.hid hw2
        clear hw2
        go_wp2_with fail
        go_ret2
        exact ⟨rfl, HW2.out⟩
      · have hcv := convert_row (P := Tryz.prog) _ 62 9 5 _ w.heap.size 8 8 (binLaw n 8) _ Tryz.underlying62 Tryz.underlying5 Tryz.underlying9 (by simp [binLaw]) (binRow_end n 8 i 128 (by omega) (by omega) (by rw [if_neg hn0]) _ rfl) B1
        clear hB B1 B2 hw2
        have HW1 := Lib.hid hw1
        clear hw1
        go_wp2_with fail
        go_ret2
        exact ⟨rfl, HW1.out⟩

theorem binary_range (n W : Int) (w : World) (k8 : W = 8) (h : n < -36028797018963968 ∨ 36028797018963967 < n) : Calls Tryz.prog 161 #[.int .i64 n, .int .i64 W] w fun e w' => e = .returned (.tuple #[.string ⟨#[]⟩, .iface 63 (.int .i64 2)]) ∧ w' = w := by
  rcases h with h | h
  · go_enter Tryz.func161, Tryz.ntmps161
    go_wp2_with fail
    go_ret2
    exact ⟨rfl, rfl⟩
  · have h2 : ¬ n < -36028797018963968 := by omega
    go_enter Tryz.func161, Tryz.ntmps161
    go_wp2_with fail
    go_ret2
    exact ⟨rfl, rfl⟩

end Go.Proofs.YtkhkjacnoiopcaaGreatDoor

set_option linter.unusedVariables false
set_option linter.unusedSimpArgs false
namespace Go.Proofs.YtkhkjacnoiopcaaGreatDoor
open Go.RowKit

theorem octal_named (n : Int) (W : Nat) (h1 : 2 ≤ W) (h2 : W ≤ 20) : ∃ (s : ByteArray) (E : Value), (∀ w : World, Calls Tryz.prog 121 #[.int .i64 n, .int .i64 W] w fun e w' => e = .returned (.tuple #[.string s, E]) ∧ Below w.heap.size w w') ∧
    ((E = .nilIface ∧ ∃ m : Nat, n = m ∧ m ≤ Num.most W ∧ s = ⟨(Num.octal m W).toArray⟩) ∨ ((n < 0 ∨ (Num.most W : Int) < n) ∧ s = ⟨#[]⟩ ∧ E = .iface 63 (.int .i64 2))) := by
  by_cases h : n < 0 ∨ (Num.most W : Int) < n
  · exact ⟨⟨#[]⟩, _, fun w => (octal_range n W w h1 h2 h).mono fun e w' ⟨he, hw⟩ => ⟨he, hw ▸ Below.refl _ _⟩, .inr ⟨h, rfl, rfl⟩⟩
  · obtain ⟨m, rfl⟩ := Int.eq_ofNat_of_zero_le (show 0 ≤ n by omega)
    exact ⟨_, _, fun w => octal_any m W w h1 h2 (by omega), .inl ⟨rfl, m, rfl, by omega, rfl⟩⟩

end Go.Proofs.YtkhkjacnoiopcaaGreatDoor

set_option linter.unusedVariables false
set_option linter.unusedSimpArgs false
namespace Go.Proofs.YtkhkjacnoiopcaaGreatDoor
open Go.RowKit

end Go.Proofs.YtkhkjacnoiopcaaGreatDoor

set_option linter.unusedVariables false
set_option linter.unusedSimpArgs false
namespace Go.Proofs.YtkhkjacnoiopcaaGreatDoor
open Go

def bdigs (n : Int) : Nat → List UInt8
  | 0 => []
  | k + 1 => UInt8.ofNat (n / 256 ^ k % 256).toNat :: bdigs n k

theorem bdigs_get (n : Int) (k : Nat) : bdigs n k = (List.range k).map fun j => UInt8.ofNat (n / 256 ^ (k - 1 - j) % 256).toNat := by
  induction k with
  | zero => rfl
  | succ k ih =>
    rw [bdigs, ih, List.range_succ_eq_map, List.map_cons, List.map_map]
    refine congr (congrArg List.cons (by rw [show k + 1 - 1 - 0 = k by omega])) (List.map_congr_left fun j hj => ?_)
    have hj : j < k := by simpa using hj
    simp only [Function.comp_apply]
    rw [show k + 1 - 1 - (j + 1) = k - 1 - j by omega]

theorem binLaw_cons (n : Int) (k : Nat) : binLaw n (k + 1) = (if n < 0 then 255 else 128) :: bdigs n k := by
  unfold binLaw
  rw [List.range_succ_eq_map, List.map_cons, List.map_map, bdigs_get]
  refine congr (congrArg List.cons ?_) (List.map_congr_left fun j hj => ?_)
  · unfold binFin
    rw [if_pos rfl]
    split <;> rfl
  · have hj : j < k := by simpa using hj
    simp only [Function.comp_apply]
    unfold binFin
    rw [if_neg (by omega), show k + 1 - 1 - (j + 1) = k - 1 - j by omega]

theorem bdig_toNat (x : Int) : ((UInt8.ofNat (x % 256).toNat).toNat : Int) = x % 256 := by
  simp [UInt8.toNat_ofNat']; omega

theorem div_pow_bound (n : Int) (h1 : -9223372036854775808 ≤ n) (h2 : n ≤ 9223372036854775807) (k : Nat) : -36028797018963968 ≤ n / 256 ^ (k + 1) ∧ n / 256 ^ (k + 1) < 36028797018963968 := by
  induction k with
  | zero => constructor <;> (simp; omega)
  | succ k ih =>
    rw [Int.pow_succ, ← Int.ediv_ediv_of_nonneg (Int.pow_nonneg (by decide))]
    generalize n / 256 ^ (k + 1) = y at *
    omega

theorem wideGo_bdigs (n : Int) (h1 : -9223372036854775808 ≤ n) (h2 : n ≤ 9223372036854775807) (k : Nat) : wideGo (bdigs n k) (n / 256 ^ k) = some n := by
  induction k with
  | zero => simp [bdigs, wideGo]
  | succ k ih =>
    have hb := div_pow_bound n h1 h2 k
    rw [bdigs, wideGo, if_neg (by omega), bdig_toNat]
    have e : n / 256 ^ (k + 1) * 256 + n / 256 ^ k % 256 = n / 256 ^ k := by
      rw [Int.pow_succ, ← Int.ediv_ediv_of_nonneg (Int.pow_nonneg (by decide))]
      generalize n / 256 ^ k = y
      omega
    rw [e, ih]

theorem wide_bin (n : Int) (h1 : -9223372036854775808 ≤ n) (h2 : n ≤ 9223372036854775807) (k : Nat) (hk : -256 ^ k ≤ n ∧ n < 256 ^ k) : wide (binLaw n (k + 1)) = some n := by
  rw [binLaw_cons]
  simp only [wide]
  have hp : (0 : Int) < 256 ^ k := Int.pow_pos (by decide)
  by_cases hn : n < 0
  · rw [if_pos hn, if_pos (by decide)]
    have e : n / 256 ^ k = -1 := by
      exact ((Int.ediv_emod_unique hp).2 ⟨(by omega : (n + 256 ^ k) + 256 ^ k * -1 = n), by omega, by omega⟩).1
    rw [← e]; exact wideGo_bdigs n h1 h2 k
  · rw [if_neg hn, if_neg (by decide)]
    have e : n / 256 ^ k = 0 := Int.ediv_eq_zero_of_lt (by omega) hk.2
    have := wideGo_bdigs n h1 h2 k
    rw [e] at this
    exact this

end Go.Proofs.YtkhkjacnoiopcaaGreatDoor

set_option linter.unusedVariables false
set_option linter.unusedSimpArgs false
namespace Go.Proofs.YtkhkjacnoiopcaaGreatDoor
open Go.RowKit

/-- that n is written by the base 256 in W bytes -/
def InBin (n : Int) (W : Nat) : Prop := 8 ≤ W ∧ (n < 0 ∨ (Num.most W : Int) < n) ∧ (W = 8 → -36028797018963968 ≤ n ∧ n ≤ 36028797018963967)

theorem binary_named (n : Int) (W : Nat) (h1 : 8 ≤ W) (h2 : W ≤ 20) (hn1 : -9223372036854775808 ≤ n) (hn2 : n ≤ 9223372036854775807) :
    ∃ (s : ByteArray) (E : Value), (∀ w : World, Calls Tryz.prog 161 #[.int .i64 n, .int .i64 W] w fun e w' => e = .returned (.tuple #[.string s, E]) ∧ Below w.heap.size w w') ∧
      ((E = .nilIface ∧ s = ⟨(binLaw n W).toArray⟩ ∧ (W = 8 → -36028797018963968 ≤ n ∧ n ≤ 36028797018963967)) ∨ (W = 8 ∧ (n < -36028797018963968 ∨ 36028797018963967 < n) ∧ s = ⟨#[]⟩ ∧ E = .iface 63 (.int .i64 2))) := by
  by_cases h8 : W = 8
  · subst h8
    by_cases hr : n < -36028797018963968 ∨ 36028797018963967 < n
    · exact ⟨_, _, fun w => (binary_range n 8 w rfl hr).mono fun e w' ⟨he, hw⟩ => ⟨he, hw ▸ Below.refl _ _⟩, .inr ⟨rfl, hr, rfl, rfl⟩⟩
    · exact ⟨_, _, fun w => binary_eight n w (by omega) (by omega), .inl ⟨rfl, rfl, fun _ => by omega⟩⟩
  · exact ⟨_, _, fun w => binary_long n W w (by omega) h2 hn1 hn2, .inl ⟨rfl, rfl, fun h => absurd h h8⟩⟩

set_option maxRecDepth 100000 in
set_option maxHeartbeats 1000000 in
theorem write_named (n : Int) (W : Nat) (bin : Bool) (h1 : 2 ≤ W) (h2 : W ≤ 20) (hn1 : -9223372036854775808 ≤ n) (hn2 : n ≤ 9223372036854775807) :
    ∃ (s : ByteArray) (E : Value), (∀ w : World, Calls Tryz.prog 131 #[.int .i64 n, .int .i64 W, .bool bin] w fun e w' => e = .returned (.tuple #[.string s, E]) ∧ Below w.heap.size w w') ∧
      ((E = .nilIface ∧ ((∃ m : Nat, n = m ∧ m ≤ Num.most W ∧ s = ⟨(Num.octal m W).toArray⟩) ∨ (InBin n W ∧ bin = true ∧ s = ⟨(binLaw n W).toArray⟩))) ∨
        (E = .iface 63 (.int .i64 2) ∧ (n < 0 ∨ (Num.most W : Int) < n) ∧ (bin = false ∨ W < 8 ∨ (W = 8 ∧ (n < -36028797018963968 ∨ 36028797018963967 < n))))) := by
  obtain ⟨s, E, ms, hs⟩ := octal_named n W h1 h2
  have MS := Lib.hid ms
  clear ms
  have heq := fun w => Lib.run_eql_iface_int (P := Tryz.prog) w (t := 31) (tx := 63) (k := .i64) 2 2 Tryz.underlying31 (by kernel_rfl) Tryz.underlying63
  have heqN : ∀ w, (binOp .eql 31 .nilIface (.iface 63 (.int .i64 2))).run Tryz.prog w = .ok (.bool false) w := fun w => run_eql_iface_nil_left _ _ _ Tryz.underlying31
  rcases hs with ⟨rfl, hm⟩ | ⟨hr, rfl, rfl⟩
  · refine ⟨s, .nilIface, fun w => ?_, .inl ⟨rfl, .inl hm⟩⟩
    go_enter Tryz.func131, Tryz.ntmps131
    go_wp2_with fail
    refine (MS.out _).mono ?_
    rintro e w1 ⟨rfl, h1⟩
    have B1 := Lib.hid h1
    clear h1
    go_wp2_with fail
    go_ret2
    exact ⟨rfl, B1.out⟩
  · by_cases h8 : W < 8
    · have h8' : (W : Int) < 8 := by omega
      refine ⟨⟨#[]⟩, _, fun w => ?_, .inr ⟨rfl, hr, .inr (.inl h8)⟩⟩
      cases bin
      · go_enter Tryz.func131, Tryz.ntmps131
        go_wp2_with fail
        refine (MS.out _).mono ?_
        rintro e w1 ⟨rfl, h1⟩
        have B1 := Lib.hid h1
        clear h1
        go_wp2_with fail
        go_ret2
        exact ⟨rfl, B1.out⟩
      · go_enter Tryz.func131, Tryz.ntmps131
        go_wp2_with fail
        refine (MS.out _).mono ?_
        rintro e w1 ⟨rfl, h1⟩
        have B1 := Lib.hid h1
        clear h1
        go_wp2_with fail
        go_ret2
        exact ⟨rfl, B1.out⟩
    · have h8' : (8 : Int) ≤ W := by omega
      cases bin
      · refine ⟨⟨#[]⟩, _, fun w => ?_, .inr ⟨rfl, hr, .inl rfl⟩⟩
        go_enter Tryz.func131, Tryz.ntmps131
        go_wp2_with fail
        refine (MS.out _).mono ?_
        rintro e w1 ⟨rfl, h1⟩
        have B1 := Lib.hid h1
        clear h1
        go_wp2_with fail
        go_ret2
        exact ⟨rfl, B1.out⟩
      · obtain ⟨t, E2, mt, ht⟩ := binary_named n W (by omega) h2 hn1 hn2
        have MT := Lib.hid mt
        clear mt
        refine ⟨t, E2, fun w => ?_, ?_⟩
        · clear ht hr
          go_enter Tryz.func131, Tryz.ntmps131
          go_wp2_with fail
          refine (MS.out _).mono ?_
          rintro e w1 ⟨rfl, h1⟩
          have B1 := Lib.hid h1
          clear h1
          go_wp2_with fail
          refine (MT.out _).mono ?_
          rintro e w2 ⟨rfl, h2⟩
          have B2 := Lib.hid (thenB B1.out h2)
          clear h2 B1
          go_wp2_with fail
          go_ret2
          exact ⟨rfl, B2.out⟩
        · rcases ht with ⟨rfl, rfl, hh⟩ | ⟨h, h', rfl, rfl⟩
          · exact .inl ⟨rfl, .inr ⟨⟨by omega, hr, hh⟩, rfl, rfl⟩⟩
          · exact .inr ⟨rfl, hr, .inr (.inr ⟨h, h'⟩)⟩

end Go.Proofs.YtkhkjacnoiopcaaGreatDoor

set_option linter.unusedVariables false
set_option linter.unusedSimpArgs false
namespace Go.Proofs.YtkhkjacnoiopcaaGreatDoor

theorem wide_of_bin (n : Int) (W : Nat) (h2 : W ≤ 20) (hn1 : -9223372036854775808 ≤ n) (hn2 : n ≤ 9223372036854775807) (h : InBin n W) : wide (binLaw n W) = some n := by
  obtain ⟨h8, _, hr⟩ := h
  obtain ⟨k, rfl⟩ : ∃ k, W = k + 1 := ⟨W - 1, by omega⟩
  refine wide_bin n hn1 hn2 k ?_
  by_cases hk : k = 7
  · subst hk
    have := hr rfl
    rw [show (256 : Int) ^ 7 = 72057594037927936 from rfl]
    omega
  · have h64 : (256 : Int) ^ 8 ≤ 256 ^ k := by
      have := Nat.pow_le_pow_right (n := 256) (by decide) (show 8 ≤ k by omega)
      exact Int.ofNat_le.2 this
    rw [show (256 : Int) ^ 8 = 18446744073709551616 from rfl] at h64
    omega

theorem bin_head (n : Int) (W : Nat) (h : 1 ≤ W) : ∃ c l, binLaw n W = c :: l ∧ 128 ≤ c.toNat := by
  obtain ⟨k, rfl⟩ : ∃ k, W = k + 1 := ⟨W - 1, by omega⟩
  rw [binLaw_cons]
  exact ⟨_, _, rfl, by split <;> decide⟩

end Go.Proofs.YtkhkjacnoiopcaaGreatDoor

set_option linter.unusedVariables false
set_option linter.unusedSimpArgs false
namespace Go.Proofs.YtkhkjacnoiopcaaGreatDoor
open Go.RowKit

/-- Block g begins with the bytes l, none frozen. -/
def Bytes (w : World) (g : Nat) (l : List UInt8) : Prop := ∀ (j : Nat) (hj : j < l.length), w.cell? ⟨g, j, none⟩ = some (.int .u8 (l[j].toNat : Int)) ∧ w.frozen? ⟨g, j, none⟩ = false

section
variable {w w' : World} {g : Nat} {l : List UInt8}
theorem Bytes.cell (h : Bytes w g l) {j : Nat} (hj : j < l.length) : w.cell? ⟨g, j, none⟩ = some (.int .u8 (l[j].toNat : Int)) := (h j hj).1
theorem Bytes.frozen (h : Bytes w g l) {j : Nat} (hj : j < l.length) : w.frozen? ⟨g, j, none⟩ = false := (h j hj).2
theorem Bytes.drew (h : Bytes w g l) : Bytes w.drew g l := h
theorem Bytes.drewN (h : Bytes w g l) (n : Nat) : Bytes (w.drewN n) g l := h
theorem Bytes.same (h : Bytes w g l) (e : w'.heap[g]? = w.heap[g]?) : Bytes w' g l := fun j hj => by
  obtain ⟨h1, h2⟩ := h j hj
  constructor
  · rw [← h1]; simp [World.cell?, e]
  · rw [← h2]; exact World.frozen?_of_block (a := ⟨g, j, none⟩) e
theorem Bytes.alloc (h : Bytes w g l) (hg : g < w.heap.size) (o : Obj) : Bytes (w.alloc o) g l := h.same (Below.heap_alloc w o g hg)
theorem Bytes.below {B : Nat} (h : Bytes w g l) (hb : Below B w w') (hg : g < B) : Bytes w' g l := h.same (hb.block g hg)
theorem Bytes.far (h : Bytes w g l) {p : Addr} (hp : g ≠ p.block) (u : Value) : Bytes (w.setCell p u) g l := h.same (Below.heap_setCell w p u g hp)
theorem Bytes.set_ (h : Bytes w g l) (i : Nat) (v : UInt8) : Bytes (w.setCell ⟨g, i, none⟩ (.int .u8 (v.toNat : Int))) g (l.set i v) := fun j hj => by
  have hj' : j < l.length := by simpa using hj
  obtain ⟨h1, h2⟩ := h j hj'
  refine ⟨?_, by rw [World.frozen?_setCell]; exact h2⟩
  by_cases e : i = j
  · subst e
    rw [World.cell?_setCell_same _ _ _ h1]
    simp
  · rw [World.cell?_setCell_other _ _ _ _ (fun e2 => e (by cases e2; rfl)), h1, List.getElem_set_ne e]
theorem Bytes.text {P : Program} {src dst e : TypeId} (h : Bytes w g l) (hs : P.underlying src = some (.slice e)) (he : P.underlying e = some (.int .u8)) (hd : P.underlying dst = some .string) (n cap : Nat) (hn : l.length = n) :
    (convert src dst (.slice (some ⟨g, 0, none⟩) n cap)).run P w = .ok (.string ⟨l.toArray⟩) w := by
  subst hn
  refine run_convert_bytes_back w src dst e _ cap l hs he hd fun j hj => ?_
  have hplain : (⟨g, 0, none⟩ : Addr).add j = ⟨g, j, none⟩ := by unfold Addr.add; split <;> simp_all
  rw [hplain]; exact h.cell hj
end

end Go.Proofs.YtkhkjacnoiopcaaGreatDoor

set_option linter.unusedVariables false
set_option linter.unusedSimpArgs false
namespace Go.Proofs.YtkhkjacnoiopcaaGreatDoor
open Go.RowKit

/-- bytes d laid over l from place a on -/
def over (l : List UInt8) (a : Nat) (d : List UInt8) : List UInt8 := l.take a ++ d ++ l.drop (a + d.length)
theorem over_len (l : List UInt8) (a : Nat) (d : List UInt8) (h : a + d.length ≤ l.length) : (over l a d).length = l.length := by
  unfold over; simp only [List.length_append, List.length_take, List.length_drop]; omega
theorem over_get (b : List UInt8) (a : Nat) (d : List UInt8) (h : a + d.length ≤ b.length) (i : Nat) : (over b a d)[i]? = if a ≤ i ∧ i < a + d.length then d[i - a]? else b[i]? := by
  unfold over
  have la : (b.take a).length = a := by rw [List.length_take]; omega
  by_cases h1 : i < a
  · rw [if_neg (by omega), List.append_assoc, List.getElem?_append_left (by omega), List.getElem?_take, if_pos h1]
  · rw [List.append_assoc, List.getElem?_append_right (by omega), la]
    by_cases h2 : i < a + d.length
    · rw [if_pos (by omega), List.getElem?_append_left (by omega)]
    · rw [if_neg (by omega), List.getElem?_append_right (by omega), List.getElem?_drop]
      congr 1; omega

def textCells (t : ByteArray) : List Value := t.data.toList.map fun x => Value.int .u8 (x.toNat : Int)
theorem Bytes.get? {w : World} {g : Nat} {l : List UInt8} (h : Bytes w g l) {j : Nat} {c : UInt8} (hj : l[j]? = some c) : w.cell? ⟨g, j, none⟩ = some (.int .u8 (c.toNat : Int)) := by
  obtain ⟨hlt, e⟩ := List.getElem?_eq_some_iff.1 hj
  rw [← e]; exact h.cell hlt
theorem Bytes.copied {w : World} {g : Nat} {l : List UInt8} (h : Bytes w g l) (a : Nat) (t : ByteArray) (hat : a + t.size ≤ l.length) : Bytes (w.setCells g a (textCells t)) g (over l a t.data.toList) := fun j hj => by
  have hl : t.data.toList.length = t.size := by simp
  have hlen : (textCells t).length = t.size := by simp [textCells]
  have hol := over_len l a t.data.toList (by omega)
  refine ⟨?_, by rw [World.frozen?_setCells]; exact h.frozen (by omega)⟩
  have hg := over_get l a t.data.toList (by omega) j
  rw [List.getElem?_eq_getElem hj] at hg
  by_cases hin : a ≤ j ∧ j < a + t.data.toList.length
  · rw [if_pos hin] at hg
    have hlt : j - a < (textCells t).length := by omega
    have := World.cell?_setCells_in g (textCells t) a w (fun i hi => by rw [h.cell (j := a + i) (by omega)]; rfl) (j - a) hlt
    rw [show a + (j - a) = j by omega] at this
    rw [this]
    congr 1
    have h2 : (textCells t)[j - a]? = (t.data.toList[j - a]?).map fun x => Value.int .u8 (x.toNat : Int) := by simp [textCells]
    rw [List.getElem?_eq_getElem hlt, ← hg] at h2
    exact Option.some.inj h2
  · rw [if_neg hin] at hg
    rw [World.cell?_setCells_out g (textCells t) a w ⟨g, j, none⟩ (fun _ _ => by show j < a ∨ a + (textCells t).length ≤ j; omega)]
    exact h.get? hg.symm
theorem below_setCells {B : Nat} {a w : World} (h : Below B a w) (g : Nat) (hg : B ≤ g) (vs : List Value) : ∀ o, Below B a (w.setCells g o vs) := by
  induction vs generalizing w with
  | nil => intro o; exact h
  | cons v vs ih => intro o; exact ih (h.setCell hg _) (o + 1)
theorem size_setCells (g : Nat) (vs : List Value) : ∀ (w : World) (o : Nat), (w.setCells g o vs).heap.size = w.heap.size := by
  induction vs with
  | nil => intro w o; rfl
  | cons v vs ih => intro w o; rw [World.setCells, ih]; simp [World.setCell]
theorem Bytes.farCells {w : World} {g : Nat} {l : List UInt8} (h : Bytes w g l) {k : Nat} (hk : g ≠ k) (vs : List Value) : ∀ o, Bytes (w.setCells k o vs) g l := by
  induction vs generalizing w with
  | nil => intro o; exact h
  | cons v vs ih => intro o; exact ih (h.far hk _) (o + 1)

end Go.Proofs.YtkhkjacnoiopcaaGreatDoor
