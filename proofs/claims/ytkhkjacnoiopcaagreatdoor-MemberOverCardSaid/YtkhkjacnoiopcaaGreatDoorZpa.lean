/-
  A slice literal of one element of several cells: the new block is just that element's cells.
-/
import Derived.Test.YtkhkjacnoiopcaaGreatDoorZaa
import Derived.OwnWalk
import Derived.Laws.MakeOwn
import Derived.Deep.LoopGhost
import Derived.Lib.UnsafeStr
import Derived.Laws.Bits128
import Derived.Laws.BitsAllLaws
set_option linter.unusedVariables false
set_option linter.unusedSimpArgs false

set_option linter.unusedVariables false
set_option linter.unusedSimpArgs false
namespace Go.Proofs.YtkhkjacnoiopcaaGreatDoor
open Go.RowKit

/-- A row of n cells told by a function. -/
def rowArr (n : Nat) (f : Nat → Value) : Array Value := ((List.range n).map f).toArray
theorem rowArr_size (n : Nat) (f : Nat → Value) : (rowArr n f).size = n := by simp [rowArr]
theorem rowArr_at (n : Nat) (f : Nat → Value) (i : Nat) (h : i < n) : (rowArr n f)[i]? = some (f i) := by simp [rowArr, h]
theorem rowArr_set (n : Nat) (f g : Nat → Value) (i : Nat) (v : Value) (hg : ∀ x, x < n → g x = if x = i then v else f x) : (rowArr n f).setIfInBounds i v = rowArr n g := by
  apply Array.ext_getElem?
  intro j
  rw [Array.getElem?_setIfInBounds]
  by_cases hj : j < n
  · rw [rowArr_at n g j hj, hg j hj, rowArr_size]
    by_cases h : i = j
    · subst h; rw [if_pos rfl, if_pos hj, if_pos rfl]
    · rw [if_neg h, if_neg (fun e => h e.symm), rowArr_at n f j hj]
  · rw [Array.getElem?_eq_none (by rw [rowArr_size]; omega : (rowArr n g).size ≤ j)]
    split
    · rw [if_neg (by rw [rowArr_size]; omega)]
    · rw [Array.getElem?_eq_none (by rw [rowArr_size]; omega)]
theorem rowArr_ext {n : Nat} {f g : Nat → Value} (h : ∀ x, x < n → f x = g x) : rowArr n f = rowArr n g := by
  unfold rowArr; congr 1; exact List.map_congr_left fun x hx => h x (by simpa using hx)
theorem madeCells_one (z : Value) (n : Nat) : madeCells #[z] n = rowArr n (fun _ => z) := by
  apply Array.ext_getElem?
  intro i
  by_cases h : i < n
  · rw [rowArr_at n _ i h]; simp [madeCells, h, Nat.mod_one]
  · rw [Array.getElem?_eq_none (by rw [size_madeCells]; omega), Array.getElem?_eq_none (by rw [rowArr_size]; omega)]

/-- make([]T, n) of one-cell elements, as the walk meets it. -/
theorem run_make_one {P : Program} (t e : TypeId) (z : Value) (bytes : Nat) (ht : P.underlying t = some (.slice e)) (hinfo : (P.info? e).map (fun i => (i.zero, i.size, i.bytes)) = some (some z, 1, bytes)) (hc : z.cells = #[z])
    (n : Nat) (q : Int) (hq : q = n) (hb : n * bytes ≤ 281474976710656) (h63 : n ≤ 9223372036854775807) (w : World) :
    (Instr.makeSlice t (.int .i64 q) (.int .i64 q)).run P w = .ok (.slice (some ⟨w.heap.size, 0, none⟩) n n) (w.alloc (.cells (rowArr n (fun _ => z)) e)) := by
  subst hq
  obtain ⟨i, hi, hz, hs, hby⟩ := info_parts hinfo
  have hr := run_make (P := P) w t e i z ht hi hz .i64 .i64 (n : Int) (n : Int) (by omega) (by omega) (by
    rw [hby, Int.mul_comm, ← Int.natCast_mul]; omega) (by omega)
  rw [hr, hc, hs]
  simp only [Int.toNat_natCast, Nat.mul_one, madeCells_one]

end Go.Proofs.YtkhkjacnoiopcaaGreatDoor

set_option linter.unusedVariables false
set_option linter.unusedSimpArgs false
namespace Go.Proofs.YtkhkjacnoiopcaaGreatDoor
open Go.RowKit

theorem most_any (W : Nat) (w : World) (h1 : 2 ≤ W) (h2 : W ≤ 20) : Calls Tryz.prog 77 #[.int .i64 W] w fun e w' => e = .returned (.int .i64 (Num.most W)) ∧ w' = w := by
  have k1 : (2 : Int) ≤ W := by omega
  have k2 : (W : Int) ≤ 20 := by omega
  go_enter Tryz.func77, Tryz.ntmps77
  go_wp2_with fail
  go_loopg [3, 12] (W - 1) (fun g mv iv wr => ∃ i m : Nat, iv = .int .i64 i ∧ mv = .int .i64 m ∧ i + 1 ≤ W ∧ g + i + 1 = W ∧ Hid (m = 8 ^ i) ∧ wr = w)
  case atStart => exact ⟨0, 1, rfl, rfl, by omega, by omega, rfl, rfl⟩
  case round =>
    obtain ⟨i, m, rfl, rfl, hi, hg, hm, rfl⟩ := hrel
    have Hg := Lib.hid hg
    clear hg
    by_cases hi2 : i + 1 < W
    · have hb := Num.pow_le i (by omega)
      rw [← hm.out] at hb
      have h8 : 8 ^ (i + 1) ≤ 144115188075855872 := Num.pow_le (i + 1) (by omega)
      have hs : m * 8 = 8 ^ (i + 1) := by rw [hm.out, Nat.pow_succ]
      have hb2 : m * 8 ≤ 144115188075855872 := by omega
      have Hs := Lib.hid hs
      clear hs h8
      have hi3 : (i : Int) + 1 < W := by omega
      go_wp2_with fail
      go_roundg (W - (i + 2))
      case measure => have := Hg.out; omega
      case rel => exact ⟨i + 1, m * 8, by go_num, by go_num, by omega, by omega, Hs.out, rfl⟩
    · have he : i + 1 = W := by omega
      have hb := Num.pow_le i (by omega)
      have hp := Num.pow_pos i
      rw [← hm.out] at hb hp
      have hfin : (Num.most W : Int) = (m : Int) - 1 := by
        unfold Num.most
        rw [show W - 1 = i by omega, ← hm.out]; omega
      have Hf := Lib.hid hfin
      have hi3 : (W : Int) ≤ (i : Int) + 1 := by omega
      clear hfin he
      go_wp2_with fail
      go_ret
      exact ⟨by rw [Hf.out]; rfl, rfl⟩

theorem infoU8 : (Tryz.prog.info? 5).map (fun i => (i.zero, i.size, i.bytes)) = some (some (.int .u8 0), 1, 1) := by kernel_rfl

theorem octal_range (n : Int) (W : Nat) (w : World) (h1 : 2 ≤ W) (h2 : W ≤ 20) (h : n < 0 ∨ (Num.most W : Int) < n) :
    Calls Tryz.prog 121 #[.int .i64 n, .int .i64 W] w fun e w' => e = .returned (.tuple #[.string ⟨#[]⟩, .iface 63 (.int .i64 2)]) ∧ w' = w := by
  have k1 : (2 : Int) ≤ W := by omega
  have k2 : (W : Int) ≤ 20 := by omega
  by_cases hn : n < 0
  · clear h
    go_enter Tryz.func121, Tryz.ntmps121
    go_wp2_with fail
    go_ret2
    exact ⟨rfl, rfl⟩
  · have hn2 : (Num.most W : Int) < n := by omega
    clear h
    go_enter Tryz.func121, Tryz.ntmps121
    go_wp2_with fail
    refine (most_any W _ h1 h2).mono ?_
    rintro e w1 ⟨rfl, rfl⟩
    go_wp2_with fail
    go_ret2
    exact ⟨rfl, rfl⟩

/-- cell j of the field behind i rounds -/
def octCell (n W i j : Nat) : Nat := if W ≤ j + i + 1 ∧ j + 1 < W then 48 + n / 8 ^ (W - 2 - j) % 8 else 0
def octRow (n W i : Nat) : Array Value := rowArr W fun j => .int .u8 (octCell n W i j : Nat)
theorem octRow_zero (n W : Nat) : rowArr W (fun _ => Value.int .u8 0) = octRow n W 0 := rowArr_ext fun j _ => by
  have : octCell n W 0 j = 0 := by unfold octCell; rw [if_neg (by omega)]
  rw [this]; rfl
theorem octRow_next {n W i : Nat} {v : Int} (hi : i + 1 < W) (hv : v = (48 + n / 8 ^ i % 8 : Nat)) : (octRow n W i).setIfInBounds (W - 2 - i) (.int .u8 v) = octRow n W (i + 1) := by
  subst hv
  refine rowArr_set W _ _ (W - 2 - i) _ (fun x hx => ?_)
  by_cases h : x = W - 2 - i
  · rw [if_pos h]
    have : octCell n W (i + 1) x = 48 + n / 8 ^ i % 8 := by
      unfold octCell; rw [if_pos (by omega), show W - 2 - x = i by omega]
    rw [this]
  · rw [if_neg h]
    have : octCell n W (i + 1) x = octCell n W i x := by
      unfold octCell
      by_cases h2 : W ≤ x + i + 1 ∧ x + 1 < W
      · rw [if_pos h2, if_pos (by omega)]
      · rw [if_neg h2, if_neg (by omega)]
    rw [this]
theorem octRow_end (n W i : Nat) (h : i + 1 = W) : (octRow n W i).toList = Lib.byteCells (Num.octal n W) := by
  simp only [octRow, rowArr, Num.octal, Lib.byteCells, List.map_map]
  refine List.map_congr_left fun j hj => ?_
  have hj : j < W := by simpa using hj
  have e : octCell n W i j = Num.dig n W j := by
    unfold octCell Num.dig
    by_cases h2 : j + 1 = W
    · rw [if_pos h2, if_neg (by omega)]
    · rw [if_neg h2, if_pos (by omega)]
  have hl := Num.dig_lt n W j
  simp only [Function.comp_apply]
  rw [e]
  congr 1
  simp [UInt8.toNat_ofNat']
  omega

theorem convert_row {P : Program} (w : World) (src dst e t : TypeId) (g cap n : Nat) (l : List UInt8) (cs : Array Value) (hs : P.underlying src = some (.slice e)) (he : P.underlying e = some (.int .u8)) (hd : P.underlying dst = some .string)
    (hl : l.length = n) (hc : cs.toList = Lib.byteCells l) (hb : Blk w g t cs) :
    (convert src dst (.slice (some ⟨g, 0, none⟩) n cap)).run P w = .ok (.string ⟨l.toArray⟩) w := by
  subst hl
  refine run_convert_bytes_back w src dst e _ cap l hs he hd fun j hj => ?_
  have hplain : (⟨g, 0, none⟩ : Addr).add j = ⟨g, j, none⟩ := by unfold Addr.add; split <;> simp_all
  rw [hplain, hb.cell j, ← Array.getElem?_toList, hc]
  simp [Lib.byteCells, List.getElem?_eq_getElem hj]

set_option maxRecDepth 100000 in
set_option maxHeartbeats 1000000 in
theorem octal_any (n W : Nat) (w : World) (h1 : 2 ≤ W) (h2 : W ≤ 20) (h : n ≤ Num.most W) :
    Calls Tryz.prog 121 #[.int .i64 n, .int .i64 W] w fun e w' => e = .returned (.tuple #[.string ⟨(Num.octal n W).toArray⟩, .nilIface]) ∧ Below w.heap.size w w' := by
  have k1 : (2 : Int) ≤ W := by omega
  have k2 : (W : Int) ≤ 20 := by omega
  have k3 : (n : Int) ≤ Num.most W := by omega
  have hmk := run_make_one (P := Tryz.prog) 62 5 (.int .u8 0) 1 Tryz.underlying62 infoU8 rfl W (W : Int) rfl (by omega) (by omega)
  have hmost : Num.most W ≤ 144115188075855872 := by have := Num.pow_le (W - 1) (by omega); unfold Num.most; omega
  have hn : n ≤ 144115188075855872 := by omega
  clear hmost
  go_enter Tryz.func121, Tryz.ntmps121
  go_wp2_with fail
  refine (most_any W _ h1 h2).mono ?_
  rintro e w1 ⟨rfl, rfl⟩
  go_wp2_with fail
  obtain ⟨w2, hw2⟩ : ∃ w2, w2 = w1.alloc (Obj.cells (rowArr W fun _ => Value.int .u8 0) 5) := ⟨_, rfl⟩
  rw [← hw2]
  have hb2 : Blk w2 w1.heap.size 5 (octRow n W 0) := by rw [hw2, octRow_zero n W]; exact Blk.new _ _ _
  have hbl : Below w1.heap.size w1 w2 := by rw [hw2]; exact (Below.refl _ _).alloc (Nat.le_refl _) _
  clear hw2 k3 h
  go_loopg [0, 28] (W - 1) (fun g nv iv wr => ∃ i m : Nat, iv = .int .i64 i ∧ nv = .int .i64 m ∧ i + 1 ≤ W ∧ g + i + 1 = W ∧ Hid (m = n / 8 ^ i) ∧ m ≤ 144115188075855872 ∧ Blk wr w1.heap.size 5 (octRow n W i) ∧ Below w1.heap.size w1 wr)
  case atStart => exact ⟨0, n, rfl, rfl, by omega, by omega, by simp [Hid], hn, hb2, hbl⟩
  case round =>
    obtain ⟨i, m, rfl, rfl, hi, hg, hm, hm2, hB, hbw⟩ := hrel
    clear hb2 hbl
    have Hg := Lib.hid hg
    have HB := Lib.hid hB
    have HW := Lib.hid hbw
    clear hg hbw
    by_cases hi2 : i + 1 < W
    · have cB := (hB.cell (W - 2 - i)).trans (rowArr_at W _ (W - 2 - i) (by omega))
      have fB := hB.frozen (W - 2 - i)
      have hi3 : (i : Int) + 1 < W := by omega
      clear hB
      go_wp2_with fail
      go_roundg (W - (i + 2))
      case measure => have := Hg.out; omega
      case rel =>
        refine ⟨i + 1, m / 8, by go_num, by go_num, by omega, by omega, ?_, by omega, ?_, ?_⟩
        · have := hm.out
          show m / 8 = n / 8 ^ (i + 1)
          rw [this, Nat.pow_succ, Nat.div_div_eq_div_mul]
        · have hx := octRow_next (n := n) (W := W) (i := i) (v := (48 + (m : Int) % 8)) hi2 (by rw [← hm.out]; omega)
          rw [← hx]
          exact HB.out.set_ _ _
        · exact HW.out.setCell (by first | exact Nat.le_refl _ | simp) _
    · have hi3 : (W : Int) ≤ (i : Int) + 1 := by omega
      have hcv := convert_row (P := Tryz.prog) wr 62 9 5 _ w1.heap.size W W (Num.octal n W) (octRow n W i) Tryz.underlying62 Tryz.underlying5 Tryz.underlying9 (by simp [Num.octal]) (octRow_end n W i (by omega)) hB
      clear hB
      go_wp2_with fail
      go_ret2
      exact ⟨rfl, HW.out⟩

end Go.Proofs.YtkhkjacnoiopcaaGreatDoor

set_option linter.unusedVariables false
set_option linter.unusedSimpArgs false
namespace Go.Proofs.YtkhkjacnoiopcaaGreatDoor
open Go.RowKit

theorem i64_or_byte (x y : Int) (hx : x % 256 = 0) (h0 : -9223372036854775808 ≤ x) (h1 : x ≤ 9223372036854775807) (h2 : 0 ≤ y) (h3 : y < 256) : bits .or .i64 x y = x + y := by
  show IntKind.i64.wrap ((BitVec.ofInt 64 x ||| BitVec.ofInt 64 y).toNat : Int) = _
  obtain ⟨b, rfl⟩ := Int.eq_ofNat_of_zero_le h2
  have ea : (BitVec.ofInt 64 x).toNat = 2 ^ 8 * ((x % 18446744073709551616).toNat / 256) := by
    rw [BitVec.toNat_ofInt]; omega
  have eb : (BitVec.ofInt 64 (b : Int)).toNat = b := by
    rw [BitVec.toNat_ofInt]; omega
  rw [BitVec.toNat_or, ea, eb, ← Nat.two_pow_add_eq_or_of_lt (by omega), IntKind.wrap_i64]
  omega

/-- number.wide's loop -/
def wideGo : List UInt8 → Int → Option Int
  | [], n => some n
  | c :: cs, n => if 36028797018963968 ≤ n ∨ n < -36028797018963968 then none else wideGo cs (n * 256 + c.toNat)
def wideAns : Option Int → Value
  | some n => .tuple #[.int .i64 n, .nilIface]
  | none => .tuple #[.int .i64 0, .iface 63 (.int .i64 2)]
def wide (l : List UInt8) : Option Int := match l with
  | [] => none
  | c :: cs => wideGo cs (if c.toNat = 255 then -1 else (c.toNat % 128 : Nat))

theorem drop_at (s : ByteArray) (k : Nat) (h : k < s.size) : s.data.toList.drop k = s[k] :: s.data.toList.drop (k + 1) := by
  have h' : k < s.data.toList.length := by simpa using h
  rw [List.drop_eq_getElem_cons h']; rfl
theorem drop_over (s : ByteArray) (k : Nat) (h : s.size ≤ k) : s.data.toList.drop k = [] := List.drop_of_length_le (by simpa using h)
theorem u8_and127 (c : UInt8) : bits .and .u8 (c.toNat : Int) 127 = ((c.toNat % 128 : Nat) : Int) := by
  rw [u8_and _ _ (by omega) (by have := c.toNat_lt; omega) (by decide) (by decide)]
  have : ((c.toNat : Int).toNat &&& (127 : Int).toNat) = c.toNat % 2 ^ 7 := by
    rw [show (127 : Int).toNat = 2 ^ 7 - 1 by decide, Nat.and_two_pow_sub_one_eq_mod]; rfl
  rw [this]

set_option maxHeartbeats 1000000 in
theorem wide_any (s : ByteArray) (h0 : 0 < s.size) (hs : s.size < 100) (w : World) :
    Calls Tryz.prog 162 #[.string s] w fun e w' => e = .returned (wideAns (wide s.data.toList)) ∧ w' = w := by
  have hc := u8_and127 s[0]
  have hlt := u8_nat_lt s[0]
  obtain ⟨r, hr⟩ : ∃ r, r = wide s.data.toList := ⟨_, rfl⟩
  rw [← hr]
  have hd := drop_at s 0 h0
  rw [List.drop_zero] at hd
  rw [hd] at hr
  clear hd
  have Hr := Lib.hid hr
  clear hr
  by_cases h255 : s[0] = 255
  · have hb : ((s[0].toNat : Int) == 255) = true := u8_eq (d := 255) h255
    go_enter Tryz.func162, Tryz.ntmps162
    go_wp2_with fail
    go_loopg [4, 5] (s.size) (fun g nv iv wr => ∃ (i : Nat) (n : Int), iv = .int .i64 i ∧ nv = .int .i64 n ∧ 1 ≤ i ∧ i ≤ s.size ∧ g + i = s.size + 1 ∧ Hid (r = wideGo (s.data.toList.drop i) n) ∧ wr = w)
    case atStart => exact ⟨1, _, rfl, rfl, by omega, by omega, by omega, by rw [Hr.out]; simp [wide, h255, Hid], rfl⟩
    case round =>
      obtain ⟨i, n, rfl, rfl, hi1, hi2, hg, hR, rfl⟩ := hrel
      have Hg := Lib.hid hg
      clear hg
      by_cases hi : i < s.size
      · have hi3 : (i : Int) < s.size := by omega
        have hbyte := u8_lt s[i]
        have hd := drop_at s i hi
        by_cases hbig : 36028797018963968 ≤ n
        · have hr : r = none := by rw [hR.out, hd, wideGo, if_pos (.inl hbig)]
          have Hr := Lib.hid hr
          clear hr hd
          go_wp2_with fail
          go_ret2
          rw [Hr.out]
          exact ⟨rfl, rfl⟩
        · by_cases hlow : n < -36028797018963968
          · have hr : r = none := by rw [hR.out, hd, wideGo, if_pos (.inr hlow)]
            have Hr := Lib.hid hr
            clear hr hd
            go_wp2_with fail
            go_ret2
            rw [Hr.out]
            exact ⟨rfl, rfl⟩
          · have hr : r = wideGo (s.data.toList.drop (i + 1)) (n * 256 + s[i].toNat) := by rw [hR.out, hd, wideGo, if_neg (by omega)]
            have Hr := Lib.hid hr
            have hor := i64_or_byte (n * 256) (s[i].toNat : Int) (by omega) (by omega) (by omega) (by omega) hbyte
            clear hr hd
            go_wp2_with fail
            go_roundg (s.size - i)
            case measure => have := Hg.out; omega
            case rel => exact ⟨i + 1, n * 256 + s[i].toNat, by go_num, by go_num, by omega, by omega, by omega, Hr.out, rfl⟩
      · have hr : r = some n := by rw [hR.out, drop_over s i (by omega), wideGo]
        have Hr := Lib.hid hr
        have hi3 : (s.size : Int) ≤ i := by omega
        clear hr
        go_wp2_with fail
        go_ret2
        rw [Hr.out]
        exact ⟨rfl, rfl⟩
  · have hb : ((s[0].toNat : Int) == 255) = false := u8_ne (d := 255) h255
    have h255n : ¬ s[0].toNat = 255 := fun h => h255 (UInt8.toNat_inj.1 h)
    go_enter Tryz.func162, Tryz.ntmps162
    go_wp2_with fail
    go_loopg [4, 5] (s.size) (fun g nv iv wr => ∃ (i : Nat) (n : Int), iv = .int .i64 i ∧ nv = .int .i64 n ∧ 1 ≤ i ∧ i ≤ s.size ∧ g + i = s.size + 1 ∧ Hid (r = wideGo (s.data.toList.drop i) n) ∧ wr = w)
    case atStart => exact ⟨1, _, rfl, rfl, by omega, by omega, by omega, by rw [Hr.out]; simp [wide, h255n, Hid], rfl⟩
    case round =>
      obtain ⟨i, n, rfl, rfl, hi1, hi2, hg, hR, rfl⟩ := hrel
      have Hg := Lib.hid hg
      clear hg
      by_cases hi : i < s.size
      · have hi3 : (i : Int) < s.size := by omega
        have hbyte := u8_lt s[i]
        have hd := drop_at s i hi
        by_cases hbig : 36028797018963968 ≤ n
        · have hr : r = none := by rw [hR.out, hd, wideGo, if_pos (.inl hbig)]
          have Hr := Lib.hid hr
          clear hr hd
          go_wp2_with fail
          go_ret2
          rw [Hr.out]
          exact ⟨rfl, rfl⟩
        · by_cases hlow : n < -36028797018963968
          · have hr : r = none := by rw [hR.out, hd, wideGo, if_pos (.inr hlow)]
            have Hr := Lib.hid hr
            clear hr hd
            go_wp2_with fail
            go_ret2
            rw [Hr.out]
            exact ⟨rfl, rfl⟩
          · have hr : r = wideGo (s.data.toList.drop (i + 1)) (n * 256 + s[i].toNat) := by rw [hR.out, hd, wideGo, if_neg (by omega)]
            have Hr := Lib.hid hr
            have hor := i64_or_byte (n * 256) (s[i].toNat : Int) (by omega) (by omega) (by omega) (by omega) hbyte
            clear hr hd
            go_wp2_with fail
            go_roundg (s.size - i)
            case measure => have := Hg.out; omega
            case rel => exact ⟨i + 1, n * 256 + s[i].toNat, by go_num, by go_num, by omega, by omega, by omega, Hr.out, rfl⟩
      · have hr : r = some n := by rw [hR.out, drop_over s i (by omega), wideGo]
        have Hr := Lib.hid hr
        have hi3 : (s.size : Int) ≤ i := by omega
        clear hr
        go_wp2_with fail
        go_ret2
        rw [Hr.out]
        exact ⟨rfl, rfl⟩

end Go.Proofs.YtkhkjacnoiopcaaGreatDoor
