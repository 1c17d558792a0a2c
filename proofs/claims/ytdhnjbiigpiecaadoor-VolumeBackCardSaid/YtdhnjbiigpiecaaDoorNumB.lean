/-
  number.Binary.
-/
import Derived.Test.YtdhnjbiigpiecaaDoorNumA
import Derived.Laws.Shifts
namespace Go.Proofs.YtdhnjbiigpiecaaDoor
open Go.RowKit

/-- cell j of the field behind i rounds -/
def binCell (n : Int) (W i j : Nat) : Int := if W ≤ j + i ∧ 1 ≤ j then (n / 256 ^ (W - 1 - j)) % 256 else 0
def binRow (n : Int) (W i : Nat) : Array Value := rowArr W fun j => .int .u8 (binCell n W i j)
theorem binRow_zero (n : Int) (W : Nat) : rowArr W (fun _ => Value.int .u8 0) = binRow n W 0 := rowArr_ext fun j _ => by
  have : binCell n W 0 j = 0 := by unfold binCell; rw [if_neg (by omega)]
  rw [this]

theorem binRow_next {n : Int} {W i : Nat} (hi : i + 1 < W) : (binRow n W i).setIfInBounds (W - 1 - i) (.int .u8 (n / 256 ^ i % 256)) = binRow n W (i + 1) := by
  refine rowArr_set W _ _ (W - 1 - i) _ (fun x hx => ?_)
  by_cases h : x = W - 1 - i
  · rw [if_pos h]
    have : binCell n W (i + 1) x = n / 256 ^ i % 256 := by
      unfold binCell; rw [if_pos (by omega), show W - 1 - x = i by omega]
    rw [this]
  · rw [if_neg h]
    have : binCell n W (i + 1) x = binCell n W i x := by
      unfold binCell
      by_cases h2 : W ≤ x + i ∧ 1 ≤ x
      · rw [if_pos h2, if_pos (by omega)]
      · rw [if_neg h2, if_neg (by omega)]
    rw [this]
def binFin (n : Int) (W j : Nat) : Int := if j = 0 then (if n < 0 then 255 else 128) else (n / 256 ^ (W - 1 - j)) % 256
def binLaw (n : Int) (W : Nat) : List UInt8 := (List.range W).map fun j => UInt8.ofNat (binFin n W j).toNat
theorem binFin_lt (n : Int) (W j : Nat) : 0 ≤ binFin n W j ∧ binFin n W j < 256 := by unfold binFin; split <;> (try split) <;> omega
theorem binRow_end (n : Int) (W i : Nat) (v : Int) (hW : 1 ≤ W) (h : i + 1 = W) (hv : v = if n < 0 then 255 else 128) (cs : Array Value) (hcs : cs = (binRow n W i).setIfInBounds 0 (.int .u8 v)) :
    cs.toList = Lib.byteCells (binLaw n W) := by
  have : cs = rowArr W fun j => .int .u8 (binFin n W j) := by
    rw [hcs]
    refine rowArr_set W _ _ 0 _ (fun x hx => ?_)
    unfold binFin binCell
    by_cases h0 : x = 0
    · rw [if_pos h0, if_pos h0, hv]
    · rw [if_neg h0, if_neg h0, if_pos (by omega)]
  rw [this]
  simp only [rowArr, binLaw, Lib.byteCells, List.map_map]
  refine List.map_congr_left fun j hj => ?_
  have hl := binFin_lt n W j
  simp only [Function.comp_apply]
  congr 1
  simp [UInt8.toNat_ofNat']
  omega
theorem set_twice (cs : Array Value) (i : Nat) (u v : Value) : (cs.setIfInBounds i u).setIfInBounds i v = cs.setIfInBounds i v := by
  simp

theorem div_big (n : Int) (hn1 : -9223372036854775808 ≤ n) (hn2 : n ≤ 9223372036854775807) (m : Int) (hm : 9223372036854775808 ≤ m) : n / m = if n < 0 then -1 else 0 := by
  split
  · exact (Int.ediv_emod_unique (by omega)).2 ⟨(by omega : (n + m) + m * -1 = n), by omega, by omega⟩ |>.1
  · exact Int.ediv_eq_zero_of_lt (by omega) (by omega)

theorem shr_bytes (n : Int) (hn1 : -9223372036854775808 ≤ n) (hn2 : n ≤ 9223372036854775807) (i : Nat) : Op.shift .shr .i64 n .i64 (8 * (i : Int)) = pure (.int .i64 (n / 256 ^ i)) := by
  rw [shift_shr_any _ _ _ _ (by omega)]
  have e : (8 * (i : Int)).toNat = 8 * i := by omega
  have e2 : (256 : Int) ^ i = 2 ^ (8 * i) := by rw [show (256 : Int) = 2 ^ 8 by rfl, ← Int.pow_mul]
  rw [e, e2]
  have eb : IntKind.i64.bits = 64 := rfl
  rw [eb]
  rcases Nat.le_total (8 * i) 64 with h | h
  · rw [Nat.min_eq_left h]
  · rw [Nat.min_eq_right h]
    have h1 : (2 : Int) ^ 64 ≤ 2 ^ (8 * i) := by
      have := Nat.pow_le_pow_right (n := 2) (by omega) h
      exact_mod_cast this
    rw [div_big n hn1 hn2 (2 ^ 64) (by decide), div_big n hn1 hn2 (2 ^ (8 * i)) (by
      have : (9223372036854775808 : Int) ≤ 2 ^ 64 := by decide
      omega)]

set_option maxRecDepth 100000 in
set_option maxHeartbeats 1000000 in
theorem binary_long (n : Int) (W : Nat) (w : World) (h1 : 9 ≤ W) (h2 : W ≤ 20) (hn1 : -9223372036854775808 ≤ n) (hn2 : n ≤ 9223372036854775807) :
    Calls Tryd.prog 45 #[.int .i64 n, .int .i64 W] w fun e w' => e = .returned (.tuple #[.string ⟨(binLaw n W).toArray⟩, .nilIface]) ∧ Below w.heap.size w w' := by
  have k1 : (9 : Int) ≤ W := by omega
  have k2 : (W : Int) ≤ 20 := by omega
  have hmk := run_make_one (P := Tryd.prog) 29 5 (.int .u8 0) 1 Tryd.underlying29 infoU8 rfl W (W : Int) rfl (by omega) (by omega)
  go_enter Tryd.func45, Tryd.ntmps45
  go_wp2_with fail
  obtain ⟨w2, hw2⟩ : ∃ w2, w2 = w.alloc (Obj.cells (rowArr W fun _ => Value.int .u8 0) 5) := ⟨_, rfl⟩
  rw [← hw2]
  have hb2 : Blk w2 w.heap.size 5 (binRow n W 0) := by rw [hw2, ← binRow_zero n W]; exact Blk.new _ _ _
  have hbl : Below w.heap.size w w2 := by rw [hw2]; exact (Below.refl _ _).alloc (Nat.le_refl _) _
  clear hw2
  go_loopg [30] (W - 1) (fun g iv wr => ∃ i : Nat, iv = .int .i64 i ∧ i + 1 ≤ W ∧ g + i + 1 = W ∧ Blk wr w.heap.size 5 (binRow n W i) ∧ Below w.heap.size w wr)
  case atStart => exact ⟨0, rfl, by omega, by omega, hb2, hbl⟩
  case round =>
    obtain ⟨i, rfl, hi, hg, hB, hbw⟩ := hrel
    clear hb2 hbl
    have Hg := Lib.hid hg
    have HB := Lib.hid hB
    have HW := Lib.hid hbw
    clear hg hbw
    by_cases hi2 : i + 1 < W
    · have cB := (hB.cell (W - 1 - i)).trans (rowArr_at W _ (W - 1 - i) (by omega))
      have fB := hB.frozen (W - 1 - i)
      have hi3 : (i : Int) + 1 < W := by omega
      have hsh := fun w : World => congrArg (fun m => Sem.run Tryd.prog m w) (shr_bytes n hn1 hn2 i)
      clear hB
      go_wp2_with fail
      go_roundg (W - (i + 2))
      case measure => have := Hg.out; omega
      case rel =>
        refine ⟨i + 1, by go_num, by omega, by omega, ?_, ?_⟩
        · rw [← binRow_next (n := n) hi2]
          exact HB.out.set_ _ _
        · exact HW.out.setCell (by first | exact Nat.le_refl _ | simp) _
    · have hi3 : (W : Int) ≤ (i : Int) + 1 := by omega
      have c0 := (hB.cell 0).trans (rowArr_at W _ 0 (by omega))
      have f0 := hB.frozen 0
      have B1 := hB.set_ 0 (.int .u8 128)
      have B2 := B1.set_ 0 (.int .u8 255)
      rw [set_twice] at B2
      have c1 : (wr.setCell ⟨w.heap.size, 0, none⟩ (.int .u8 128)).cell? ⟨w.heap.size, 0, none⟩ = some (.int .u8 128) := by
        rw [B1.cell 0]; exact Array.getElem?_setIfInBounds_self_of_lt (by simp [binRow, rowArr]; omega)
      have f1 := B1.frozen 0
      have hw1 : Below w.heap.size w (wr.setCell ⟨w.heap.size, 0, none⟩ (.int .u8 128)) := HW.out.setCell (by first | exact Nat.le_refl _ | simp) _
      have hw2 := hw1.setCell (p := ⟨w.heap.size, 0, none⟩) (by first | exact Nat.le_refl _ | simp) (.int .u8 255)
      by_cases hn0 : n < 0
      · have hcv := convert_row (P := Tryd.prog) _ 29 9 5 _ w.heap.size W W (binLaw n W) _ Tryd.underlying29 Tryd.underlying5 Tryd.underlying9 (by simp [binLaw]) (binRow_end n W i 255 (by omega) (by omega) (by rw [if_pos hn0]) _ rfl) B2
        clear hB B1 B2 hw1
        have HW2 := Lib.hid hw2
        clear hw2
        go_wp2_with fail
        go_ret2
        exact ⟨rfl, HW2.out⟩
      · have hcv := convert_row (P := Tryd.prog) _ 29 9 5 _ w.heap.size W W (binLaw n W) _ Tryd.underlying29 Tryd.underlying5 Tryd.underlying9 (by simp [binLaw]) (binRow_end n W i 128 (by omega) (by omega) (by rw [if_neg hn0]) _ rfl) B1
        clear hB B1 B2 hw2
        have HW1 := Lib.hid hw1
        clear hw1
        go_wp2_with fail
        go_ret2
        exact ⟨rfl, HW1.out⟩

set_option maxRecDepth 100000 in
set_option maxHeartbeats 1000000 in
theorem binary_eight (n : Int) (w : World) (r1 : -36028797018963968 ≤ n) (r2 : n ≤ 36028797018963967) :
    Calls Tryd.prog 45 #[.int .i64 n, .int .i64 8] w fun e w' => e = .returned (.tuple #[.string ⟨(binLaw n 8).toArray⟩, .nilIface]) ∧ Below w.heap.size w w' := by
  have hn1 : -9223372036854775808 ≤ n := by omega
  have hn2 : n ≤ 9223372036854775807 := by omega
  have hmk := run_make_one (P := Tryd.prog) 29 5 (.int .u8 0) 1 Tryd.underlying29 infoU8 rfl 8 (8 : Int) rfl (by omega) (by omega)
  go_enter Tryd.func45, Tryd.ntmps45
  go_wp2_with fail
  obtain ⟨w2, hw2⟩ : ∃ w2, w2 = w.alloc (Obj.cells (rowArr 8 fun _ => Value.int .u8 0) 5) := ⟨_, rfl⟩
  rw [← hw2]
  have hb2 : Blk w2 w.heap.size 5 (binRow n 8 0) := by rw [hw2, ← binRow_zero n 8]; exact Blk.new _ _ _
  have hbl : Below w.heap.size w w2 := by rw [hw2]; exact (Below.refl _ _).alloc (Nat.le_refl _) _
  clear hw2
  go_loopg [30] 7 (fun g iv wr => ∃ i : Nat, iv = .int .i64 i ∧ i + 1 ≤ 8 ∧ g + i + 1 = 8 ∧ Blk wr w.heap.size 5 (binRow n 8 i) ∧ Below w.heap.size w wr)
  case atStart => exact ⟨0, rfl, by omega, by omega, hb2, hbl⟩
  case round =>
    obtain ⟨i, rfl, hi, hg, hB, hbw⟩ := hrel
    clear hb2 hbl
    have Hg := Lib.hid hg
    have HB := Lib.hid hB
    have HW := Lib.hid hbw
    clear hg hbw
    by_cases hi2 : i + 1 < 8
    · have cB := (hB.cell (7 - i)).trans (rowArr_at 8 _ (7 - i) (by omega))
      have fB := hB.frozen (7 - i)
      have hi3 : (i : Int) < 7 := by omega
      have hsh := fun w : World => congrArg (fun m => Sem.run Tryd.prog m w) (shr_bytes n hn1 hn2 i)
      clear hB
      go_wp2_with fail
      go_roundg (8 - (i + 2))
      case measure => have := Hg.out; omega
      case rel =>
        refine ⟨i + 1, by go_num, by omega, by omega, ?_, ?_⟩
        · rw [show (2 : Int) ^ (8 * i) = 256 ^ i by rw [show (256 : Int) = 2 ^ 8 by rfl, ← Int.pow_mul], ← binRow_next (n := n) hi2]
          exact HB.out.set_ _ _
        · exact HW.out.setCell (by first | exact Nat.le_refl _ | simp) _
    · have hi3 : (7 : Int) ≤ (i : Int) := by omega
      have c0 := (hB.cell 0).trans (rowArr_at 8 _ 0 (by omega))
      have f0 := hB.frozen 0
      have B1 := hB.set_ 0 (.int .u8 128)
      have B2 := B1.set_ 0 (.int .u8 255)
      rw [set_twice] at B2
      have c1 : (wr.setCell ⟨w.heap.size, 0, none⟩ (.int .u8 128)).cell? ⟨w.heap.size, 0, none⟩ = some (.int .u8 128) := by
        rw [B1.cell 0]; exact Array.getElem?_setIfInBounds_self_of_lt (by simp [binRow, rowArr])
      have f1 := B1.frozen 0
      have hw1 : Below w.heap.size w (wr.setCell ⟨w.heap.size, 0, none⟩ (.int .u8 128)) := HW.out.setCell (by first | exact Nat.le_refl _ | simp) _
      have hw2 := hw1.setCell (p := ⟨w.heap.size, 0, none⟩) (by first | exact Nat.le_refl _ | simp) (.int .u8 255)
      by_cases hn0 : n < 0
      · have hcv := convert_row (P := Tryd.prog) _ 29 9 5 _ w.heap.size 8 8 (binLaw n 8) _ Tryd.underlying29 Tryd.underlying5 Tryd.underlying9 (by simp [binLaw]) (binRow_end n 8 i 255 (by omega) (by omega) (by rw [if_pos hn0]) _ rfl) B2
        clear hB B1 B2 hw1
        have HW2 := Lib.hid hw2
        clear hw2
        go_wp2_with fail
        go_ret2
        exact ⟨rfl, HW2.out⟩
      · have hcv := convert_row (P := Tryd.prog) _ 29 9 5 _ w.heap.size 8 8 (binLaw n 8) _ Tryd.underlying29 Tryd.underlying5 Tryd.underlying9 (by simp [binLaw]) (binRow_end n 8 i 128 (by omega) (by omega) (by rw [if_neg hn0]) _ rfl) B1
        clear hB B1 B2 hw2
        have HW1 := Lib.hid hw1
        clear hw1
        go_wp2_with fail
        go_ret2
        exact ⟨rfl, HW1.out⟩


theorem binary_arg (n W : Int) (w : World) (h : W < 8 ∨ 20 < W) : Calls Tryd.prog 45 #[.int .i64 n, .int .i64 W] w fun e w' => e = .returned (.tuple #[.string ⟨#[]⟩, .iface 32 (.int .i64 1)]) ∧ w' = w := by
  rcases h with h | h
  · go_enter Tryd.func45, Tryd.ntmps45
    go_wp2_with fail
    go_ret2
    exact ⟨rfl, rfl⟩
  · have h2 : ¬ W < 8 := by omega
    go_enter Tryd.func45, Tryd.ntmps45
    go_wp2_with fail
    go_ret2
    exact ⟨rfl, rfl⟩

theorem binary_range (n W : Int) (w : World) (k8 : W = 8) (h : n < -36028797018963968 ∨ 36028797018963967 < n) : Calls Tryd.prog 45 #[.int .i64 n, .int .i64 W] w fun e w' => e = .returned (.tuple #[.string ⟨#[]⟩, .iface 32 (.int .i64 2)]) ∧ w' = w := by
  rcases h with h | h
  · go_enter Tryd.func45, Tryd.ntmps45
    go_wp2_with fail
    go_ret2
    exact ⟨rfl, rfl⟩
  · have h2 : ¬ n < -36028797018963968 := by omega
    go_enter Tryd.func45, Tryd.ntmps45
    go_wp2_with fail
    go_ret2
    exact ⟨rfl, rfl⟩

end Go.Proofs.YtdhnjbiigpiecaaDoor
