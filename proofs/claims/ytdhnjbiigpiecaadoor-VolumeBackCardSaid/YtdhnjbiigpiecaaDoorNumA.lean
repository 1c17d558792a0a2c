/-
  number.Most and number.Octal.
-/
import Derived.Test.YtdhnjbiigpiecaaDoorBase
import Derived.Test.YtdhnjbiigpiecaaDoorSlices
import Derived.Test.YtdhnjbiigpiecaaDoorNumPlain
import Derived.Deep.LoopGhost
import Derived.Lib.UnsafeStr
namespace Go.Proofs.YtdhnjbiigpiecaaDoor
open Go.RowKit

theorem most_bad (n : Int) (w : World) (h : n < 2 ∨ 20 < n) : Calls Tryd.prog 57 #[.int .i64 n] w fun e w' => e = .returned (.int .i64 0) ∧ w' = w := by
  rcases h with h | h
  · go_enter Tryd.func57, Tryd.ntmps57
    go_wp2_with fail
    go_ret
    exact ⟨rfl, rfl⟩
  · have h2 : ¬ n < 2 := by omega
    go_enter Tryd.func57, Tryd.ntmps57
    go_wp2_with fail
    go_ret
    exact ⟨rfl, rfl⟩

theorem most_any (W : Nat) (w : World) (h1 : 2 ≤ W) (h2 : W ≤ 20) : Calls Tryd.prog 57 #[.int .i64 W] w fun e w' => e = .returned (.int .i64 (Num.most W)) ∧ w' = w := by
  have k1 : (2 : Int) ≤ W := by omega
  have k2 : (W : Int) ≤ 20 := by omega
  go_enter Tryd.func57, Tryd.ntmps57
  go_wp2_with fail
  go_loopg [3, 12] (W - 1) (fun g mv iv wr => ∃ i m : Nat, iv = .int .i64 i ∧ mv = .int .i64 m ∧ i + 1 ≤ W ∧ g + i + 1 = W ∧ Hid (m = 8 ^ i) ∧ wr = w)
  case atStart => exact ⟨0, 1, rfl, rfl, by omega, by omega, rfl, rfl⟩
  case round =>
    obtain ⟨i, m, rfl, rfl, hi, hg, hm, rfl⟩ := hrel
    have Hg := Lib.hid hg
    clear hg
    by_cases hi2 : i + 1 < W
    · have hb := Num.pow_le i (by omega)
      rw [← hm.out] at hb
      have h8 : 8 ^ (i + 1) ≤ 144115188075855872 := Num.pow_le (i + 1) (by omega)
      have hs : m * 8 = 8 ^ (i + 1) := by rw [hm.out, Nat.pow_succ]
      have hb2 : m * 8 ≤ 144115188075855872 := by omega
      have Hs := Lib.hid hs
      clear hs h8
      have hi3 : (i : Int) + 1 < W := by omega
      go_wp2_with fail
      go_roundg (W - (i + 2))
      case measure => have := Hg.out; omega
      case rel => exact ⟨i + 1, m * 8, by go_num, by go_num, by omega, by omega, Hs.out, rfl⟩
    · have he : i + 1 = W := by omega
      have hb := Num.pow_le i (by omega)
      have hp := Num.pow_pos i
      rw [← hm.out] at hb hp
      have hfin : (Num.most W : Int) = (m : Int) - 1 := by
        unfold Num.most
        rw [show W - 1 = i by omega, ← hm.out]; omega
      have Hf := Lib.hid hfin
      have hi3 : (W : Int) ≤ (i : Int) + 1 := by omega
      clear hfin he
      go_wp2_with fail
      go_ret
      exact ⟨by rw [Hf.out]; rfl, rfl⟩

theorem infoU8 : (Tryd.prog.info? 5).map (fun i => (i.zero, i.size, i.bytes)) = some (some (.int .u8 0), 1, 1) := by kernel_rfl

theorem octal_arg (n W : Int) (w : World) (h : W < 2 ∨ 20 < W) : Calls Tryd.prog 44 #[.int .i64 n, .int .i64 W] w fun e w' => e = .returned (.tuple #[.string ⟨#[]⟩, .iface 32 (.int .i64 1)]) ∧ w' = w := by
  rcases h with h | h
  · go_enter Tryd.func44, Tryd.ntmps44
    go_wp2_with fail
    go_ret2
    exact ⟨rfl, rfl⟩
  · have h2 : ¬ W < 2 := by omega
    go_enter Tryd.func44, Tryd.ntmps44
    go_wp2_with fail
    go_ret2
    exact ⟨rfl, rfl⟩

theorem octal_range (n : Int) (W : Nat) (w : World) (h1 : 2 ≤ W) (h2 : W ≤ 20) (h : n < 0 ∨ (Num.most W : Int) < n) :
    Calls Tryd.prog 44 #[.int .i64 n, .int .i64 W] w fun e w' => e = .returned (.tuple #[.string ⟨#[]⟩, .iface 32 (.int .i64 2)]) ∧ w' = w := by
  have k1 : (2 : Int) ≤ W := by omega
  have k2 : (W : Int) ≤ 20 := by omega
  by_cases hn : n < 0
  · clear h
    go_enter Tryd.func44, Tryd.ntmps44
    go_wp2_with fail
    go_ret2
    exact ⟨rfl, rfl⟩
  · have hn2 : (Num.most W : Int) < n := by omega
    clear h
    go_enter Tryd.func44, Tryd.ntmps44
    go_wp2_with fail
    refine (most_any W _ h1 h2).mono ?_
    rintro e w1 ⟨rfl, rfl⟩
    go_wp2_with fail
    go_ret2
    exact ⟨rfl, rfl⟩

/-- cell j of the field behind i rounds -/
def octCell (n W i j : Nat) : Nat := if W ≤ j + i + 1 ∧ j + 1 < W then 48 + n / 8 ^ (W - 2 - j) % 8 else 0
def octRow (n W i : Nat) : Array Value := rowArr W fun j => .int .u8 (octCell n W i j : Nat)
theorem octRow_zero (n W : Nat) : rowArr W (fun _ => Value.int .u8 0) = octRow n W 0 := rowArr_ext fun j _ => by
  have : octCell n W 0 j = 0 := by unfold octCell; rw [if_neg (by omega)]
  rw [this]; rfl
theorem octRow_next {n W i : Nat} {v : Int} (hi : i + 1 < W) (hv : v = (48 + n / 8 ^ i % 8 : Nat)) : (octRow n W i).setIfInBounds (W - 2 - i) (.int .u8 v) = octRow n W (i + 1) := by
  subst hv
  refine rowArr_set W _ _ (W - 2 - i) _ (fun x hx => ?_)
  by_cases h : x = W - 2 - i
  · rw [if_pos h]
    have : octCell n W (i + 1) x = 48 + n / 8 ^ i % 8 := by
      unfold octCell; rw [if_pos (by omega), show W - 2 - x = i by omega]
    rw [this]
  · rw [if_neg h]
    have : octCell n W (i + 1) x = octCell n W i x := by
      unfold octCell
      by_cases h2 : W ≤ x + i + 1 ∧ x + 1 < W
      · rw [if_pos h2, if_pos (by omega)]
      · rw [if_neg h2, if_neg (by omega)]
    rw [this]
theorem octRow_end (n W i : Nat) (h : i + 1 = W) : (octRow n W i).toList = Lib.byteCells (Num.octal n W) := by
  simp only [octRow, rowArr, Num.octal, Lib.byteCells, List.map_map]
  refine List.map_congr_left fun j hj => ?_
  have hj : j < W := by simpa using hj
  have e : octCell n W i j = Num.dig n W j := by
    unfold octCell Num.dig
    by_cases h2 : j + 1 = W
    · rw [if_pos h2, if_neg (by omega)]
    · rw [if_neg h2, if_pos (by omega)]
  have hl := Num.dig_lt n W j
  simp only [Function.comp_apply]
  rw [e]
  congr 1
  simp [UInt8.toNat_ofNat']
  omega

theorem convert_row {P : Program} (w : World) (src dst e t : TypeId) (g cap n : Nat) (l : List UInt8) (cs : Array Value) (hs : P.underlying src = some (.slice e)) (he : P.underlying e = some (.int .u8)) (hd : P.underlying dst = some .string)
    (hl : l.length = n) (hc : cs.toList = Lib.byteCells l) (hb : Blk w g t cs) :
    (convert src dst (.slice (some ⟨g, 0, none⟩) n cap)).run P w = .ok (.string ⟨l.toArray⟩) w := by
  subst hl
  refine run_convert_bytes_back w src dst e _ cap l hs he hd fun j hj => ?_
  have hplain : (⟨g, 0, none⟩ : Addr).add j = ⟨g, j, none⟩ := by unfold Addr.add; split <;> simp_all
  rw [hplain, hb.cell j, ← Array.getElem?_toList, hc]
  simp [Lib.byteCells, List.getElem?_eq_getElem hj]

set_option maxRecDepth 100000 in
set_option maxHeartbeats 1000000 in
theorem octal_any (n W : Nat) (w : World) (h1 : 2 ≤ W) (h2 : W ≤ 20) (h : n ≤ Num.most W) :
    Calls Tryd.prog 44 #[.int .i64 n, .int .i64 W] w fun e w' => e = .returned (.tuple #[.string ⟨(Num.octal n W).toArray⟩, .nilIface]) ∧ Below w.heap.size w w' := by
  have k1 : (2 : Int) ≤ W := by omega
  have k2 : (W : Int) ≤ 20 := by omega
  have k3 : (n : Int) ≤ Num.most W := by omega
  have hmk := run_make_one (P := Tryd.prog) 29 5 (.int .u8 0) 1 Tryd.underlying29 infoU8 rfl W (W : Int) rfl (by omega) (by omega)
  have hmost : Num.most W ≤ 144115188075855872 := by have := Num.pow_le (W - 1) (by omega); unfold Num.most; omega
  have hn : n ≤ 144115188075855872 := by omega
  clear hmost
  go_enter Tryd.func44, Tryd.ntmps44
  go_wp2_with fail
  refine (most_any W _ h1 h2).mono ?_
  rintro e w1 ⟨rfl, rfl⟩
  go_wp2_with fail
  obtain ⟨w2, hw2⟩ : ∃ w2, w2 = w1.alloc (Obj.cells (rowArr W fun _ => Value.int .u8 0) 5) := ⟨_, rfl⟩
  rw [← hw2]
  have hb2 : Blk w2 w1.heap.size 5 (octRow n W 0) := by rw [hw2, octRow_zero n W]; exact Blk.new _ _ _
  have hbl : Below w1.heap.size w1 w2 := by rw [hw2]; exact (Below.refl _ _).alloc (Nat.le_refl _) _
  clear hw2 k3 h
  go_loopg [0, 28] (W - 1) (fun g nv iv wr => ∃ i m : Nat, iv = .int .i64 i ∧ nv = .int .i64 m ∧ i + 1 ≤ W ∧ g + i + 1 = W ∧ Hid (m = n / 8 ^ i) ∧ m ≤ 144115188075855872 ∧ Blk wr w1.heap.size 5 (octRow n W i) ∧ Below w1.heap.size w1 wr)
  case atStart => exact ⟨0, n, rfl, rfl, by omega, by omega, by simp [Hid], hn, hb2, hbl⟩
  case round =>
    obtain ⟨i, m, rfl, rfl, hi, hg, hm, hm2, hB, hbw⟩ := hrel
    clear hb2 hbl
    have Hg := Lib.hid hg
    have HB := Lib.hid hB
    have HW := Lib.hid hbw
    clear hg hbw
    by_cases hi2 : i + 1 < W
    · have cB := (hB.cell (W - 2 - i)).trans (rowArr_at W _ (W - 2 - i) (by omega))
      have fB := hB.frozen (W - 2 - i)
      have hi3 : (i : Int) + 1 < W := by omega
      clear hB
      go_wp2_with fail
      go_roundg (W - (i + 2))
      case measure => have := Hg.out; omega
      case rel =>
        refine ⟨i + 1, m / 8, by go_num, by go_num, by omega, by omega, ?_, by omega, ?_, ?_⟩
        · have := hm.out
          show m / 8 = n / 8 ^ (i + 1)
          rw [this, Nat.pow_succ, Nat.div_div_eq_div_mul]
        · have hx := octRow_next (n := n) (W := W) (i := i) (v := (48 + (m : Int) % 8)) hi2 (by rw [← hm.out]; omega)
          rw [← hx]
          exact HB.out.set_ _ _
        · exact HW.out.setCell (by first | exact Nat.le_refl _ | simp) _
    · have hi3 : (W : Int) ≤ (i : Int) + 1 := by omega
      have hcv := convert_row (P := Tryd.prog) wr 29 9 5 _ w1.heap.size W W (Num.octal n W) (octRow n W i) Tryd.underlying29 Tryd.underlying5 Tryd.underlying9 (by simp [Num.octal]) (octRow_end n W i (by omega)) hB
      clear hB
      go_wp2_with fail
      go_ret2
      exact ⟨rfl, HW.out⟩

end Go.Proofs.YtdhnjbiigpiecaaDoor
