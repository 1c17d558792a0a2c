/-
  Wide fields read back: no walk.
-/
import Derived.Test.YtdhnjbiigpiecaaDoorNumB
import Derived.Test.YtdhnjbiigpiecaaDoorNumC
import Derived.Test.YtdhnjbiigpiecaaDoorNumLaws
namespace Go.Proofs.YtdhnjbiigpiecaaDoor
open Go

def bdigs (n : Int) : Nat → List UInt8
  | 0 => []
  | k + 1 => UInt8.ofNat (n / 256 ^ k % 256).toNat :: bdigs n k

theorem bdigs_get (n : Int) (k : Nat) : bdigs n k = (List.range k).map fun j => UInt8.ofNat (n / 256 ^ (k - 1 - j) % 256).toNat := by
  induction k with
  | zero => rfl
  | succ k ih =>
    rw [bdigs, ih, List.range_succ_eq_map, List.map_cons, List.map_map]
    refine congr (congrArg List.cons (by rw [show k + 1 - 1 - 0 = k by omega])) (List.map_congr_left fun j hj => ?_)
    have hj : j < k := by simpa using hj
    simp only [Function.comp_apply]
    rw [show k + 1 - 1 - (j + 1) = k - 1 - j by omega]

theorem binLaw_cons (n : Int) (k : Nat) : binLaw n (k + 1) = (if n < 0 then 255 else 128) :: bdigs n k := by
  unfold binLaw
  rw [List.range_succ_eq_map, List.map_cons, List.map_map, bdigs_get]
  refine congr (congrArg List.cons ?_) (List.map_congr_left fun j hj => ?_)
  · unfold binFin
    rw [if_pos rfl]
    split <;> rfl
  · have hj : j < k := by simpa using hj
    simp only [Function.comp_apply]
    unfold binFin
    rw [if_neg (by omega), show k + 1 - 1 - (j + 1) = k - 1 - j by omega]

theorem bdig_toNat (x : Int) : ((UInt8.ofNat (x % 256).toNat).toNat : Int) = x % 256 := by
  simp [UInt8.toNat_ofNat']; omega

theorem div_pow_bound (n : Int) (h1 : -9223372036854775808 ≤ n) (h2 : n ≤ 9223372036854775807) (k : Nat) : -36028797018963968 ≤ n / 256 ^ (k + 1) ∧ n / 256 ^ (k + 1) < 36028797018963968 := by
  induction k with
  | zero => constructor <;> (simp; omega)
  | succ k ih =>
    rw [Int.pow_succ, ← Int.ediv_ediv_of_nonneg (Int.pow_nonneg (by decide))] 
    generalize n / 256 ^ (k + 1) = y at *
    omega

theorem wideGo_bdigs (n : Int) (h1 : -9223372036854775808 ≤ n) (h2 : n ≤ 9223372036854775807) (k : Nat) : wideGo (bdigs n k) (n / 256 ^ k) = some n := by
  induction k with
  | zero => simp [bdigs, wideGo]
  | succ k ih =>
    have hb := div_pow_bound n h1 h2 k
    rw [bdigs, wideGo, if_neg (by omega), bdig_toNat]
    have e : n / 256 ^ (k + 1) * 256 + n / 256 ^ k % 256 = n / 256 ^ k := by
      rw [Int.pow_succ, ← Int.ediv_ediv_of_nonneg (Int.pow_nonneg (by decide))]
      generalize n / 256 ^ k = y
      omega
    rw [e, ih]

theorem wide_bin (n : Int) (h1 : -9223372036854775808 ≤ n) (h2 : n ≤ 9223372036854775807) (k : Nat) (hk : -256 ^ k ≤ n ∧ n < 256 ^ k) : wide (binLaw n (k + 1)) = some n := by
  rw [binLaw_cons]
  simp only [wide]
  have hp : (0 : Int) < 256 ^ k := Int.pow_pos (by decide)
  by_cases hn : n < 0
  · rw [if_pos hn, if_pos (by decide)]
    have e : n / 256 ^ k = -1 := by
      exact ((Int.ediv_emod_unique hp).2 ⟨(by omega : (n + 256 ^ k) + 256 ^ k * -1 = n), by omega, by omega⟩).1
    rw [← e]; exact wideGo_bdigs n h1 h2 k
  · rw [if_neg hn, if_neg (by decide)]
    have e : n / 256 ^ k = 0 := Int.ediv_eq_zero_of_lt (by omega) hk.2
    have := wideGo_bdigs n h1 h2 k
    rw [e] at this
    exact this

end Go.Proofs.YtdhnjbiigpiecaaDoor
