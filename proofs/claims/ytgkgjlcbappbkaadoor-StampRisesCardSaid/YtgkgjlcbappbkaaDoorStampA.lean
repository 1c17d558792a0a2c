/-
  stamp.civil and stamp.Date.
-/
import Derived.Test.YtgkgjlcbappbkaaDoorCalPlain2
import Derived.RegionTactic
namespace Go.Proofs.YtgkgjlcbappbkaaDoor
open Go.RowKit

theorem civ_facts (n : Int) : ∃ (i y d k t : Nat) (e : Int), Cal.era n = e ∧ Cal.plc n = i ∧ i < 146097 ∧ y < 400 ∧ d ≤ 365 ∧ k ≤ 11 ∧ 1 ≤ t ∧ t ≤ 31 ∧ n + 719468 = e * 146097 + i ∧
    ((i : Int) - (i : Int) / 1460 + (i : Int) / 36524 - (i : Int) / 146096) / 365 = y ∧ (i : Int) - (365 * (y : Int) + (y : Int) / 4 - (y : Int) / 100) = d ∧ (5 * (d : Int) + 2) / 153 = k ∧ (d : Int) - (153 * (k : Int) + 2) / 5 + 1 = t ∧
    Cal.yz n = (if k < 10 then (y : Int) else y + 1) + 400 * e ∧ Cal.mz n = (if k < 10 then k + 3 else k - 9) ∧ Cal.dz n = t := by
  have hl := Cal.plc_lt n
  obtain ⟨y, d, hy, e1, hd, e2, e3, e4⟩ := Cal.civ_at hl
  have hL := Cal.lp_le (y + 1)
  obtain ⟨m1, m2, m3⟩ := Cal.month_le _ d hL hd
  have hf := Cal.f_split y (by omega)
  have hk : 153 * Cal.mo d ≤ 5 * d + 2 := by unfold Cal.mo; omega
  refine ⟨Cal.plc n, y, d, Cal.mo d, Cal.da d, Cal.era n, rfl, rfl, hl, hy, by omega, m1, m2, m3, ?_, ?_, ?_, ?_, ?_, ?_, ?_, ?_⟩
  · have := Cal.plc_eq n; unfold Cal.era; omega
  · rw [← e1]; unfold Cal.yr Cal.g; omega
  · omega
  · unfold Cal.mo; omega
  · unfold Cal.da; omega
  · unfold Cal.yz; rw [e4]; unfold Cal.ymd; split <;> simp
  · unfold Cal.mz; rw [e4]; unfold Cal.ymd; split <;> simp
  · unfold Cal.dz; rw [e4]; unfold Cal.ymd; split <;> simp

set_option maxRecDepth 100000 in
set_option maxHeartbeats 2000000 in
theorem civil_any (n : Int) (h1 : -14000000 ≤ n) (h2 : n ≤ 14000000) (w : World) :
    Calls Tryd.prog 25 #[.int .i64 n] w fun e w' => e = .returned (.tuple #[.int .i64 (Cal.yz n), .int .i64 (Cal.mz n : Int), .int .i64 (Cal.dz n : Int)]) ∧ w' = w := by
  obtain ⟨i, y, d, k, t, e, _, _, hi, hy, hd, hk, ht1, ht2, hn, f1, f2, f3, f4, r1, r2, r3⟩ := civ_facts n
  rw [r1, r2, r3]
  have he1 : -200 ≤ e := by omega
  have he2 : e ≤ 200 := by omega
  have f0 : n + 719468 - e * 146097 = (i : Int) := by omega
  have hways : (0 ≤ n + 719468 ∧ (n + 719468) / 146097 = e ∧ (n + 719468).tdiv 146097 = e ∧ ¬ (n + 719468) % 146097 < 0 ∧ ¬ (n + 719468).tmod 146097 < 0) ∨ (n + 719468 < 0 ∧ (n + 719468).tdiv 146097 = e ∧ ¬ (n + 719468).tmod 146097 < 0) ∨ (n + 719468 < 0 ∧ (n + 719468).tdiv 146097 = e + 1 ∧ (n + 719468).tmod 146097 < 0) := by
    rcases Int.lt_or_le (n + 719468) 0 with hneg | hpos
    · right
      have a1 : (n + 719468).tdiv 146097 = -((-(n + 719468)) / 146097) := by
        rw [← Int.tdiv_eq_ediv_of_nonneg (by omega), Int.neg_tdiv, Int.neg_neg]
      have a2 : (n + 719468).tmod 146097 = -((-(n + 719468)) % 146097) := by
        rw [← Int.tmod_eq_emod_of_nonneg (by omega), Int.neg_tmod, Int.neg_neg]
      rw [a1, a2]
      by_cases h0 : i = 0
      · left; omega
      · right; omega
    · left
      rw [Int.tdiv_eq_ediv_of_nonneg hpos, Int.tmod_eq_emod_of_nonneg hpos]
      omega
  clear hn r1 r2 r3
  by_cases h10 : k < 10
  · have h10' : (k : Int) < 10 := by omega
    rw [if_pos h10, if_pos h10]
    rcases hways with ⟨k1, k2, k3, k4, k5⟩ | ⟨k1, k2, k3⟩ | ⟨k1, k2, k3⟩
    all_goals
      go_enter Tryd.func25, Tryd.ntmps25
      go_wp2_with fail
      go_ret3
      exact ⟨by congr 2 <;> simp <;> omega, rfl⟩
  · have h10' : ¬ (k : Int) < 10 := by omega
    rw [if_neg h10, if_neg h10]
    have hk9 : ((k - 9 : Nat) : Int) = (k : Int) - 9 := by omega
    rw [hk9]
    clear hk9
    rcases hways with ⟨k1, k2, k3, k4, k5⟩ | ⟨k1, k2, k3⟩ | ⟨k1, k2, k3⟩
    all_goals
      go_enter Tryd.func25, Tryd.ntmps25
      go_wp2_with fail
      go_ret3
      exact ⟨by congr 2 <;> simp <;> omega, rfl⟩

end Go.Proofs.YtgkgjlcbappbkaaDoor
