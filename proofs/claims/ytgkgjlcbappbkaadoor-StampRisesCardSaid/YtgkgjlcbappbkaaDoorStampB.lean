/-
  stamp.Date, Before and Cut; days; timed.
-/
import Derived.Test.YtgkgjlcbappbkaaDoorStampA
import Derived.Test.YtgkgjlcbappbkaaDoorPick
namespace Go.Proofs.YtgkgjlcbappbkaaDoor
open Go.RowKit

/-- A time's value. -/
abbrev tm (s n : Int) : Value := .agg #[.int .i64 s, .int .i64 n]
/-- The value of six numbers. -/
def six (s : Int) : Value := .agg #[.int .i64 (Cal.yz (Cal.dayOf s)), .int .i64 (Cal.mz (Cal.dayOf s) : Int), .int .i64 (Cal.dz (Cal.dayOf s) : Int), .int .i64 (Cal.restOf s / 3600), .int .i64 (Cal.restOf s / 60 % 60), .int .i64 (Cal.restOf s % 60)]

set_option maxRecDepth 100000 in
set_option maxHeartbeats 2000000 in
theorem date_any (s n : Int) (h1 : -1100000000000 ≤ s) (h2 : s ≤ 1100000000000) (w : World) :
    Calls Tryd.prog 10 #[tm s n] w fun e w' => e = .returned (six s) ∧ Below w.heap.size w w' := by
  unfold six
  obtain ⟨D, hD⟩ : ∃ D, D = Cal.dayOf s := ⟨_, rfl⟩
  obtain ⟨r, hr⟩ : ∃ r, r = Cal.restOf s := ⟨_, rfl⟩
  have hs : s = D * 86400 + r ∧ 0 ≤ r ∧ r < 86400 := by rw [hD, hr]; unfold Cal.dayOf Cal.restOf; omega
  rw [← hD, ← hr]
  obtain ⟨hs0, hr0, hr1⟩ := hs
  have hways : (0 ≤ s ∧ s / 86400 = D ∧ s.tdiv 86400 = D ∧ s % 86400 = r ∧ s.tmod 86400 = r ∧ ¬ r < 0) ∨ (s < 0 ∧ s.tdiv 86400 = D ∧ s.tmod 86400 = r ∧ ¬ r < 0) ∨ (s < 0 ∧ s.tdiv 86400 = D + 1 ∧ s.tmod 86400 = r - 86400 ∧ r - 86400 < 0) := by
    rcases Int.lt_or_le s 0 with hneg | hpos
    · right
      have a1 : s.tdiv 86400 = -((-s) / 86400) := by
        rw [← Int.tdiv_eq_ediv_of_nonneg (by omega), Int.neg_tdiv, Int.neg_neg]
      have a2 : s.tmod 86400 = -((-s) % 86400) := by
        rw [← Int.tmod_eq_emod_of_nonneg (by omega), Int.neg_tmod, Int.neg_neg]
      rw [a1, a2]
      by_cases h0 : r = 0
      · left; omega
      · right; omega
    · left
      rw [Int.tdiv_eq_ediv_of_nonneg hpos, Int.tmod_eq_emod_of_nonneg hpos]
      omega
  have hd1 : -14000000 ≤ D := by omega
  have hd2 : D ≤ 14000000 := by omega
  have hc := fun w => civil_any D hd1 hd2 w
  obtain ⟨y, hy⟩ : ∃ y, y = Cal.yz D := ⟨_, rfl⟩
  obtain ⟨m, hm⟩ : ∃ m : Int, m = Cal.mz D := ⟨_, rfl⟩
  obtain ⟨t, ht⟩ : ∃ t : Int, t = Cal.dz D := ⟨_, rfl⟩
  rw [← hy, ← hm, ← ht] at hc ⊢
  have HC := Lib.hid hc
  clear hc hy hm ht hD hr hs0
  rcases hways with ⟨k1, k2, k3, k4, k5, k6⟩ | ⟨k1, k2, k3, k4⟩ | ⟨k1, k2, k3, k4⟩
  all_goals
    go_enter Tryd.func10, Tryd.ntmps10
    go_wp2_with fail
    go_quiet (fail)
    go_wp2_with fail
    refine (HC.out _).mono ?_
    rintro e w1 ⟨rfl, rfl⟩
    go_wp2_with fail
    refine bodyPost_ret (v := .agg #[.int .i64 y, .int .i64 m, .int .i64 t, .int .i64 (r / 3600), .int .i64 (r / 60 % 60), .int .i64 (r % 60)]) (by simp [results, Tryd.results10, go_sem]) rfl ⟨rfl, ?_⟩
    iterate 6 refine Below.setCell ?_ (by simp) _
    exact below_drewN (((Below.refl _ _).alloc (Nat.le_refl _) _).alloc (by simp) _) _

end Go.Proofs.YtgkgjlcbappbkaaDoor
