/-
  The dates of a time, of the second behind it, of the day behind it and of 400 years later.
-/
import Derived.Test.YtgkgjlcbappbkaaDoorStampH
namespace Go.Proofs.YtgkgjlcbappbkaaDoor
open Go.RowKit

/-- Six numbers as a value. -/
abbrev agg6 (a b c d e f : Int) : Value := .agg #[.int .i64 a, .int .i64 b, .int .i64 c, .int .i64 d, .int .i64 e, .int .i64 f]

theorem year_bd (n : Int) (h1 : -14000000 ≤ n) (h2 : n ≤ 14000000) : -1000000 ≤ Cal.yz n ∧ Cal.yz n ≤ 1000000 := by
  have h := Cal.civ_le (Cal.plc_lt n)
  unfold Cal.yz Cal.era
  omega

theorem dim_le (y : Int) (m : Nat) : Cal.dimZ y m ≤ 31 := by
  have h : Cal.lp (y % 400).toNat ≤ 1 := Cal.lp_le _
  unfold Cal.dimZ Cal.dim Cal.dimL
  repeat' split
  all_goals omega

theorem days_facts (s : Int) (h1 : -1100000000000 ≤ s) (h2 : s ≤ 1100000000000) : ∃ a0 a1 a2 a3 a4 a5 D : Int, six s = agg6 a0 a1 a2 a3 a4 a5 ∧
    (-1000000 ≤ a0 ∧ a0 ≤ 1000000 ∧ 1 ≤ a1 ∧ a1 ≤ 12 ∧ 1 ≤ a2 ∧ a2 ≤ D ∧ D ≤ 31 ∧ 0 ≤ a3 ∧ a3 ≤ 23 ∧ 0 ≤ a4 ∧ a4 ≤ 59 ∧ 0 ≤ a5 ∧ a5 ≤ 59) ∧
    (∀ w, Calls Tryd.prog 11 #[.int .i64 a0, .int .i64 a1] w fun e w' => e = .returned (.int .i64 D) ∧ w' = w) ∧
    six (s + 12622780800) = agg6 (a0 + 400) a1 a2 a3 a4 a5 ∧
    ((¬ D < a2 + 1 ∧ six (s + 86400) = agg6 a0 a1 (a2 + 1) a3 a4 a5) ∨ (D < a2 + 1 ∧ ¬ 12 < a1 + 1 ∧ six (s + 86400) = agg6 a0 (a1 + 1) 1 a3 a4 a5) ∨ (D < a2 + 1 ∧ 12 < a1 + 1 ∧ six (s + 86400) = agg6 (a0 + 1) 1 1 a3 a4 a5)) ∧
    ((a5 < 59 ∧ six (s + 1) = agg6 a0 a1 a2 a3 a4 (a5 + 1)) ∨ (¬ a5 < 59 ∧ ∃ d0 d1 d2 d3 d4 : Int, six (s + 1) = agg6 d0 d1 d2 d3 d4 0)) := by
  have v := Cal.date_vld (Cal.dayOf s)
  have yb := year_bd (Cal.dayOf s) (by unfold Cal.dayOf; omega) (by unfold Cal.dayOf; omega)
  have nx := Cal.date_next (Cal.dayOf s)
  have f4 := Cal.date_400 (Cal.dayOf s)
  have D31 := dim_le (Cal.yz (Cal.dayOf s)) (Cal.mz (Cal.dayOf s))
  have e1 : Cal.dayOf (s + 86400) = Cal.dayOf s + 1 := by unfold Cal.dayOf; omega
  have e2 : Cal.restOf (s + 86400) = Cal.restOf s := by unfold Cal.restOf; omega
  have e3 : Cal.dayOf (s + 12622780800) = Cal.dayOf s + 146097 := by unfold Cal.dayOf; omega
  have e4 : Cal.restOf (s + 12622780800) = Cal.restOf s := by unfold Cal.restOf; omega
  have r0 : 0 ≤ Cal.restOf s ∧ Cal.restOf s < 86400 := by unfold Cal.restOf; omega
  have hd := fun w => days_any (Cal.yz (Cal.dayOf s)) (Cal.mz (Cal.dayOf s)) v.1 v.2.1 yb.1 yb.2 w
  have hs1 : Cal.restOf s % 60 < 59 → Cal.dayOf (s + 1) = Cal.dayOf s ∧ Cal.restOf (s + 1) = Cal.restOf s + 1 := by unfold Cal.dayOf Cal.restOf; omega
  have hs2 : ¬ Cal.restOf s % 60 < 59 → Cal.restOf (s + 1) % 60 = 0 := by unfold Cal.restOf; omega
  refine ⟨Cal.yz (Cal.dayOf s), Cal.mz (Cal.dayOf s), Cal.dz (Cal.dayOf s), Cal.restOf s / 3600, Cal.restOf s / 60 % 60, Cal.restOf s % 60, Cal.dimZ (Cal.yz (Cal.dayOf s)) (Cal.mz (Cal.dayOf s)), rfl, ?_, hd, ?_, ?_, ?_⟩
  · omega
  · unfold six
    rw [e3, e4, f4.1, f4.2.1, f4.2.2]
  · unfold six
    rw [e1, e2]
    unfold Cal.Next at nx
    by_cases k1 : Cal.dz (Cal.dayOf s) + 1 ≤ Cal.dimZ (Cal.yz (Cal.dayOf s)) (Cal.mz (Cal.dayOf s))
    · rw [if_pos k1] at nx
      left
      rw [nx.1, nx.2.1, nx.2.2]
      exact ⟨by omega, rfl⟩
    · rw [if_neg k1] at nx
      right
      by_cases k2 : Cal.mz (Cal.dayOf s) + 1 ≤ 12
      · rw [if_pos k2] at nx
        left
        rw [nx.1, nx.2.1, nx.2.2]
        exact ⟨by omega, by omega, rfl⟩
      · rw [if_neg k2] at nx
        right
        rw [nx.1, nx.2.1, nx.2.2]
        exact ⟨by omega, by omega, rfl⟩
  · by_cases k : Cal.restOf s % 60 < 59
    · left
      obtain ⟨q1, q2⟩ := hs1 k
      refine ⟨k, ?_⟩
      unfold six
      rw [q1, q2]
      have t1 : (Cal.restOf s + 1) / 3600 = Cal.restOf s / 3600 := by omega
      have t2 : (Cal.restOf s + 1) / 60 % 60 = Cal.restOf s / 60 % 60 := by omega
      have t3 : (Cal.restOf s + 1) % 60 = Cal.restOf s % 60 + 1 := by omega
      rw [t1, t2, t3]
    · right
      refine ⟨k, Cal.yz (Cal.dayOf (s + 1)), Cal.mz (Cal.dayOf (s + 1)), Cal.dz (Cal.dayOf (s + 1)), Cal.restOf (s + 1) / 3600, Cal.restOf (s + 1) / 60 % 60, ?_⟩
      unfold six
      rw [hs2 k]

end Go.Proofs.YtgkgjlcbappbkaaDoor
