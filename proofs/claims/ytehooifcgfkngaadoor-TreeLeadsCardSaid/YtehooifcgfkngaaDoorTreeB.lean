/-
  What a valid file is: stamp.Right, tree.within, tree.Right.
-/
import Derived.Test.YtehooifcgfkngaaDoorTreeA
import Derived.Test.YtehooifcgfkngaaDoorShelf
import Derived.Test.YtehooifcgfkngaaDoorUpto
import Derived.Deep.DeepCutAuto
import Derived.Lib.Strings
namespace Go.Proofs.YtehooifcgfkngaaDoor
open Go.RowKit Go.Maps Tre

theorem has_zero' (l : List UInt8) : (Lib.indexByte l 0 < 0) ↔ l.contains 0 = false := by
  have hge := Lib.indexByte_ge l 0
  constructor
  · intro h
    have h1 := Lib.indexByte_none (l := l) (c := 0) (by omega)
    rw [Bool.eq_false_iff]
    intro hc
    obtain ⟨k, hk⟩ := List.getElem?_of_mem (List.contains_iff_mem.1 hc)
    exact h1 k hk
  · intro h
    rcases Int.lt_or_le (Lib.indexByte l 0) 0 with h1 | h1
    · exact h1
    · exfalso
      obtain ⟨i, hi⟩ := Int.eq_ofNat_of_zero_le h1
      have h2 := (Lib.indexByte_some hi).1
      have : l.contains 0 = true := List.contains_iff_mem.2 (List.mem_of_getElem? h2)
      rw [this] at h; cases h


theorem stampR_any (s n : Int) (w : World) : Calls Tryd.prog 59 #[.agg #[.int .i64 s, .int .i64 n]] w fun e w' => e = .returned (.bool (stampR s n)) ∧ Below w.heap.size w w' := by
  have e0 : stampR s n = (decide (-1099511627776 ≤ s) && decide (s ≤ 1099511627776) && decide (0 ≤ n) && decide (n < 1000000000)) := rfl
  obtain ⟨r, hr⟩ : ∃ r, r = stampR s n := ⟨_, rfl⟩
  rw [← hr] at e0 ⊢
  have hways : (¬ -1099511627776 ≤ s ∧ r = false) ∨ (-1099511627776 ≤ s ∧ ¬ s ≤ 1099511627776 ∧ r = false) ∨ (-1099511627776 ≤ s ∧ s ≤ 1099511627776 ∧ ¬ 0 ≤ n ∧ r = false) ∨ (-1099511627776 ≤ s ∧ s ≤ 1099511627776 ∧ 0 ≤ n ∧ ¬ n < 1000000000 ∧ r = false) ∨ (-1099511627776 ≤ s ∧ s ≤ 1099511627776 ∧ 0 ≤ n ∧ n < 1000000000 ∧ r = true) := by
    rw [e0]
    by_cases h1 : -1099511627776 ≤ s
    · by_cases h2 : s ≤ 1099511627776
      · by_cases h3 : 0 ≤ n
        · by_cases h4 : n < 1000000000
          · exact .inr (.inr (.inr (.inr ⟨h1, h2, h3, h4, by rw [decide_eq_true h1, decide_eq_true h2, decide_eq_true h3, decide_eq_true h4]; rfl⟩)))
          · exact .inr (.inr (.inr (.inl ⟨h1, h2, h3, h4, by rw [decide_eq_false h4, Bool.and_false]⟩)))
        · exact .inr (.inr (.inl ⟨h1, h2, h3, by rw [decide_eq_false h3, Bool.and_false, Bool.false_and]⟩))
      · exact .inr (.inl ⟨h1, h2, by rw [decide_eq_false h2, Bool.and_false, Bool.false_and, Bool.false_and]⟩)
    · exact .inl ⟨h1, by rw [decide_eq_false h1, Bool.false_and, Bool.false_and, Bool.false_and]⟩
  clear hr e0
  rcases hways with ⟨k1, rfl⟩ | ⟨k1, k2, rfl⟩ | ⟨k1, k2, k3, rfl⟩ | ⟨k1, k2, k3, k4, rfl⟩ | ⟨k1, k2, k3, k4, rfl⟩
  all_goals
    go_enter Tryd.func59, Tryd.ntmps59
    go_wp2_with fail
    go_ret
    exact ⟨by first | rfl | (simp <;> omega), (Below.refl _ _).alloc (Nat.le_refl _) _⟩

theorem within_any (n lo hi : Int) (w : World) : Calls Tryd.prog 58 #[.int .i64 n, .int .i64 lo, .int .i64 hi] w fun e w' => e = .returned (.bool (inR n lo hi)) ∧ w' = w := by
  have e0 : inR n lo hi = (decide (lo ≤ n) && decide (n ≤ hi)) := rfl
  obtain ⟨r, hr⟩ : ∃ r, r = inR n lo hi := ⟨_, rfl⟩
  rw [← hr] at e0 ⊢
  have hways : (¬ lo ≤ n ∧ r = false) ∨ (lo ≤ n ∧ ¬ n ≤ hi ∧ r = false) ∨ (lo ≤ n ∧ n ≤ hi ∧ r = true) := by
    rw [e0]
    by_cases h1 : lo ≤ n
    · by_cases h2 : n ≤ hi
      · exact .inr (.inr ⟨h1, h2, by simp [h1, h2]⟩)
      · exact .inr (.inl ⟨h1, h2, by simp [h2]⟩)
    · exact .inl ⟨h1, by simp [h1]⟩
  clear hr e0
  rcases hways with ⟨k1, rfl⟩ | ⟨k1, k2, rfl⟩ | ⟨k1, k2, rfl⟩
  all_goals
    go_enter Tryd.func58, Tryd.ntmps58
    go_wp2_with fail
    go_ret
    exact ⟨by first | rfl | (simp <;> omega), rfl⟩

/-- rightN, of its tests' results. -/
def rightB (a k49 m u g st q7 ll lz mj mn dev z8 z9 k48 de dl : Bool) : Bool :=
  (a && !k49) && (m && u && g && st) && (!q7 && ll && !lz) && (mj && mn && (dev || (z8 && z9))) && (if k48 = true then dl else de)
theorem rightN_eq (n : Nd) : rightN n = rightB (inR n.kind 48 54) (n.kind == 49) (inR n.mode 0 4095) (inR n.uid 0 1099511627775) (inR n.gid 0 1099511627775) (stampR n.sec n.nano) ((!(n.link == [])) != (n.kind == 50)) (decide (n.link.length ≤ 120)) (n.link.contains 0)
    (inR n.major 0 2097151) (inR n.minor 0 2097151) (n.kind == 51 || n.kind == 52) (n.major == 0) (n.minor == 0) (n.kind == 48) (n.data == []) (decide (n.data.length ≤ 4000)) := by
  unfold rightN rightB
  simp only [beq_iff_eq, bne, Bool.not_not]
theorem kindB (k c : Nat) : ((k : Int) == (c : Int)) = (k == c) := by
  by_cases e : k = c
  · subst e; simp
  · rw [beq_eq_false_iff_ne.2 e, beq_eq_false_iff_ne.2 (by omega)]
theorem empB (l : List UInt8) : (bs l).toList.isEmpty = (l == []) := by
  rw [show (bs l).toList = l from Lib.toList_data _]; cases l <;> rfl

set_option maxRecDepth 100000 in
set_option maxHeartbeats 4000000 in
theorem treeRight_any (n : Nd) (hk : n.kind ≤ 255) (h1 : n.link.length ≤ 1000000) (h2 : n.data.length ≤ 1000000) (w : World) : Calls Tryd.prog 38 #[ndv n] w fun e w' => e = .returned (.bool (rightN n)) ∧ Below w.heap.size w w' := by
  rw [rightN_eq]
  obtain ⟨k, m, u, g, s, na, d, l, mj, mn⟩ := n
  unfold ndv ndc
  simp only at hk h1 h2 ⊢
  have q49 : ((k : Int) == 49) = (k == 49) := kindB k 49
  have q50 : ((k : Int) == 50) = (k == 50) := kindB k 50
  have q51 : ((k : Int) == 51) = (k == 51) := kindB k 51
  have q52 : ((k : Int) == 52) = (k == 52) := kindB k 52
  have q48 : ((k : Int) == 48) = (k == 48) := kindB k 48
  have qle := empB l
  have qde := empB d
  have hz := has_zero' l
  have hi := fun w => Tryd.strings_IndexByte (bs l) 0 w
  have hix : (0 : Int).toNat.toUInt8 = 0 := rfl
  rw [hix] at hi
  rw [bs_list] at hi
  obtain ⟨x, hx⟩ : ∃ x, x = Lib.indexByte l 0 := ⟨_, rfl⟩
  rw [← hx] at hi hz
  have HI := Lib.hid hi
  have W1 := Lib.hid (fun w => within_any k 48 54 w)
  have W2 := Lib.hid (fun w => within_any m 0 4095 w)
  have W3 := Lib.hid (fun w => within_any u 0 1099511627775 w)
  have W4 := Lib.hid (fun w => within_any g 0 1099511627775 w)
  have W5 := Lib.hid (fun w => stampR_any s na w)
  have W6 := Lib.hid (fun w => within_any mj 0 2097151 w)
  have W7 := Lib.hid (fun w => within_any mn 0 2097151 w)
  have L1 : decide ((120 : Int) < (bs l).size) = !decide (l.length ≤ 120) := by rw [bs_size]; by_cases h : l.length ≤ 120 <;> simp [h] <;> omega
  have L2 : decide (((bs d).size : Int) ≤ 4000) = decide (d.length ≤ 4000) := by rw [bs_size]; by_cases h : d.length ≤ 4000 <;> simp [h] <;> omega
  have Z1 : decide ((0 : Int) ≤ x) = l.contains 0 := by
    cases hc : l.contains 0
    · exact decide_eq_false (by have := hz.2 hc; omega)
    · refine decide_eq_true ?_
      rcases Int.lt_or_le x 0 with h | h
      · rw [hz.1 h] at hc; cases hc
      · exact h
  have k1 : (0 : Int) ≤ k := by omega
  have k2 : (k : Int) ≤ 255 := by omega
  generalize inR k 48 54 = b1 at *
  generalize inR m 0 4095 = b2 at *
  generalize inR u 0 1099511627775 = b3 at *
  generalize inR g 0 1099511627775 = b4 at *
  generalize stampR s na = b5 at *
  generalize inR mj 0 2097151 = b6 at *
  generalize inR mn 0 2097151 = b7 at *
  generalize (k == 49) = c49 at *
  generalize (k == 50) = c50 at *
  generalize (k == 51) = c51 at *
  generalize (k == 52) = c52 at *
  generalize (k == 48) = c48 at *
  generalize (l == []) = le at *
  generalize (d == []) = de at *
  generalize decide (l.length ≤ 120) = ll at *
  generalize decide (d.length ≤ 4000) = dl at *
  generalize l.contains 0 = lz at *
  generalize hz8 : (mj == 0) = z8 at *
  generalize hz9 : (mn == 0) = z9 at *
  have p8 : (mj != 0) = !z8 := by rw [← hz8]; rfl
  have p9 : (mn != 0) = !z9 := by rw [← hz9]; rfl
  have p48 : ((k : Int) != 48) = !c48 := by rw [← q48]; rfl
  obtain ⟨dev, hdev⟩ : ∃ dev, dev = (c51 || c52) := ⟨_, rfl⟩
  obtain ⟨q7, hq7⟩ : ∃ q7, q7 = ((!le) != c50) := ⟨_, rfl⟩
  rw [← hdev, ← hq7]
  have HD := Lib.hid hdev
  have HQ := Lib.hid hq7
  clear hz hi hx hix h1 h2 hk hz8 hz9 hdev hq7
  go_enter Tryd.func38, Tryd.ntmps38
  repeat' ((fail_if_success (with_reducible refine halt_at 1 ?_)); first | go_values | go_skip | go_guarded | go_step | go_upon | go_back | (simp only [Int.not_lt, Int.not_le] at *; go_simp) | (go_values <;> (try go_simp)) | (go_ite <;> go_prune <;> (try go_simp)) | (split <;> (first | (rename_i hx; exact (hx _ rfl).elim) | go_prune)))
  go_cut [3] (fun s3 wx => s3 = .bool dev ∧ wx = w.alloc (.cells (ndc ⟨k, m, u, g, s, na, d, l, mj, mn⟩) 35) ∧ True)
  case first =>
    cases c51
    · cases c52
      all_goals
        go_wp2_with fail
        go_meet
        exact ⟨by rw [HD.out]; rfl, rfl, trivial⟩
    · go_wp2_with fail
      go_meet
      exact ⟨by rw [HD.out]; rfl, rfl, trivial⟩
  case rest =>
  obtain ⟨rfl, rfl, _⟩ := hcut
  clear HD q51 q52
  unfold ndc
  go_wp2_with fail
  refine (W1.out _).mono ?_
  rintro e w' ⟨rfl, hw⟩
  subst hw
  cases b1
  · go_wp2_with fail
    go_ret
    exact ⟨by first | rfl | (cases dev <;> rfl) | (simp [rightB]), (Below.refl _ _).alloc (Nat.le_refl _) _⟩
  cases c49
  rotate_left
  · go_wp2_with fail
    go_ret
    exact ⟨by first | rfl | (cases dev <;> rfl) | (simp [rightB]), (Below.refl _ _).alloc (Nat.le_refl _) _⟩
  go_wp2_with fail
  refine (W2.out _).mono ?_
  rintro e w' ⟨rfl, hw⟩
  subst hw
  cases b2
  · go_wp2_with fail
    go_ret
    exact ⟨by first | rfl | (cases dev <;> rfl) | (simp [rightB]), (Below.refl _ _).alloc (Nat.le_refl _) _⟩
  go_wp2_with fail
  refine (W3.out _).mono ?_
  rintro e w' ⟨rfl, hw⟩
  subst hw
  cases b3
  · go_wp2_with fail
    go_ret
    exact ⟨by first | rfl | (cases dev <;> rfl) | (simp [rightB]), (Below.refl _ _).alloc (Nat.le_refl _) _⟩
  go_wp2_with fail
  refine (W4.out _).mono ?_
  rintro e w' ⟨rfl, hw⟩
  subst hw
  cases b4
  · go_wp2_with fail
    go_ret
    exact ⟨by first | rfl | (cases dev <;> rfl) | (simp [rightB]), (Below.refl _ _).alloc (Nat.le_refl _) _⟩
  go_wp2_with fail
  refine (W5.out _).mono ?_
  rintro e w1 ⟨rfl, h⟩
  have HB := Lib.hid (thenB ((Below.refl _ _).alloc (Nat.le_refl _) _) h)
  have hY := (Blk.new w 35 #[.int .u8 k, .int .i64 m, .int .i64 u, .int .i64 g, .int .i64 s, .int .i64 na, .string (bs d), .string (bs l), .int .i64 mj, .int .i64 mn]).below h (by simp)
  have c0 := hY.cell 0
  have c1 := hY.cell 1
  have c2 := hY.cell 2
  have c3 := hY.cell 3
  have c4 := hY.cell 4
  have c5 := hY.cell 5
  have c6 := hY.cell 6
  have c7 := hY.cell 7
  have c8 := hY.cell 8
  have c9 := hY.cell 9
  clear h hY
  cases b5
  · go_wp2_with fail
    go_ret
    exact ⟨by first | rfl | (cases dev <;> rfl) | (simp [rightB]), HB.out⟩
  repeat' ((fail_if_success (with_reducible refine halt_at 10 ?_)); first | go_values | go_skip | go_guarded | go_step | go_upon | go_back | (simp only [Int.not_lt, Int.not_le] at *; go_simp) | (go_values <;> (try go_simp)) | (go_ite <;> go_prune <;> (try go_simp)) | (split <;> (first | (rename_i hx; exact (hx _ rfl).elim) | go_prune)))
  go_cut [38] (fun s38 wx => s38 = .bool q7 ∧ wx = w1 ∧ True)
  case first =>
    cases le
    all_goals cases c50
    all_goals
      go_wp2_with fail
      go_meet
      exact ⟨by rw [HQ.out]; rfl, rfl, trivial⟩
  case rest =>
  obtain ⟨rfl, rfl, _⟩ := hcut
  clear HQ
  cases q7
  rotate_left
  · go_wp2_with fail
    go_ret
    exact ⟨by first | rfl | (cases dev <;> rfl) | (simp [rightB]), HB.out⟩
  cases ll
  · go_wp2_with fail
    go_ret
    exact ⟨by first | rfl | (cases dev <;> rfl) | (simp [rightB]), HB.out⟩
  go_wp2_with fail
  refine (HI.out _).mono ?_
  rintro e w' ⟨rfl, hw⟩
  subst hw
  cases lz
  rotate_left
  · go_wp2_with fail
    go_ret
    exact ⟨by first | rfl | (cases dev <;> rfl) | (simp [rightB]), HB.out⟩
  go_wp2_with fail
  refine (W6.out _).mono ?_
  rintro e w' ⟨rfl, hw⟩
  subst hw
  cases b6
  · go_wp2_with fail
    go_ret
    exact ⟨by first | rfl | (cases dev <;> rfl) | (simp [rightB]), HB.out⟩
  go_wp2_with fail
  refine (W7.out _).mono ?_
  rintro e w' ⟨rfl, hw⟩
  subst hw
  cases b7
  · go_wp2_with fail
    go_ret
    exact ⟨by first | rfl | (cases dev <;> rfl) | (simp [rightB]), HB.out⟩
  cases c48
  all_goals cases dev
  all_goals cases z8
  all_goals cases z9
  all_goals
    go_wp2_with fail
    go_ret
    exact ⟨by first | rfl | (simp [rightB]), HB.out⟩

end Go.Proofs.YtehooifcgfkngaaDoor
