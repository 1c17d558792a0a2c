/-
  stamp.Right and stamp.Text.
-/
import Derived.Test.YtgkgjlcbappbkaaDoorStampC
import Derived.Test.YtgkgjlcbappbkaaDoorStampPlain
import Derived.Test.YtgkgjlcbappbkaaDoorStrs
import Derived.Test.YtgkgjlcbappbkaaDoorShelf
import Derived.Lib.LaidTab
import Derived.LaidSub
import Derived.MakeChecks
namespace Go.Proofs.YtgkgjlcbappbkaaDoor
open Go.RowKit

/-- What the library asks of the world: its bound and its table of powers. -/
def Env (w : World) : Prop := (∃ m, w.cell? ⟨0, 0, none⟩ = some (.int .i64 m)) ∧ Lib.TabIs Tryd.prog w "internal/strconv.uint64pow10" .u64 Lib.pow10Tab
theorem pow_no : Tryd.prog.globalNamed "internal/strconv.uint64pow10" = some 5 := by kernel_rfl
theorem Env.lt {w : World} (h : Env w) : 0 < w.heap.size ∧ 5 < w.heap.size := by
  obtain ⟨⟨m, h1⟩, h2⟩ := h
  refine ⟨World.block_lt_of_cell? w ⟨0, 0, none⟩ h1, World.block_lt_of_cell? w ⟨5, 0, none⟩ (h2.cell pow_no 0 (by decide))⟩
theorem Env.below {w w' : World} (h : Env w) (hb : Below w.heap.size w w') : Env w' := by
  obtain ⟨l1, l2⟩ := h.lt
  obtain ⟨⟨m, h1⟩, h2⟩ := h
  refine ⟨⟨m, (hb.cell (p := ⟨0, 0, none⟩) l1).trans h1⟩, ?_⟩
  unfold Lib.TabIs at h2 ⊢
  rw [← h2]
  unfold World.var?
  rw [pow_no]
  simp only [Option.bind_some]
  rw [hb.block _ l2]

theorem stampRight_any (s n : Int) (w : World) : Calls Tryd.prog 26 #[tm s n] w fun e w' => e = .returned (.bool (Stp.okB (s, n))) ∧ Below w.heap.size w w' := by
  have e0 : Stp.okB (s, n) = (decide (-1099511627776 ≤ s) && decide (s ≤ 1099511627776) && decide (0 ≤ n) && decide (n < 1000000000)) := rfl
  obtain ⟨r, hr⟩ : ∃ r, r = Stp.okB (s, n) := ⟨_, rfl⟩
  rw [← hr] at e0 ⊢
  have hways : (¬ -1099511627776 ≤ s ∧ r = false) ∨ (-1099511627776 ≤ s ∧ ¬ s ≤ 1099511627776 ∧ r = false) ∨ (-1099511627776 ≤ s ∧ s ≤ 1099511627776 ∧ ¬ 0 ≤ n ∧ r = false) ∨ (-1099511627776 ≤ s ∧ s ≤ 1099511627776 ∧ 0 ≤ n ∧ ¬ n < 1000000000 ∧ r = false) ∨ (-1099511627776 ≤ s ∧ s ≤ 1099511627776 ∧ 0 ≤ n ∧ n < 1000000000 ∧ r = true) := by
    rw [e0]
    by_cases h1 : -1099511627776 ≤ s
    · by_cases h2 : s ≤ 1099511627776
      · by_cases h3 : 0 ≤ n
        · by_cases h4 : n < 1000000000
          · exact .inr (.inr (.inr (.inr ⟨h1, h2, h3, h4, by rw [decide_eq_true h1, decide_eq_true h2, decide_eq_true h3, decide_eq_true h4]; rfl⟩)))
          · exact .inr (.inr (.inr (.inl ⟨h1, h2, h3, h4, by rw [decide_eq_false h4, Bool.and_false]⟩)))
        · exact .inr (.inr (.inl ⟨h1, h2, h3, by rw [decide_eq_false h3, Bool.and_false, Bool.false_and]⟩))
      · exact .inr (.inl ⟨h1, h2, by rw [decide_eq_false h2, Bool.and_false, Bool.false_and, Bool.false_and]⟩)
    · exact .inl ⟨h1, by rw [decide_eq_false h1, Bool.false_and, Bool.false_and, Bool.false_and]⟩
  clear hr e0
  rcases hways with ⟨k1, rfl⟩ | ⟨k1, k2, rfl⟩ | ⟨k1, k2, k3, rfl⟩ | ⟨k1, k2, k3, k4, rfl⟩ | ⟨k1, k2, k3, k4, rfl⟩
  all_goals
    go_enter Tryd.func26, Tryd.ntmps26
    go_wp2_with fail
    go_ret
    exact ⟨by first | rfl | (simp <;> omega), (Below.refl _ _).alloc (Nat.le_refl _) _⟩

theorem grow_below (w : World) (k : Nat) (os : Array Obj) : Below w.heap.size w (Sort.grow (w.drewN k) os) :=
  ⟨rfl, rfl, rfl, by show w.heap.size ≤ (w.heap ++ os).size; rw [Array.size_append]; omega, fun _ hj => Sort.heap_grow_old (w.drewN k) os hj⟩
theorem itoa_any (n : Nat) (h : n ≤ 9000000000000000000) (w : World) (hE : Env w) : Calls Tryd.prog 27 #[.int .i64 n] w fun e w' => e = .returned (.string (bs (Lib.decDigits n))) ∧ Below w.heap.size w w' := by
  have := Tryd.strconv_Itoa (n : Int) (by omega) (by omega) w hE.2
  refine this.mono fun e w' ⟨he, k, os, hw⟩ => ⟨?_, hw ▸ grow_below w k os⟩
  rw [he]
  unfold Lib.itoa
  rw [if_neg (by omega)]; rfl

set_option maxRecDepth 100000 in
set_option maxHeartbeats 2000000 in
theorem text_any (s n : Int) (h : Stp.Ok s n) (w : World) (hE : Env w) :
    Calls Tryd.prog 12 #[tm s n] w fun e w' => e = .returned (.tuple #[.string (bs (Stp.text s n)), .nilIface]) ∧ Below w.heap.size w w' := by
  have hR := fun w => stampRight_any s n w
  rw [Stp.okB_of h] at hR
  obtain ⟨hw1, hp1⟩ := Stp.whl_le h
  have hI1 := fun w' (hb : Below w.heap.size w w') => itoa_any (Stp.whl s n) (by omega) w' (hE.below hb)
  have hI2 := fun w' (hb : Below w.heap.size w w') => itoa_any (1000000000 + Stp.prt s n) (by omega) w' (hE.below hb)
  obtain ⟨d1, d2, d3⟩ := Stp.dig9_all (Stp.prt s n) hp1
  have hlen1 := Stp.dec_len (Stp.whl s n) (by omega)
  obtain ⟨X, hX⟩ : ∃ X, X = bs (Lib.decDigits (Stp.whl s n)) := ⟨_, rfl⟩
  obtain ⟨Y, hY⟩ : ∃ Y, Y = bs (Lib.decDigits (1000000000 + Stp.prt s n)) := ⟨_, rfl⟩
  obtain ⟨Z, hZ⟩ : ∃ Z, Z = bs (Stp.tail9 (Stp.prt s n)) := ⟨_, rfl⟩
  have hXs : X.size ≤ 13 := by rw [hX, bs_size]; exact hlen1
  have hYl : Y.extract 1 Y.size = bs (Stp.dig9 (Stp.prt s n)) := ba_ext (by rw [ext_end, hY, bs_list, bs_list]; rfl)
  have hYs : Y.size = 10 := by
    have h1 := congrArg List.length (show (Lib.decDigits (1000000000 + Stp.prt s n)).drop 1 = Stp.dig9 (Stp.prt s n) from rfl)
    rw [List.length_drop, d1] at h1
    rw [hY, bs_size]; omega
  have hT := fun w => Tryd.strings_TrimRight_one (Y.extract 1 Y.size) 48 (by decide) w (by rw [ext_size _ _ _ (Nat.le_refl _)]; omega)
  have hTe : (⟨(Lib.trimRightB (Y.extract 1 Y.size).data.toList 48).toArray⟩ : ByteArray) = Z := by
    rw [hYl, bs_list, hZ, ← Lib.trimRightS_one]; rfl
  rw [hTe] at hT
  have hZs : Z.size ≤ 9 := by
    obtain ⟨k, _, hk, _⟩ := Stp.tail9_all (Stp.prt s n) hp1
    rw [hZ, bs_size]; omega
  rw [← hX] at hI1
  rw [← hY] at hI2
  obtain ⟨T, hTT⟩ : ∃ T, T = bs (Stp.text s n) := ⟨_, rfl⟩
  obtain ⟨W, hW⟩ : ∃ W, W = Stp.whl s n := ⟨_, rfl⟩
  obtain ⟨p, hp⟩ : ∃ p, p = Stp.prt s n := ⟨_, rfl⟩
  have hTv : T = bs (Stp.sgn s) ++ X ++ (if 0 < p then ⟨#[46]⟩ ++ Z else ⟨#[]⟩) := ba_ext (by
    rw [hTT, bs_list, hX, hZ, hp]
    unfold Stp.text
    rw [cat_list, cat_list, bs_list, bs_list]
    congr 1
    split
    · rw [cat_list, bs_list]; rfl
    · rfl)
  have hWv : W = if s < 0 then (if 0 < n then (-s - 1).toNat else (-s).toNat) else s.toNat := hW
  have hpv : p = if s < 0 then (if 0 < n then (1000000000 - n).toNat else 0) else n.toNat := hp
  rw [← hTT]
  rw [← hW] at hI1 hw1
  rw [← hp] at hI2 hp1
  have HR := Lib.hid hR
  have I1 := Lib.hid hI1
  have I2 := Lib.hid hI2
  have HT := Lib.hid hT
  have HTV := Lib.hid hTv
  obtain ⟨o1, o2, o3, o4⟩ := h
  have hYs1 : 1 ≤ Y.size := by omega
  have hYs2 : Y.size ≤ 10 := by omega
  clear hR hI1 hI2 hT hTe hYl hYs hX hY hZ hTT hW hp hTv d1 d2 d3 hlen1 hE
  by_cases hs : s < 0
  · rw [if_pos hs] at hWv hpv
    by_cases hn : 0 < n
    · rw [if_pos hn] at hWv hpv
      have e1 : -s - 1 = (W : Int) := by omega
      have e2 : 1000000000 - n = (p : Int) := by omega
      have hp0 : (0 : Int) < p := by omega
      have hfin : T = ⟨#[45]⟩ ++ X ++ (⟨#[46]⟩ ++ Z) := by
        have h0 := HTV.out
        rw [if_pos (by omega)] at h0
        have h1 : bs (Stp.sgn s) = ⟨#[45]⟩ := by unfold Stp.sgn; rw [if_pos hs]; rfl
        rw [h0, h1]
      have HF := Lib.hid hfin
      have e3 : IntKind.i64.wrap (1000000000 + (p : Int)) = ((1000000000 + p : Nat) : Int) := by rw [IntWalk.i64_in _ (by omega)]; omega
      clear hWv hpv HTV hfin
      go_enter Tryd.func12, Tryd.ntmps12
      go_wp2_with fail
      refine (HR.out _).mono ?_
      rintro e w1 ⟨rfl, h⟩
      have c0 := (h.cell (p := ⟨w.heap.size, 0, none⟩) (by simp)).trans ((Blk.new w 24 #[.int .i64 s, .int .i64 n]).cell 0)
      have c1 := (h.cell (p := ⟨w.heap.size, 1, none⟩) (by simp)).trans ((Blk.new w 24 #[.int .i64 s, .int .i64 n]).cell 1)
      have B1 := Lib.hid (((Below.refl w.heap.size w).alloc (Nat.le_refl _) _).trans (h.mono (by simp)))
      clear h
      go_wp2_with fail
      go_quiet (fail)
      go_wp2_with fail
      refine (I1.out _ (below_drewN B1.out _)).mono ?_
      rintro e w2 ⟨rfl, h⟩
      have B2 := Lib.hid (thenB (below_drewN B1.out _) h)
      clear h
      go_wp2_with fail
      refine (I2.out _ B2.out).mono ?_
      rintro e w3 ⟨rfl, h⟩
      have B3 := Lib.hid (thenB B2.out h)
      clear h
      go_wp2_with fail
      refine (HT.out _).mono ?_
      rintro e w4 ⟨rfl, rfl⟩
      go_wp2_with fail
      go_ret2
      rw [HF.out]
      exact ⟨rfl, B3.out⟩
    · rw [if_neg hn] at hWv hpv
      have e1 : -s = (W : Int) := by omega
      have e2 : n = 0 := by omega
      have hp0 : ¬ (0 : Int) < p := by omega
      have hfin : T = ⟨#[45]⟩ ++ X := by
        have h0 := HTV.out
        rw [if_neg (by omega)] at h0
        have h1 : bs (Stp.sgn s) = ⟨#[45]⟩ := by unfold Stp.sgn; rw [if_pos hs]; rfl
        rw [h0, h1]; exact ba_ext (by rw [cat_list]; simp)
      have HF := Lib.hid hfin
      clear hWv hpv HTV hfin
      subst e2
      go_enter Tryd.func12, Tryd.ntmps12
      go_wp2_with fail
      refine (HR.out _).mono ?_
      rintro e w1 ⟨rfl, h⟩
      have c0 := (h.cell (p := ⟨w.heap.size, 0, none⟩) (by simp)).trans ((Blk.new w 24 #[.int .i64 s, .int .i64 0]).cell 0)
      have c1 := (h.cell (p := ⟨w.heap.size, 1, none⟩) (by simp)).trans ((Blk.new w 24 #[.int .i64 s, .int .i64 0]).cell 1)
      have B1 := Lib.hid (((Below.refl w.heap.size w).alloc (Nat.le_refl _) _).trans (h.mono (by simp)))
      clear h
      go_wp2_with fail
      go_quiet (fail)
      go_wp2_with fail
      refine (I1.out _ (below_drewN B1.out _)).mono ?_
      rintro e w2 ⟨rfl, h⟩
      have B2 := Lib.hid (thenB (below_drewN B1.out _) h)
      clear h
      go_wp2_with fail
      go_ret2
      rw [HF.out]
      exact ⟨rfl, B2.out⟩
  · rw [if_neg hs] at hWv hpv
    by_cases hn : 0 < n
    · have e1 : s = (W : Int) := by omega
      have e2 : ((1000000000 + p : Nat) : Int) = 1000000000 + n := by omega
      have I2' := I2.out
      rw [e2] at I2'
      have I2 := Lib.hid I2'
      have hn4 : n < 1000000000 := o4
      have hp0 : (0 : Int) < n := hn
      have hfin : T = ⟨#[]⟩ ++ X ++ (⟨#[46]⟩ ++ Z) := by
        have h0 := HTV.out
        rw [if_pos (by omega)] at h0
        have h1 : bs (Stp.sgn s) = ⟨#[]⟩ := by unfold Stp.sgn; rw [if_neg hs]; rfl
        rw [h0, h1]
      have HF := Lib.hid hfin
      clear I2' e2 hWv hpv HTV hfin
      subst e1
      go_enter Tryd.func12, Tryd.ntmps12
      go_wp2_with fail
      refine (HR.out _).mono ?_
      rintro e w1 ⟨rfl, h⟩
      have c0 := (h.cell (p := ⟨w.heap.size, 0, none⟩) (by simp)).trans ((Blk.new w 24 #[.int .i64 (W : Int), .int .i64 n]).cell 0)
      have c1 := (h.cell (p := ⟨w.heap.size, 1, none⟩) (by simp)).trans ((Blk.new w 24 #[.int .i64 (W : Int), .int .i64 n]).cell 1)
      have B1 := Lib.hid (((Below.refl w.heap.size w).alloc (Nat.le_refl _) _).trans (h.mono (by simp)))
      clear h
      go_wp2_with fail
      go_quiet (fail)
      go_wp2_with fail
      refine (I1.out _ (below_drewN B1.out _)).mono ?_
      rintro e w2 ⟨rfl, h⟩
      have B2 := Lib.hid (thenB (below_drewN B1.out _) h)
      clear h
      go_wp2_with fail
      refine (I2.out _ B2.out).mono ?_
      rintro e w3 ⟨rfl, h⟩
      have B3 := Lib.hid (thenB B2.out h)
      clear h
      go_wp2_with fail
      refine (HT.out _).mono ?_
      rintro e w4 ⟨rfl, rfl⟩
      go_wp2_with fail
      go_ret2
      rw [HF.out]
      exact ⟨rfl, B3.out⟩
    · have e1 : s = (W : Int) := by omega
      have e2 : n = 0 := by omega
      have hp0 : ¬ (0 : Int) < p := by omega
      have hfin : T = ⟨#[]⟩ ++ X := by
        have h0 := HTV.out
        rw [if_neg (by omega)] at h0
        have h1 : bs (Stp.sgn s) = ⟨#[]⟩ := by unfold Stp.sgn; rw [if_neg hs]; rfl
        rw [h0, h1]; exact ba_ext (by rw [cat_list]; simp)
      have HF := Lib.hid hfin
      clear hWv hpv HTV hfin
      subst e1
      subst e2
      go_enter Tryd.func12, Tryd.ntmps12
      go_wp2_with fail
      refine (HR.out _).mono ?_
      rintro e w1 ⟨rfl, h⟩
      have c0 := (h.cell (p := ⟨w.heap.size, 0, none⟩) (by simp)).trans ((Blk.new w 24 #[.int .i64 (W : Int), .int .i64 0]).cell 0)
      have c1 := (h.cell (p := ⟨w.heap.size, 1, none⟩) (by simp)).trans ((Blk.new w 24 #[.int .i64 (W : Int), .int .i64 0]).cell 1)
      have B1 := Lib.hid (((Below.refl w.heap.size w).alloc (Nat.le_refl _) _).trans (h.mono (by simp)))
      clear h
      go_wp2_with fail
      go_quiet (fail)
      go_wp2_with fail
      refine (I1.out _ (below_drewN B1.out _)).mono ?_
      rintro e w2 ⟨rfl, h⟩
      have B2 := Lib.hid (thenB (below_drewN B1.out _) h)
      clear h
      go_wp2_with fail
      go_ret2
      rw [HF.out]
      exact ⟨rfl, B2.out⟩

end Go.Proofs.YtgkgjlcbappbkaaDoor
