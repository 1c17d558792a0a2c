/-
  The walk of NumberBack.
-/
import Derived.Test.YtdnjcfhaplmalaaDoorNumG
import Derived.Test.YtdnjcfhaplmalaaDoorNumH
import Derived.Test.YtdnjcfhaplmalaaDoorRep
import Derived.Test.YtdnjcfhaplmalaaDoorTell
import Derived.OpenShut
namespace Go.Proofs.YtdnjcfhaplmalaaDoor
open Go.RowKit

theorem rd_bin (n : Int) (W : Nat) (h2 : W ≤ 20) (hn1 : -9223372036854775808 ≤ n) (hn2 : n ≤ 9223372036854775807) (h : InBin n W) : rd (binLaw n W) = some n := by
  obtain ⟨c, l, e, hc⟩ := bin_head n W (by have := h.1; omega)
  have hw := wide_of_bin n W h2 hn1 hn2 h
  rw [e] at hw ⊢
  simp only [rd]
  rw [if_neg (by omega), hw]
theorem bin_len (n : Int) (W : Nat) : (binLaw n W).length = W := by simp [binLaw]

set_option maxRecDepth 100000 in
set_option maxHeartbeats 2000000 in
theorem numberBack_main (n : Int) (hn1 : -9223372036854775808 ≤ n) (hn2 : n ≤ 9223372036854775807) (width : Int) (w : World) (hE : ErrT w) :
    Calls Tryd.prog 6 #[.int .i64 n, .int .i64 width] w fun e w' => e = .returned (.bool true) ∧ Below w.heap.size w w' := by
  have p0 := pickN_lo width 19 (by omega)
  have p1 := pickN_hi width 19 (by omega)
  obtain ⟨p, hp⟩ := Int.eq_ofNat_of_zero_le p0
  have hpick := fun w => pick_any width 19 w (by omega) (by omega)
  rw [hp] at hpick p0 p1
  clear hp
  obtain ⟨s, E1, ms, hs⟩ := write_named n (2 + p) true (by omega) (by omega) hn1 hn2
  obtain ⟨t, E2, mt, ht⟩ := octal_named n (2 + p) (by omega) (by omega)
  have mm := fun w => most_any (2 + p) w (by omega) (by omega)
  have ec : ((2 + p : Nat) : Int) = 2 + (p : Int) := by omega
  rw [ec] at ms mt mm
  have PK := Lib.hid hpick
  have MS := Lib.hid ms
  have MT := Lib.hid mt
  have MM := Lib.hid mm
  clear hpick ms mt mm ec
  rcases hs with ⟨rfl, hs⟩ | ⟨rfl, hs⟩
  · have hsz : s.size = 2 + p := by
      rcases hs with ⟨m, _, _, rfl⟩ | ⟨_, rfl⟩
      · show (Num.octal m (2 + p)).length = _; simp [Num.octal]
      · exact bin_len _ _
    obtain ⟨n', E, mR, hR⟩ := read_named s (by omega) (by omega)
    have hrd : rd s.data.toList = some n := by
      rcases hs with ⟨m, rfl, hm, rfl⟩ | ⟨hb, rfl⟩
      · exact rd_octal m (2 + p) (by omega) (by omega) hm
      · exact rd_bin n (2 + p) (by omega) hn1 hn2 hb
    have hRn : E = .nilIface ∧ n' = n := by
      rcases hR with ⟨h1, h2⟩ | ⟨_, h2⟩
      · rw [hrd] at h2; exact ⟨h1, (Option.some.inj h2).symm⟩
      · rw [hrd] at h2; cases h2
    obtain ⟨rfl, rfl⟩ := hRn
    have h0 : 0 < s.size := by omega
    have MR := Lib.hid mR
    clear hR mR hrd
    have k1 : ((s.size : Int) == 2 + (p : Int)) = true := by simp; omega
    have k2 : (0 : Int) < s.size := by omega
    obtain ⟨M, hM⟩ : ∃ M, M = Num.most (2 + p) := ⟨_, rfl⟩
    rw [← hM] at MM ht
    rcases ht with ⟨rfl, m, rfl, hm, rfl⟩ | ⟨hr, rfl, rfl⟩
    · have hlow : (s[0]'h0).toNat < 128 := by
        rcases hs with ⟨m', e, _, rfl⟩ | ⟨hb, _⟩
        · obtain ⟨c, l, e2, hc⟩ := octal_head m' (2 + p) (by omega)
          have : (⟨(Num.octal m' (2 + p)).toArray⟩ : ByteArray)[0]'h0 = c := by
            show (Num.octal m' (2 + p))[0]'_ = c
            simp [e2]
          rw [this]; exact hc
        · have := hb.2.1; omega
      have k3 : ((s[0]'h0).toNat : Int) < 128 := by omega
      have k4 : (0 : Int) ≤ (m : Int) := by omega
      have k5 : (m : Int) ≤ (M : Int) := by omega
      clear hs hM hsz hlow
      go_enter Tryd.func6, Tryd.ntmps6
      go_wp2_with fail
      refine (fielded_any _).mono ?_
      rintro e w1 ⟨rfl, h1⟩
      have B1 := Lib.hid h1
      clear h1
      go_wp2_with fail
      refine (PK.out _).mono ?_
      rintro e w1 ⟨rfl, rfl⟩
      go_wp2_with fail
      refine (MS.out _).mono ?_
      rintro e w2 ⟨rfl, h2⟩
      have B2 := Lib.hid (thenB B1.out h2)
      clear h2 B1
      go_wp2_with fail
      refine (MR.out _).mono ?_
      rintro e w3 ⟨rfl, h3⟩
      have B3 := Lib.hid (thenB B2.out h3)
      clear h3 B2
      go_wp2_with fail
      refine (MT.out _).mono ?_
      rintro e w4 ⟨rfl, h4⟩
      have B4 := Lib.hid (thenB B3.out h4)
      clear h4 B3
      go_wp2_with fail
      go_quiet ((go_at_call 14; exact Calls.quiet_of_same (MM.out _)))
      go_wp2_with fail
      go_ret
      exact ⟨by simp <;> omega, below_drewN B4.out _⟩
    · have hhi : 128 ≤ (s[0]'h0).toNat := by
        rcases hs with ⟨m', e, h, _⟩ | ⟨hb, rfl⟩
        · rw [hM] at hr; omega
        · obtain ⟨c, l, e2, hc⟩ := bin_head n' (2 + p) (by omega)
          have : (⟨(binLaw n' (2 + p)).toArray⟩ : ByteArray)[0]'h0 = c := by
            show (binLaw n' (2 + p))[0]'_ = c
            simp [e2]
          rw [this]; exact hc
      have k3 : ¬ ((s[0]'h0).toNat : Int) < 128 := by omega
      clear hs hM hsz hhi
      by_cases k4 : n' < 0
      · have k4' : ¬ (0 : Int) ≤ n' := by omega
        have k4d : decide ((0 : Int) ≤ n') = false := by simp; omega
        clear hr
        go_enter Tryd.func6, Tryd.ntmps6
        go_wp2_with fail
        refine (fielded_any _).mono ?_
        rintro e w1 ⟨rfl, h1⟩
        have B1 := Lib.hid h1
        clear h1
        go_wp2_with fail
        refine (PK.out _).mono ?_
        rintro e w1 ⟨rfl, rfl⟩
        go_wp2_with fail
        refine (MS.out _).mono ?_
        rintro e w2 ⟨rfl, h2⟩
        have B2 := Lib.hid (thenB B1.out h2)
        clear h2 B1
        go_wp2_with fail
        refine (MR.out _).mono ?_
        rintro e w3 ⟨rfl, h3⟩
        have B3 := Lib.hid (thenB B2.out h3)
        clear h3 B2
        go_wp2_with fail
        refine (MT.out _).mono ?_
        rintro e w4 ⟨rfl, h4⟩
        have B4 := Lib.hid (thenB B3.out h4)
        clear h4 B3
        go_wp2_with fail
        go_quiet ((go_at_call 14; exact Calls.quiet_of_same (MM.out _)))
        go_wp2_with fail
        go_ret
        exact ⟨by simp <;> omega, below_drewN B4.out _⟩
      · have k4' : (0 : Int) ≤ n' := by omega
        have k5 : ¬ n' ≤ (M : Int) := by omega
        clear hr
        go_enter Tryd.func6, Tryd.ntmps6
        go_wp2_with fail
        refine (fielded_any _).mono ?_
        rintro e w1 ⟨rfl, h1⟩
        have B1 := Lib.hid h1
        clear h1
        go_wp2_with fail
        refine (PK.out _).mono ?_
        rintro e w1 ⟨rfl, rfl⟩
        go_wp2_with fail
        refine (MS.out _).mono ?_
        rintro e w2 ⟨rfl, h2⟩
        have B2 := Lib.hid (thenB B1.out h2)
        clear h2 B1
        go_wp2_with fail
        refine (MR.out _).mono ?_
        rintro e w3 ⟨rfl, h3⟩
        have B3 := Lib.hid (thenB B2.out h3)
        clear h3 B2
        go_wp2_with fail
        refine (MT.out _).mono ?_
        rintro e w4 ⟨rfl, h4⟩
        have B4 := Lib.hid (thenB B3.out h4)
        clear h4 B3
        go_wp2_with fail
        go_quiet ((go_at_call 14; exact Calls.quiet_of_same (MM.out _)))
        go_wp2_with fail
        go_ret
        exact ⟨by simp <;> omega, below_drewN B4.out _⟩
  · have h8 : 2 + (p : Int) < 8 ∨ (¬ 2 + (p : Int) < 8 ∧ (2 + (p : Int) == 8) = true) := by
      rcases hs with h | h | h
      · cases h
      · left; omega
      · right; exact ⟨by omega, by simp; omega⟩
    clear hs
    rcases h8 with h8 | ⟨h8, h9⟩
    all_goals
      go_enter Tryd.func6, Tryd.ntmps6
      go_wp2_with fail
      refine (fielded_any _).mono ?_
      rintro e w1 ⟨rfl, h1⟩
      have B1 := Lib.hid h1
      clear h1
      go_wp2_with fail
      refine (PK.out _).mono ?_
      rintro e w1 ⟨rfl, rfl⟩
      go_wp2_with fail
      refine (MS.out _).mono ?_
      rintro e w2 ⟨rfl, h2⟩
      have B2 := Lib.hid (thenB B1.out h2)
      clear h2 B1
      have hE2 := hE.below B2.out
      go_wp2_with fail
      refine (tell_errno 2 _ hE2).mono ?_
      rintro e w3 ⟨rfl, h3⟩
      have B3 := Lib.hid (thenB B2.out h3)
      clear h3 B2
      go_wp2_with fail
      go_ret
      exact ⟨rfl, B3.out⟩

theorem numberBack_walk (n : Int) (hn : (Lit.int .i64 n).wf = true) (width : Int) (_hw : (Lit.int .i64 width).wf = true) (w : World) (hL : laidMetH Tryd.prog Rows.numberBackRow.laid w) :
    Calls Tryd.prog 6 #[.int .i64 n, .int .i64 width] w fun e w' => e = .returned (.bool true) ∧ Below w.heap.size w w' := by
  have hb := bounds_i64 hn
  exact numberBack_main n hb.1 hb.2 width w (errT_of_laid hL (by simp [Rows.numberBackRow, Rows.laid_errors_errorType]))

end Go.Proofs.YtdnjcfhaplmalaaDoor
