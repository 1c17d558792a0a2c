/-
  The walk of HoleBack.
-/
import Derived.Test.YtjlglmfogldbkaaDoorHoleG
import Derived.Test.YtjlglmfogldbkaaDoorPick
import Derived.Test.YtjlglmfogldbkaaDoorTell
namespace Go.Proofs.YtjlglmfogldbkaaDoor
open Go.RowKit

set_option maxRecDepth 100000 in
set_option maxHeartbeats 4000000 in
theorem holeBack_main (s : ByteArray) (step : Int) (w : World) (hE : ErrT w) :
    Calls Tryd.prog 5 #[.string s, .int .i64 step] w fun e w' => e = .returned (.bool true) ∧ Below w.heap.size w w' := by
  by_cases hbig : 600 < s.size
  · have hb' : (600 : Int) < (s.size : Int) := by omega
    clear hbig hE
    go_enter Tryd.func5, Tryd.ntmps5
    go_wp2_with fail
    refine (holed_any _).mono ?_
    rintro e w1 ⟨rfl, h1⟩
    have B1 := Lib.hid h1
    clear h1
    go_wp2_with fail
    go_ret
    exact ⟨rfl, B1.out⟩
  have hb' : ¬ (600 : Int) < (s.size : Int) := by omega
  have p0 := pickN_lo step 40 (by omega)
  have p1 := pickN_hi step 40 (by omega)
  obtain ⟨p, hp⟩ := Int.eq_ofNat_of_zero_le p0
  have hpick := fun w => pick_any step 40 w (by omega) (by omega)
  rw [hp] at hpick p0 p1
  clear hp
  have fa := fun w => find_any s (1 + p) w (by omega) (by omega) (by omega)
  have hA := Hol.find_asc s.data.toList (1 + p) (by omega)
  have hback := Hol.back_law s.data.toList (1 + p) (by omega)
  have heach := Hol.each_law s.data.toList (1 + p)
  obtain ⟨qs, hqs⟩ : ∃ x, x = Hol.find s.data.toList (1 + p) := ⟨_, rfl⟩
  rw [← hqs] at fa hA hback heach
  rw [list_size] at hA hback
  have hzs := Hol.asc_size _ qs 0 hA (by omega)
  have htl := Hol.take_len s.data.toList qs 0 (by rw [list_size]; exact hA)
  obtain ⟨D, hD⟩ : ∃ D : ByteArray, D = ⟨(Hol.take s.data.toList qs).toArray⟩ := ⟨_, rfl⟩
  have hDl : D.data.toList = Hol.take s.data.toList qs := by rw [hD]
  have hDs : D.size = Hol.size qs := by rw [← list_size, hDl, htl]
  have hput : (⟨(Hol.put D.data.toList qs s.size).toArray⟩ : ByteArray) = s := ba_ext (by rw [hDl]; exact hback)
  have ec : ((1 + p : Nat) : Int) = 1 + (p : Int) := by omega
  rw [ec] at fa
  have tk := fun v w (hP : Pcs w v (qs.map Hol.castP)) (hl : qs.length ≤ 20) => take_any s v qs w hP hA hl (by omega)
  rw [← hD] at tk
  have pt := fun v w (hP : Pcs w v (qs.map Hol.castP)) (hl : qs.length ≤ 20) => put_any D v qs s.size w hP hA hl (by omega) hDs.symm
  rw [hput] at pt
  have rt := fun v w (hP : Pcs w v (qs.map Hol.castP)) (hl : qs.length ≤ 20) => right_asc hP hA hl (by omega)
  have sz := fun v w (hP : Pcs w v (qs.map Hol.castP)) (hl : qs.length ≤ 20) => size_any v qs w hP (by omega) (by omega)
  have k1 : ((Hol.size qs : Int) != (D.size : Int)) = false := by simp; omega
  have FA := Lib.hid fa
  have TK := Lib.hid tk
  have PT := Lib.hid pt
  have RT := Lib.hid rt
  have SZ := Lib.hid sz
  have PK := Lib.hid hpick
  have HA := Lib.hid hA
  have HEA := Lib.hid heach
  clear fa tk pt rt sz hpick hA heach hback hqs hD hDl hDs hput htl hzs ec hbig
  go_enter Tryd.func5, Tryd.ntmps5
  go_wp2_with fail
  refine (holed_any _).mono ?_
  rintro e w1 ⟨rfl, h1⟩
  have B1 := Lib.hid h1
  clear h1
  go_wp2_with fail
  refine (PK.out _).mono ?_
  rintro e w1 ⟨rfl, rfl⟩
  go_wp2_with fail
  refine (FA.out _).mono ?_
  rintro e w2 ⟨va, Ea, rfl, hA, hb2⟩
  have B2 := Lib.hid (thenB B1.out hb2)
  clear hb2 B1
  rcases hA with ⟨hla, rfl, hpa⟩ | ⟨_, rfl, rfl⟩
  · have hP := hpa.pcs
    have hways := rowq_ways hP
    have HP := Lib.hid hP
    have hle : qs.length ≤ 20 := hla
    clear hpa hE hP
    rcases hways with ⟨A, cap, rfl, h0⟩ | ⟨b, off, cap, rfl, hb, h0, hc⟩
    · have hq0 : qs.length = 0 := by rw [h0]; rfl
      have HQ := Lib.hid h0
      clear h0 hq0
      go_wp2_with fail
      refine (TK.out _ _ HP.out hla).mono ?_
      rintro e w3 ⟨rfl, h3⟩
      have D3 := Lib.hid h3
      clear h3
      go_wp2_with fail
      refine (PT.out _ _ (HP.out.below D3.out) hla).mono ?_
      rintro e w4 ⟨rfl, h4⟩
      have D4 := Lib.hid (thenB D3.out h4)
      clear h4 D3
      go_wp2_with fail
      refine (RT.out _ _ (HP.out.below D4.out) hla).mono ?_
      rintro e w5 ⟨rfl, h5⟩
      have D5 := Lib.hid (thenB D4.out h5)
      clear h5 D4
      go_wp2_with fail
      refine (SZ.out _ _ (HP.out.below D5.out) hla).mono ?_
      rintro e w6 ⟨rfl, h6⟩
      have D6 := Lib.hid (thenB D5.out h6)
      clear h6 D5
      go_wp2_with fail
      refine wp_loop_rounds 1 ?_
      rw [rounds_succ]
      go_wp2_with fail
      go_ret
      exact ⟨rfl, thenB B2.out D6.out⟩
    · have HC := Lib.hid hc
      clear hc
      go_wp2_with fail
      refine (TK.out _ _ HP.out hla).mono ?_
      rintro e w3 ⟨rfl, h3⟩
      have D3 := Lib.hid h3
      clear h3
      go_wp2_with fail
      refine (PT.out _ _ (HP.out.below D3.out) hla).mono ?_
      rintro e w4 ⟨rfl, h4⟩
      have D4 := Lib.hid (thenB D3.out h4)
      clear h4 D3
      go_wp2_with fail
      refine (RT.out _ _ (HP.out.below D4.out) hla).mono ?_
      rintro e w5 ⟨rfl, h5⟩
      have D5 := Lib.hid (thenB D4.out h5)
      clear h5 D4
      go_wp2_with fail
      refine (SZ.out _ _ (HP.out.below D5.out) hla).mono ?_
      rintro e w6 ⟨rfl, h6⟩
      have D6 := Lib.hid (thenB D5.out h6)
      clear h6 D5
      go_wp2_with fail
      go_loopg [73] (qs.length) (fun g iv wr => ∃ i : Nat, iv = .int .i64 i ∧ i ≤ qs.length ∧ g + i = qs.length ∧ Below w2.heap.size w2 wr)
      case atStart => exact ⟨0, rfl, by omega, by omega, D6.out⟩
      case round =>
        obtain ⟨i, rfl, hi1, hg, hbw⟩ := hrel
        have Hg := Lib.hid hg
        have HW := Lib.hid hbw
        clear hg hbw D6
        by_cases hi : i < qs.length
        · have hi3 : (i : Int) < qs.length := by omega
          have c1 := (HW.out.cell (p := ⟨b, off + i * 2, none⟩) hb).trans (HC.out i hi).1
          have c2 := (HW.out.cell (p := ⟨b, off + i * 2 + 1, none⟩) hb).trans (HC.out i hi).2
          have hm := asc_mem s.size qs 0 HA.out qs[i] (List.getElem_mem hi)
          have he := HEA.out qs[i] (List.getElem_mem hi)
          have hcut : (s.extract qs[i].1 (qs[i].1 + qs[i].2)).data.toList = Hol.cut s.data.toList qs[i] := by rw [ext_mid]; rfl
          obtain ⟨T, hT, rT⟩ := trim_named (s.extract qs[i].1 (qs[i].1 + qs[i].2)) (by rw [ext_size _ _ _ hm.2]; omega)
          rw [hcut, he.2] at hT
          have hmod : ((qs[i].1 : Int)).tmod (1 + (p : Int)) = 0 := by
            have e : 1 + (p : Int) = ((1 + p : Nat) : Int) := by omega
            rw [e]
            show ((qs[i].1 % (1 + p) : Nat) : Int) = 0
            rw [he.1]; rfl
          obtain ⟨a, ha⟩ : ∃ a, a = qs[i].1 := ⟨_, rfl⟩
          obtain ⟨t, ht⟩ : ∃ t, t = qs[i].2 := ⟨_, rfl⟩
          rw [← ha] at c1 hmod
          rw [← ht] at c2
          rw [← ha, ← ht] at hm rT
          obtain ⟨m1, m2⟩ := hm
          have m3 : (a : Int) + t ≤ s.size := by omega
          have RR := Lib.hid rT
          clear ha ht hcut he rT
          go_wp2_with fail
          refine (RR.out _).mono ?_
          rintro e w7 ⟨rfl, h7⟩
          have D7 := Lib.hid (((HW.out.alloc HW.out.size _)).trans (h7.mono (by have := HW.out.size; simp; omega)))
          have cc := (h7.cell (p := ⟨wr.heap.size, 0, none⟩) (by simp)).trans ((Blk.new wr 36 #[.int .i64 (a : Int), .int .i64 (t : Int)]).cell 0)
          clear h7
          go_wp2_with fail
          go_roundg (qs.length - (i + 1))
          case measure => have := Hg.out; omega
          case rel => exact ⟨i + 1, by go_num, by omega, by omega, D7.out⟩
        · have hi3 : (qs.length : Int) ≤ i := by omega
          go_wp2_with fail
          go_ret
          exact ⟨rfl, thenB B2.out HW.out⟩
  · have hE2 := hE.below B2.out
    go_wp2_with fail
    refine (tell_errno 4 _ hE2).mono ?_
    rintro e w3 ⟨rfl, h3⟩
    have B3 := Lib.hid (thenB B2.out h3)
    clear h3 B2
    go_wp2_with fail
    go_ret
    exact ⟨rfl, B3.out⟩

theorem holeBack_walk (s : ByteArray) (_ss : s.size ≤ 140737488351232) (step : Int) (_hst : (Lit.int .i64 step).wf = true) (w : World) (hL : laidMetH Tryd.prog Rows.holeBackRow.laid w) :
    Calls Tryd.prog 5 #[.string s, .int .i64 step] w fun e w' => e = .returned (.bool true) ∧ Below w.heap.size w w' :=
  holeBack_main s step w (errT_of_laid hL (by simp [Rows.holeBackRow, Rows.laid_errors_errorType]))

end Go.Proofs.YtjlglmfogldbkaaDoor
