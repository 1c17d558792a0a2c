/-
  The walk of HolePieces.
-/
import Derived.Test.YtjlglmfogldbkaaDoorHoleF
import Derived.Test.YtjlglmfogldbkaaDoorPick
namespace Go.Proofs.YtjlglmfogldbkaaDoor
open Go.RowKit

set_option maxRecDepth 100000 in
set_option maxHeartbeats 4000000 in
theorem holePieces_walk (s : ByteArray) (ss : s.size ≤ 140737488351232) (t : ByteArray) (tt : t.size ≤ 140737488351232) (step : Int) (_hst : (Lit.int .i64 step).wf = true) (w : World) :
    Calls Tryd.prog 3 #[.string s, .string t, .int .i64 step] w fun e w' => e = .returned (.bool true) ∧ Below w.heap.size w w' := by
  by_cases hbig : 600 < s.size + t.size
  · have hb' : (600 : Int) < (s.size : Int) + (t.size : Int) := by omega
    clear hbig
    go_enter Tryd.func3, Tryd.ntmps3
    go_wp2_with fail
    refine (holed_any _).mono ?_
    rintro e w1 ⟨rfl, h1⟩
    have B1 := Lib.hid h1
    clear h1
    go_wp2_with fail
    go_ret
    exact ⟨rfl, B1.out⟩
  have hb' : ¬ (600 : Int) < (s.size : Int) + (t.size : Int) := by omega
  have p0 := pickN_lo step 20 (by omega)
  have p1 := pickN_hi step 20 (by omega)
  obtain ⟨p, hp⟩ := Int.eq_ofNat_of_zero_le p0
  have hpick := fun w => pick_any step 20 w (by omega) (by omega)
  rw [hp] at hpick p0 p1
  clear hp
  obtain ⟨q, hq⟩ : ∃ q, q = s.size / (1 + p) := ⟨_, rfl⟩
  have hqd : ((s.size : Int)).tdiv (1 + (p : Int)) = q := by
    rw [hq]
    have e : (1 + (p : Int)) = ((1 + p : Nat) : Int) := by omega
    rw [e]; rfl
  obtain ⟨N, hN⟩ : ∃ N, N = q * (1 + p) := ⟨_, rfl⟩
  have hqm : (q : Int) * (1 + (p : Int)) = N := by
    rw [hN]
    have e : (1 + (p : Int)) = ((1 + p : Nat) : Int) := by omega
    rw [e]; exact (Int.natCast_mul q (1 + p)).symm
  have hNs : N ≤ s.size := by rw [hN, hq]; exact Nat.div_mul_le_self _ _
  have hqs : q ≤ s.size := by rw [hq]; exact Nat.div_le_self _ _
  obtain ⟨S, hS⟩ : ∃ S, S = s.extract 0 N := ⟨_, rfl⟩
  have hSs : S.size = N := by rw [hS, ext_size s 0 N hNs]; omega
  have law := Hol.find_two S.data.toList t.data.toList (1 + p) q (by omega) (by rw [list_size, hSs, hN])
  rw [← cat_list] at law
  have fa := fun w => find_any S (1 + p) w (by omega) (by omega) (by omega)
  have fb := fun w => find_any t (1 + p) w (by omega) (by omega) (by omega)
  have fc := fun w => find_any (S ++ t) (1 + p) w (by rw [ByteArray.size_append]; omega) (by omega) (by omega)
  obtain ⟨qa, hqa⟩ : ∃ x, x = Hol.find S.data.toList (1 + p) := ⟨_, rfl⟩
  obtain ⟨qb, hqb⟩ : ∃ x, x = Hol.find t.data.toList (1 + p) := ⟨_, rfl⟩
  obtain ⟨qc, hqc⟩ : ∃ x, x = Hol.find (S ++ t).data.toList (1 + p) := ⟨_, rfl⟩
  have za := Hol.asc_size _ qa 0 (by rw [hqa]; exact Hol.find_asc S.data.toList (1 + p) (by omega)) (by omega)
  have zb := Hol.asc_size _ qb 0 (by rw [hqb]; exact Hol.find_asc t.data.toList (1 + p) (by omega)) (by omega)
  have zc := Hol.asc_size _ qc 0 (by rw [hqc]; exact Hol.find_asc (S ++ t).data.toList (1 + p) (by omega)) (by omega)
  rw [list_size] at za zb zc
  rw [ByteArray.size_append] at zc
  rw [← hqa, ← hqb, ← hqc] at law
  rw [← hqa] at fa
  rw [← hqb] at fb
  rw [← hqc] at fc
  obtain ⟨l1, l2, l3⟩ := law
  have ec : ((1 + p : Nat) : Int) = 1 + (p : Int) := by omega
  rw [ec] at fa fb fc
  have c1 := fun w => run_string_add_sum (P := Tryd.prog) w S t (by omega)
  have k1 : (N : Int) ≤ s.size := by omega
  have k2 : (q : Int) ≤ 600 := by omega
  have m1 : Hol.size qa ≤ 602 := by omega
  have m2 : Hol.size qb ≤ 602 := by omega
  have m3 : Hol.size qc ≤ 602 := by omega
  have e1 : (((Hol.size qa : Int) + (Hol.size qb : Int)) == (Hol.size qc : Int)) = true := by simp; omega
  have e2 : (qc.length : Int) ≤ (qa.length : Int) + (qb.length : Int) := by omega
  have e3 : (qa.length : Int) + (qb.length : Int) - 1 ≤ (qc.length : Int) := by omega
  have e4 : (qa.length : Int) + (qb.length : Int) ≤ (qc.length : Int) + 1 := by omega
  have FA := Lib.hid fa
  have FB := Lib.hid fb
  have FC := Lib.hid fc
  have PK := Lib.hid hpick
  have hS' := hS.symm
  clear fa fb fc hpick za zb zc hqa hqb hqc l1 hS hSs hN hq ec hbig hNs hqs ss tt
  go_enter Tryd.func3, Tryd.ntmps3
  go_wp2_with fail
  refine (holed_any _).mono ?_
  rintro e w1 ⟨rfl, h1⟩
  have B1 := Lib.hid h1
  clear h1
  go_wp2_with fail
  refine (PK.out _).mono ?_
  rintro e w1 ⟨rfl, rfl⟩
  go_wp2_with fail
  refine (FA.out _).mono ?_
  rintro e w2 ⟨va, Ea, rfl, hA, hb2⟩
  have B2 := Lib.hid (thenB B1.out hb2)
  have HA := Lib.hid hA
  clear hb2 hA B1
  go_wp2_with fail
  refine (FB.out _).mono ?_
  rintro e w3 ⟨vb, Eb, rfl, hB, hb3⟩
  have HB3 := Lib.hid hb3
  have B3 := Lib.hid (thenB B2.out hb3)
  have HB := Lib.hid hB
  clear hb3 hB
  go_wp2_with fail
  refine (FC.out _).mono ?_
  rintro e w4 ⟨vc, Ec, rfl, hC, hb4⟩
  have HB4 := Lib.hid hb4
  have B4 := Lib.hid (thenB B3.out hb4)
  have HC := Lib.hid hC
  clear hb4 hC
  rcases HA.out with ⟨hla, rfl, hpa⟩ | ⟨_, rfl, rfl⟩
  · rcases HB.out with ⟨hlb, rfl, hpb⟩ | ⟨_, rfl, rfl⟩
    · rcases HC.out with ⟨hlc, rfl, hpc⟩ | ⟨_, rfl, rfl⟩
      · obtain ⟨Xa, ca, rfl, _⟩ := hpa.form
        obtain ⟨Xb, cb, rfl, _⟩ := hpb.form
        obtain ⟨Xc, cc, rfl, _⟩ := hpc.form
        have pa := ((hpa.later HB3.out).later HB4.out).pcs
        have pb := (hpb.later HB4.out).pcs
        have pc := hpc.pcs
        have PA := Lib.hid pa
        have PB := Lib.hid pb
        have PC := Lib.hid pc
        clear pa pb pc hpa hpb hpc HA HB HC
        go_wp2_with fail
        refine (size_any _ qa _ PA.out (by omega) (by omega)).mono ?_
        rintro e w5 ⟨rfl, h5⟩
        have D5 := Lib.hid h5
        clear h5
        go_wp2_with fail
        refine (size_any _ qb _ (PB.out.below D5.out) (by omega) (by omega)).mono ?_
        rintro e w6 ⟨rfl, h6⟩
        have D6 := Lib.hid (thenB D5.out h6)
        clear h6
        go_wp2_with fail
        refine (size_any _ qc _ (PC.out.below D6.out) (by omega) (by omega)).mono ?_
        rintro e w7 ⟨rfl, h7⟩
        have D7 := Lib.hid (thenB D6.out h7)
        clear h7
        go_wp2_with fail
        go_ret
        exact ⟨rfl, thenB B4.out D7.out⟩
      · go_wp2_with fail
        go_ret
        exact ⟨rfl, B4.out⟩
    · go_wp2_with fail
      go_ret
      exact ⟨rfl, B4.out⟩
  · go_wp2_with fail
    go_ret
    exact ⟨rfl, B4.out⟩

end Go.Proofs.YtjlglmfogldbkaaDoor
