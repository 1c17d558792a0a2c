/-
  The walk of BlockTwo.
-/
import Derived.Test.YtighfpcnmgplcaaDoorBkC
import Derived.Deep.RegionHeld3
namespace Go.Proofs.YtighfpcnmgplcaaDoor
open Go.RowKit

set_option maxRecDepth 100000 in
set_option maxHeartbeats 2000000 in
theorem blockTwo_walk (s : ByteArray) (hs : s.size ≤ 140737488351232) (t : ByteArray) (ht : t.size ≤ 140737488351232) (w : World) :
    Calls Tryd.prog 6 #[.string s, .string t] w fun e w' => e = .returned (.bool true) ∧ Below w.heap.size w w' := by
  by_cases hbig : 3000 < s.size + t.size
  · have hb' : (3000 : Int) < (s.size : Int) + (t.size : Int) := by omega
    clear hbig
    go_enter Tryd.func6, Tryd.ntmps6
    go_wp2_with fail
    refine (blocked_any _).mono ?_
    rintro e w1 ⟨rfl, h1⟩
    have B1 := Lib.hid h1
    clear h1
    go_wp2_with fail
    go_ret
    exact ⟨rfl, B1.out⟩
  · have hb' : ¬ (3000 : Int) < (s.size : Int) + (t.size : Int) := by omega
    have hp := Bk.pad_lt s.size
    have hq := Bk.pad_lt t.size
    have hSs := fillB_size s
    have hTs := fillB_size t
    have rS := fun w => fill_any s (by omega) w
    have rT := fun w => fill_any t (by omega) w
    obtain ⟨S, hS⟩ : ∃ S, S = fillB s := ⟨_, rfl⟩
    obtain ⟨T, hT⟩ : ∃ T, T = fillB t := ⟨_, rfl⟩
    have hU : fillB (S ++ t) = S ++ T := ba_ext (by rw [fillB_list, cat_list, cat_list, hS, hT, fillB_list, fillB_list, Bk.fill_two])
    have rU := fun w => fill_any (S ++ t) (by rw [ByteArray.size_append, hS]; omega) w
    rw [hU] at rU
    rw [← hS] at rS hSs
    rw [← hT] at rT hTs
    have rP := fun w => pad_any s.size (by omega) w
    have rQ := fun w => pad_any (s.size + t.size) (by omega) w
    obtain ⟨p, hpp⟩ : ∃ p, p = Bk.pad s.size := ⟨_, rfl⟩
    obtain ⟨q, hqq⟩ : ∃ q, q = Bk.pad (s.size + t.size) := ⟨_, rfl⟩
    rw [← hpp] at rP hSs hp
    rw [← hqq] at rQ
    have hec : ((s.size + t.size : Nat) : Int) = (s.size : Int) + (t.size : Int) := by omega
    rw [hec] at rQ
    have c1 := fun w => run_string_add_sum (P := Tryd.prog) w S t (by omega)
    have c2 := fun w => run_string_add_sum (P := Tryd.prog) w S T (by omega)
    have e4 : (S.size : Int) ≤ 4000 := by omega
    have e6 : (p : Int) < 512 := by omega
    have HS := Lib.hid hSs
    have EW : Hid ((S.size : Int) + (t.size : Int) - (p : Int) = (s.size : Int) + (t.size : Int)) := by show _ = _; omega
    have RS := Lib.hid rS
    have RT := Lib.hid rT
    have RU := Lib.hid rU
    have RP := Lib.hid rP
    have RQ := Lib.hid rQ
    clear rS rT rU rP rQ hU hS hT hSs hTs hp hq hpp hqq hec hbig
    go_enter Tryd.func6, Tryd.ntmps6
    go_wp2_with fail
    refine (blocked_any _).mono ?_
    rintro e w1 ⟨rfl, h1⟩
    have B1 := Lib.hid h1
    clear h1
    go_wp2_with fail
    refine (RS.out _).mono ?_
    rintro e w2 ⟨rfl, h2⟩
    have B2 := Lib.hid (thenB B1.out h2)
    clear h2 B1
    go_wp2_with fail
    refine (RU.out _).mono ?_
    rintro e w3 ⟨rfl, h3⟩
    have B3 := Lib.hid (thenB B2.out h3)
    clear h3 B2
    go_wp2_with fail
    refine (RS.out _).mono ?_
    rintro e w4 ⟨rfl, h4⟩
    have B4 := Lib.hid (thenB B3.out h4)
    clear h4 B3
    go_wp2_with fail
    refine (RT.out _).mono ?_
    rintro e w5 ⟨rfl, h5⟩
    have B5 := Lib.hid (thenB B4.out h5)
    clear h5 B4
    go_wp2_with fail
    refine (RQ.out _).mono ?_
    rintro e w6 ⟨rfl, rfl⟩
    go_wp2_with fail
    refine (RS.out _).mono ?_
    rintro e w7 ⟨rfl, h7⟩
    have B7 := Lib.hid (thenB B5.out h7)
    clear h7 B5
    go_wp2_with fail
    refine (RP.out _).mono ?_
    rintro e w8 ⟨rfl, rfl⟩
    go_wp2_with fail
    rw [EW.out]
    refine (RQ.out _).mono ?_
    rintro e w9 ⟨rfl, rfl⟩
    go_wp2_with fail
    go_ret
    exact ⟨by simp, B7.out⟩

end Go.Proofs.YtighfpcnmgplcaaDoor
