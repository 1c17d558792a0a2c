/-
  The facts of block's laws: blocked, and a header of any bytes.
-/
import Derived.Test.YtighfpcnmgplcaaDoorBkB
namespace Go.Proofs.YtighfpcnmgplcaaDoor
open Go.RowKit

def aaa : List UInt8 := List.replicate 512 97
theorem aaa_sum : Bk.sum false aaa = 49144 := by decide +kernel
theorem aaa_right : rightL aaa = false := by decide +kernel

set_option maxRecDepth 100000 in
set_option maxHeartbeats 1000000 in
theorem blocked_any (w : World) : Calls Tryd.prog 8 #[] w fun e w' => e = .returned (.bool true) ∧ Below w.heap.size w w' := by
  obtain ⟨A, hA, rA⟩ := rep_named 97 512 (by decide)
  have hAs : A.size = 512 := size_rep hA
  have hAl : A.data.toList = aaa := hA
  have rA' : ∀ w : World, Calls Tryd.prog 12 #[.string ⟨#[97]⟩, .int .i64 512] w fun e w' => e = .returned (.string A) ∧ Below w.heap.size w w' := rA
  have hl : aaa.length = 512 := by unfold aaa; simp
  have sS := fun w => seal_any A w (by omega) (by omega)
  obtain ⟨B, hB⟩ : ∃ B, B = sealB A := ⟨_, rfl⟩
  rw [← hB] at sS
  have hBs : B.size = 512 := by rw [hB]; exact sealB_size A (by omega) (by omega)
  have hBl : B.data.toList = Bk.sld aaa := by rw [hB, sealB_list, hAl]
  have sB := fun w => sum_any B false w (by omega) (by omega)
  rw [hBl, Bk.seal_sum false aaa hl, aaa_sum] at sB
  have sR := fun w => right_any B w (by omega) (by omega)
  rw [hBl, right_seal aaa hl] at sR
  have sA := fun w => right_any A w (by omega) (by omega)
  rw [hAl, aaa_right] at sA
  have sP : ∀ w : World, Calls Tryd.prog 15 #[.int .i64 513] w fun e w' => e = .returned (.int .i64 511) ∧ w' = w := fun w => pad_any 513 (by decide) w
  have RA := Lib.hid rA'
  have SS := Lib.hid sS
  have SB := Lib.hid sB
  have SR := Lib.hid sR
  have SA := Lib.hid sA
  have SP := Lib.hid sP
  clear hA rA hAs hAl rA' hl sS hB hBs hBl sB sR sA sP
  go_enter Tryd.func8, Tryd.ntmps8
  go_wp2_with fail
  refine (RA.out _).mono ?_
  rintro e w1 ⟨rfl, h1⟩
  have B1 := Lib.hid h1
  clear h1
  go_wp2_with fail
  refine (SS.out _).mono ?_
  rintro e w2 ⟨rfl, h2⟩
  have B2 := Lib.hid (thenB B1.out h2)
  clear h2 B1
  go_wp2_with fail
  refine (SB.out _).mono ?_
  rintro e w3 ⟨rfl, rfl⟩
  go_wp2_with fail
  refine (SR.out _).mono ?_
  rintro e w4 ⟨rfl, h4⟩
  have B4 := Lib.hid (thenB B2.out h4)
  clear h4 B2
  go_wp2_with fail
  refine (RA.out _).mono ?_
  rintro e w5 ⟨rfl, h5⟩
  have B5 := Lib.hid (thenB B4.out h5)
  clear h5 B4
  go_wp2_with fail
  refine (SA.out _).mono ?_
  rintro e w6 ⟨rfl, h6⟩
  have B6 := Lib.hid (thenB B5.out h6)
  clear h6 B5
  go_wp2_with fail
  refine (SP.out _).mono ?_
  rintro e w7 ⟨rfl, rfl⟩
  go_wp2_with fail
  go_ret
  exact ⟨rfl, B6.out⟩

/-- a text filled up or cut to a block -/
def blockOf (s : ByteArray) : ByteArray := ⟨((s.data.toList ++ List.replicate 512 0).take 512).toArray⟩
theorem blockOf_size (s : ByteArray) : (blockOf s).size = 512 := by
  show ((s.data.toList ++ List.replicate 512 0).take 512).length = 512
  rw [List.length_take, List.length_append, List.length_replicate]; omega

theorem header_big (s : ByteArray) (w : World) (h : 600 < s.size) : Calls Tryd.prog 9 #[.string s] w fun e w' => e = .returned (.tuple #[.string ⟨#[]⟩, .bool false]) ∧ w' = w := by
  have h' : (600 : Int) < s.size := by omega
  go_enter Tryd.func9, Tryd.ntmps9
  go_wp2_with fail
  go_ret2
  exact ⟨rfl, rfl⟩

theorem header_any (s : ByteArray) (w : World) (h : s.size ≤ 600) : Calls Tryd.prog 9 #[.string s] w fun e w' => e = .returned (.tuple #[.string (sealB (blockOf s)), .bool true]) ∧ Below w.heap.size w w' := by
  have h' : (s.size : Int) ≤ 600 := by omega
  obtain ⟨A, hA, rA⟩ := rep_named 0 512 (by decide)
  have hAs : A.size = 512 := size_rep hA
  have rA' : ∀ w : World, Calls Tryd.prog 12 #[.string ⟨#[0]⟩, .int .i64 512] w fun e w' => e = .returned (.string A) ∧ Below w.heap.size w w' := rA
  have he : (s ++ A).extract 0 512 = blockOf s := ba_ext (by rw [ext_to, cat_list, hA]; rfl)
  have c1 := fun w => run_string_add_sum (P := Tryd.prog) w s A (by omega)
  have hz : (s ++ A).size = s.size + 512 := by rw [ByteArray.size_append, hAs]
  have hz2 : (512 : Int) ≤ (s ++ A).size := by omega
  have hsl := fun w => run_slice_string (P := Tryd.prog) (w := w)
  have sS := fun w => seal_any (blockOf s) w (by rw [blockOf_size]; exact Nat.le_refl _) (by rw [blockOf_size]; exact Nat.le_refl _)
  have hBs := sealB_size (blockOf s) (by rw [blockOf_size]; exact Nat.le_refl _) (by rw [blockOf_size]; exact Nat.le_refl _)
  have hB2 : ((sealB (blockOf s)).size : Int) = 512 := by omega
  have RA := Lib.hid rA'
  have SS := Lib.hid sS
  have HE := Lib.hid he
  clear hA rA hAs rA' sS he hBs hz hsl
  go_enter Tryd.func9, Tryd.ntmps9
  go_wp2_with fail
  refine (RA.out _).mono ?_
  rintro e w1 ⟨rfl, h1⟩
  have B1 := Lib.hid h1
  clear h1
  go_wp2_with fail
  rw [HE.out]
  refine (SS.out _).mono ?_
  rintro e w2 ⟨rfl, h2⟩
  have B2 := Lib.hid (thenB B1.out h2)
  clear h2 B1
  go_wp2_with fail
  go_ret2
  exact ⟨rfl, B2.out⟩

end Go.Proofs.YtighfpcnmgplcaaDoor
