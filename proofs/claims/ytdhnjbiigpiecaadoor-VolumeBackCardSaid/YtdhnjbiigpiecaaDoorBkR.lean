/-
  block.Seal and block.Right.
-/
import Derived.Test.YtdhnjbiigpiecaaDoorBkS
namespace Go.Proofs.YtdhnjbiigpiecaaDoor
open Go.RowKit

def sealB (s : ByteArray) : ByteArray := ⟨(Bk.sld s.data.toList).toArray⟩
theorem sealB_list (s : ByteArray) : (sealB s).data.toList = Bk.sld s.data.toList := rfl
theorem sealB_size (s : ByteArray) (h1 : s.size ≤ 512) (h2 : 512 ≤ s.size) : (sealB s).size = 512 := by
  have := Bk.seal_len s.data.toList (by rw [list_size]; omega)
  rw [← sealB_list, list_size] at this
  exact this

theorem seal_any (s : ByteArray) (w : World) (h1 : s.size ≤ 512) (h2 : 512 ≤ s.size) :
    Calls Tryd.prog 31 #[.string s] w fun e w' => e = .returned (.tuple #[.string (sealB s), .nilIface]) ∧ Below w.heap.size w w' := by
  have hl : s.data.toList.length = 512 := by rw [list_size]; omega
  obtain ⟨b1, b2⟩ := Bk.sum_small s.data.toList hl
  obtain ⟨n, hn⟩ : ∃ n, n = (Bk.sum false s.data.toList).toNat := ⟨_, rfl⟩
  have hs := fun w => sum_any s false w h1 h2
  rw [← b2] at hs
  have ho := fun w => octal_any n 7 w (by decide) (by decide) (by rw [hn]; exact b1)
  obtain ⟨D, hD⟩ : ∃ D : ByteArray, D = ⟨(Num.octal n 7).toArray⟩ := ⟨_, rfl⟩
  rw [← hD] at ho
  have hDs : D.size = 7 := by rw [hD]; exact Bk.octal_len n 7
  have he : s.extract 0 148 ++ D ++ ⟨#[32]⟩ ++ s.extract 156 s.size = sealB s := ba_ext (by
    rw [cat_list, cat_list, cat_list, ext_to, ext_end, hD, sealB_list, hn]
    rfl)
  have x1 := ext_size s 0 148 (by omega)
  have x2 := ext_size s 156 s.size (by omega)
  have c1 := fun w => run_string_add_sum (P := Tryd.prog) w (s.extract 0 148) D (by omega)
  have c2 := fun w => run_string_add_sum (P := Tryd.prog) w (s.extract 0 148 ++ D) ⟨#[32]⟩ (by rw [ByteArray.size_append]; show _ + 1 ≤ _; omega)
  have c3 := fun w => run_string_add_sum (P := Tryd.prog) w (s.extract 0 148 ++ D ++ ⟨#[32]⟩) (s.extract 156 s.size) (by rw [ByteArray.size_append, ByteArray.size_append]; show _ + 1 + _ ≤ _; omega)
  rw [← hn] at hs
  have HE := Lib.hid he
  have HS := Lib.hid hs
  have HO := Lib.hid ho
  clear hs ho he hn b1 b2 hl hD hDs x1 x2
  go_enter Tryd.func31, Tryd.ntmps31
  go_wp2_with fail
  refine (HS.out _).mono ?_
  rintro e w1 ⟨rfl, rfl⟩
  go_wp2_with fail
  refine (HO.out _).mono ?_
  rintro e w2 ⟨rfl, hb⟩
  have HB := Lib.hid hb
  clear hb
  go_wp2_with fail
  go_quiet (fail)
  go_wp2_with fail
  go_ret2
  rw [HE.out]
  exact ⟨rfl, below_drewN HB.out _⟩

theorem right_any (s : ByteArray) (w : World) (h1 : s.size ≤ 512) (h2 : 512 ≤ s.size) :
    Calls Tryd.prog 47 #[.string s] w fun e w' => e = .returned (.bool (rightL s.data.toList)) ∧ Below w.heap.size w w' := by
  have hn : ((s.size : Int) != 512) = false := by simp; omega
  have x1 := ext_size s 148 156 (by omega)
  obtain ⟨n, E, mR, hR⟩ := read_named (s.extract 148 156) (by omega) (by omega)
  have ht : rd (s.extract 148 156).data.toList = toldL s.data.toList := congrArg rd (ext_mid s 148 8)
  rw [ht] at hR
  have i0 : ∀ w, (Instr.index 131 (.agg #[.bool false, .bool true]) (.int .i64 0)).run Tryd.prog w = .ok (.bool false) w := fun _ => by kernel_rfl
  have i1 : ∀ w, (Instr.index 131 (.agg #[.bool false, .bool true]) (.int .i64 1)).run Tryd.prog w = .ok (.bool true) w := fun _ => by kernel_rfl
  have HR := Lib.hid mR
  clear mR ht
  rcases hR with ⟨rfl, hr⟩ | ⟨⟨k, rfl⟩, hr⟩
  · have hv : rightL s.data.toList = (decide (Bk.sum false s.data.toList = n) || decide (Bk.sum true s.data.toList = n)) := by unfold rightL; rw [hr]
    have HV := Lib.hid hv
    clear hv hr
    go_enter Tryd.func47, Tryd.ntmps47
    go_wp2_with fail
    refine (HR.out _).mono ?_
    rintro e w1 ⟨rfl, hb⟩
    have HB := Lib.hid hb
    clear hb
    go_wp2_with fail
    have HF := Lib.hid (fun w => sum_any s false w h1 h2)
    have HT := Lib.hid (fun w => sum_any s true w h1 h2)
    obtain ⟨a, ha⟩ : ∃ a, a = Bk.sum false s.data.toList := ⟨_, rfl⟩
    obtain ⟨b, hb⟩ : ∃ b, b = Bk.sum true s.data.toList := ⟨_, rfl⟩
    rw [← ha] at HF HV
    rw [← hb] at HT HV
    clear ha hb
    by_cases ha : a = n
    · subst ha
      refine wp_loop_rounds 1 ?_
      rw [rounds_succ]
      go_wp2_with fail
      refine (HF.out _).mono ?_
      rintro e w2 ⟨rfl, rfl⟩
      go_wp2_with fail
      go_ret
      rw [HV.out]
      exact ⟨by simp, HB.out⟩
    · have ha' : (a == n) = false := by simpa using ha
      have HA := Lib.hid ha
      clear ha
      by_cases hb : b = n
      · subst hb
        refine wp_loop_rounds 2 ?_
        rw [rounds_succ]
        go_wp2_with fail
        refine (HF.out _).mono ?_
        rintro e w2 ⟨rfl, rfl⟩
        go_wp2_with fail
        rw [rounds_succ]
        go_wp2_with fail
        refine (HT.out _).mono ?_
        rintro e w2 ⟨rfl, rfl⟩
        go_wp2_with fail
        go_ret
        rw [HV.out]
        exact ⟨by simp, HB.out⟩
      · have hb' : (b == n) = false := by simpa using hb
        have HN := Lib.hid hb
        clear hb
        refine wp_loop_rounds 3 ?_
        rw [rounds_succ]
        go_wp2_with fail
        refine (HF.out _).mono ?_
        rintro e w2 ⟨rfl, rfl⟩
        go_wp2_with fail
        rw [rounds_succ]
        go_wp2_with fail
        refine (HT.out _).mono ?_
        rintro e w2 ⟨rfl, rfl⟩
        go_wp2_with fail
        rw [rounds_succ]
        go_wp2_with fail
        go_ret
        rw [HV.out]
        exact ⟨by simp [HA.out, HN.out], HB.out⟩
  · have hv : rightL s.data.toList = false := by unfold rightL; rw [hr]
    have HV := Lib.hid hv
    clear hv hr
    go_enter Tryd.func47, Tryd.ntmps47
    go_wp2_with fail
    refine (HR.out _).mono ?_
    rintro e w1 ⟨rfl, hb⟩
    have HB := Lib.hid hb
    clear hb
    go_wp2_with fail
    go_ret
    rw [HV.out]
    exact ⟨rfl, HB.out⟩

end Go.Proofs.YtdhnjbiigpiecaaDoor
