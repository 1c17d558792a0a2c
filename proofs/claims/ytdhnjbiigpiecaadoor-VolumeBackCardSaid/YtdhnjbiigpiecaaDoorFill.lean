/-
  block.Pad, Fill.
-/
import Derived.Test.YtdhnjbiigpiecaaDoorBkLaws
import Derived.Test.YtdhnjbiigpiecaaDoorNumN
import Derived.Test.YtdhnjbiigpiecaaDoorRep
import Derived.Deep.LoopGhost
namespace Go.Proofs.YtdhnjbiigpiecaaDoor
open Go.RowKit

theorem pad_any (n : Nat) (h : n ≤ 1000000000) (w : World) : Calls Tryd.prog 32 #[.int .i64 n] w fun e w' => e = .returned (.int .i64 (Bk.pad n)) ∧ w' = w := by
  have h0 : ¬ (n : Int) < 0 := by omega
  go_enter Tryd.func32, Tryd.ntmps32
  go_wp2_with fail
  go_ret
  exact ⟨congrArg (fun x => Ending.returned (Value.int .i64 x)) (by unfold Bk.pad; omega), rfl⟩

def fillB (s : ByteArray) : ByteArray := ⟨(Bk.fill s.data.toList).toArray⟩
theorem fillB_list (s : ByteArray) : (fillB s).data.toList = Bk.fill s.data.toList := rfl
theorem fillB_size (s : ByteArray) : (fillB s).size = s.size + Bk.pad s.size := by
  show (Bk.fill s.data.toList).length = _
  rw [Bk.fill_len]; simp

theorem fill_any (s : ByteArray) (h : s.size ≤ 1000000) (w : World) : Calls Tryd.prog 14 #[.string s] w fun e w' => e = .returned (.string (fillB s)) ∧ Below w.heap.size w w' := by
  have hp := Bk.pad_lt s.size
  obtain ⟨A, hA, rA⟩ := rep_named 0 (Bk.pad s.size) (by omega)
  have hAs : A.size ≤ 512 := by have := congrArg List.length hA; simp at this; omega
  have he : s ++ A = fillB s := ba_ext (by rw [cat_list, hA, fillB_list]; simp [Bk.fill])
  have HE := Lib.hid he
  have RA := Lib.hid rA
  have PA := Lib.hid (fun w => pad_any s.size (by omega) w)
  have c1 := fun w => run_string_add_sum (P := Tryd.prog) w s A (by omega)
  clear he hA rA
  go_enter Tryd.func14, Tryd.ntmps14
  go_wp2_with fail
  refine (PA.out _).mono ?_
  rintro e w1 ⟨rfl, rfl⟩
  go_wp2_with fail
  refine (RA.out _).mono ?_
  rintro e w2 ⟨rfl, hb⟩
  have HB := Lib.hid hb
  clear hb
  go_wp2_with fail
  go_ret
  rw [HE.out]
  exact ⟨rfl, HB.out⟩

end Go.Proofs.YtdhnjbiigpiecaaDoor
