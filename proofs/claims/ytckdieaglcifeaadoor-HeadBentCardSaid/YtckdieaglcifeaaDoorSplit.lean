/-
  path.Split, where the rest of path is not reached.
-/
import Derived.Test.YtckdieaglcifeaaDoorStrs
import Derived.Deep.LoopGhost
import Derived.RegionTactic
namespace Go.Proofs.YtckdieaglcifeaaDoor
open Go.RowKit

/-- What Split leaves of a name of more than 100 bytes. -/
def SplitP (s : ByteArray) (B : Nat) (w : World) (e : Ending) (w' : World) : Prop :=
  Below B w w' ∧ (e = .returned (.tuple #[.string ⟨#[]⟩, .string ⟨#[]⟩, .bool false]) ∨
    ∃ a b : List UInt8, e = .returned (.tuple #[.string (bs a), .string (bs b), .bool true]) ∧ s.data.toList = a ++ 47 :: b ∧ 1 ≤ a.length ∧ a.length ≤ 155 ∧ 1 ≤ b.length ∧ b.length ≤ 100)

theorem split_short (s : ByteArray) (w : World) (h : s.size ≤ 100) :
    Calls Tryd.prog 28 #[.string s] w fun e w' => e = .returned (.tuple #[.string ⟨#[]⟩, .string s, .bool true]) ∧ w' = w := by
  have h' : (s.size : Int) ≤ 100 := by omega
  clear h
  go_enter Tryd.func28, Tryd.ntmps28
  go_wp2_with fail
  go_ret3
  exact ⟨rfl, rfl⟩

theorem parts_at (s : ByteArray) (i : Nat) (hi : i < s.size) (h : s[i] = 47) : s.data.toList = s.data.toList.take i ++ 47 :: s.data.toList.drop (i + 1) := by
  have hl : i < s.data.toList.length := by rw [list_size]; exact hi
  have e : s.data.toList[i] = 47 := h
  rw [← e, ← List.drop_eq_getElem_cons hl, List.take_append_drop]

set_option maxRecDepth 100000 in
set_option maxHeartbeats 1000000 in
theorem split_long (s : ByteArray) (w : World) (h : 100 < s.size) (h2 : s.size ≤ 100000) :
    Calls Tryd.prog 28 #[.string s] w (SplitP s w.heap.size w) := by
  have h' : ¬ (s.size : Int) ≤ 100 := by omega
  go_enter Tryd.func28, Tryd.ntmps28
  go_wp2_with fail
  go_loopg [13] (s.size) (fun gh iv wr => ∃ i : Nat, iv = .int .i64 i ∧ i ≤ s.size ∧ gh + i = s.size ∧ Below w.heap.size w wr)
  case atStart => exact ⟨0, rfl, by omega, by omega, Below.refl _ _⟩
  case round =>
    obtain ⟨i, rfl, hi1, hg, hbw⟩ := hrel
    have Hg := Lib.hid hg
    have HW := Lib.hid hbw
    clear hg hbw
    by_cases hi : i < s.size
    · have hi3 : (i : Int) < s.size := by omega
      have hpa := parts_at s i hi
      have HPA := Lib.hid hpa
      have hways : ((s[i].toNat : Int) == 47) = false ∨ (((s[i].toNat : Int) == 47) = true ∧ ¬ (1 : Int) ≤ i) ∨ (((s[i].toNat : Int) == 47) = true ∧ (1 : Int) ≤ i ∧ ¬ (i : Int) ≤ 155)
          ∨ (((s[i].toNat : Int) == 47) = true ∧ (1 : Int) ≤ i ∧ (i : Int) ≤ 155 ∧ ¬ (1 : Int) ≤ (s.size : Int) - i - 1) ∨ (((s[i].toNat : Int) == 47) = true ∧ (1 : Int) ≤ i ∧ (i : Int) ≤ 155 ∧ (1 : Int) ≤ (s.size : Int) - i - 1 ∧ ¬ (s.size : Int) - i - 1 ≤ 100)
          ∨ (((s[i].toNat : Int) == 47) = true ∧ (1 : Int) ≤ i ∧ (i : Int) ≤ 155 ∧ (1 : Int) ≤ (s.size : Int) - i - 1 ∧ (s.size : Int) - i - 1 ≤ 100) := by
        cases h0 : ((s[i].toNat : Int) == 47)
        · exact .inl rfl
        · by_cases g1 : (1 : Int) ≤ i
          · by_cases g2 : (i : Int) ≤ 155
            · by_cases g3 : (1 : Int) ≤ (s.size : Int) - i - 1
              · by_cases g4 : (s.size : Int) - i - 1 ≤ 100
                · exact .inr (.inr (.inr (.inr (.inr ⟨rfl, g1, g2, g3, g4⟩))))
                · exact .inr (.inr (.inr (.inr (.inl ⟨rfl, g1, g2, g3, g4⟩))))
              · exact .inr (.inr (.inr (.inl ⟨rfl, g1, g2, g3⟩)))
            · exact .inr (.inr (.inl ⟨rfl, g1, g2⟩))
          · exact .inr (.inl ⟨rfl, g1⟩)
      clear hpa
      rcases hways with k1 | ⟨k1, k2⟩ | ⟨k1, k2, k3⟩ | ⟨k1, k2, k3, k4⟩ | ⟨k1, k2, k3, k4, k5⟩ | ⟨k1, k2, k3, k4, k5⟩
      case inr.inr.inr.inr.inr =>
        have hs47 : s[i] = 47 := UInt8.toNat_inj.1 (by have := eq_of_beq k1; have : ((47 : UInt8).toNat : Int) = 47 := rfl; omega)
        have hpt := HPA.out hs47
        have e1 : s.extract 0 i = bs (s.data.toList.take i) := ba_ext (by rw [ext_to, bs_list])
        have e2 : s.extract (i + 1) s.size = bs (s.data.toList.drop (i + 1)) := ba_ext (by rw [ext_end, bs_list])
        have r1 : (s.data.toList.take i).length = i := by rw [List.length_take, list_size]; omega
        have r2 : (s.data.toList.drop (i + 1)).length = s.size - (i + 1) := by rw [List.length_drop, list_size]
        have E1 := Lib.hid e1
        have E2 := Lib.hid e2
        have R1 := Lib.hid r1
        have R2 := Lib.hid r2
        have PT := Lib.hid hpt
        have hw2 : ((i : Int) + 1).toNat = i + 1 := by omega
        have hn0 : (0 : Int) ≤ (i : Int) + 1 := by omega
        have hn3 : (i : Int) + 1 ≤ s.size := by omega
        have hn4 : (i : Int) ≤ s.size := by omega
        have hn5 : i + 1 ≤ s.size := by omega
        have hw1 : IntKind.i64.wrap ((i : Int) + 1) = (i : Int) + 1 := IntWalk.i64_in _ (by omega)
        clear e1 e2 r1 r2 hpt hs47
        go_wp2_with fail
        go_region
        all_goals go_wp2_with fail
        all_goals go_ret3
        all_goals
          clear hw1 hw2
          refine ⟨HW.out.drew, .inr ⟨s.data.toList.take i, s.data.toList.drop (i + 1), by rw [E1.out, E2.out]; rfl, PT.out, ?_, ?_, ?_, ?_⟩⟩
          · rw [R1.out]; omega
          · rw [R1.out]; omega
          · rw [R2.out]; omega
          · rw [R2.out]; omega
      all_goals
        go_wp2_with fail
        go_roundg (s.size - (i + 1))
        case measure => have := Hg.out; omega
        case rel => exact ⟨i + 1, by go_num, by omega, by omega, HW.out⟩
    · have hi3 : (s.size : Int) ≤ i := by omega
      go_wp2_with fail
      go_ret3
      exact ⟨HW.out, .inl rfl⟩

end Go.Proofs.YtckdieaglcifeaaDoor
