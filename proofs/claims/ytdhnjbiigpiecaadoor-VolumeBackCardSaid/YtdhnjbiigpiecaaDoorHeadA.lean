/-
  head: the small functions.
-/
import Derived.Test.YtdhnjbiigpiecaaDoorHeadLaws
import Derived.Test.YtdhnjbiigpiecaaDoorStrs
import Derived.Test.YtdhnjbiigpiecaaDoorNumW
import Derived.Laws.StructEq
import Derived.BigRegion
namespace Go.Proofs.YtdhnjbiigpiecaaDoor
open Go.RowKit

/-- Two headers, one against the other. -/
theorem raws_eql (n l u g f n' l' u' g' f' : ByteArray) (k k' m1 m2 m3 m4 m5 m6 m7 q1 q2 q3 q4 q5 q6 q7 : Int) (B : Bool)
    (hB : B = true ↔ (n.toList = n'.toList ∧ l.toList = l'.toList ∧ u.toList = u'.toList ∧ g.toList = g'.toList ∧ f.toList = f'.toList ∧ k = k' ∧ m1 = q1 ∧ m2 = q2 ∧ m3 = q3 ∧ m4 = q4 ∧ m5 = q5 ∧ m6 = q6 ∧ m7 = q7)) (w : World) :
    (binOp .eql 42 (.agg #[.string n, .string l, .string u, .string g, .string f, .int .u8 k, .int .i64 m1, .int .i64 m2, .int .i64 m3, .int .i64 m4, .int .i64 m5, .int .i64 m6, .int .i64 m7]) (.agg #[.string n', .string l', .string u', .string g', .string f', .int .u8 k', .int .i64 q1, .int .i64 q2, .int .i64 q3, .int .i64 q4, .int .i64 q5, .int .i64 q6, .int .i64 q7])).run Tryd.prog w = .ok (.bool B) w := by
  have h1 := Tryd.underlying3
  have h2 := Tryd.underlying9
  have h3 := Tryd.underlying5
  rw [run_eql_struct, run_equalIn_agg w 9999 42 _ _ (by kernel_rfl) (by kernel_rfl)]
  simp [go_sem, h1, h2, h3]
  rcases hb : B with _ | _
  · have hn := mt hB.2 (by rw [hb]; exact Bool.false_ne_true)
    clear hB h1 h2 h3
    by_cases e1 : n.toList = n'.toList
    case neg => rw [if_neg e1]
    rw [if_pos e1]
    by_cases e2 : l.toList = l'.toList
    case neg => rw [if_neg e2]
    rw [if_pos e2]
    by_cases e3 : u.toList = u'.toList
    case neg => rw [if_neg e3]
    rw [if_pos e3]
    by_cases e4 : g.toList = g'.toList
    case neg => rw [if_neg e4]
    rw [if_pos e4]
    by_cases e5 : f.toList = f'.toList
    case neg => rw [if_neg e5]
    rw [if_pos e5]
    by_cases e6 : k = k'
    case neg => rw [if_neg e6]
    rw [if_pos e6]
    by_cases e7 : m1 = q1
    case neg => rw [if_neg e7]
    rw [if_pos e7]
    by_cases e8 : m2 = q2
    case neg => rw [if_neg e8]
    rw [if_pos e8]
    by_cases e9 : m3 = q3
    case neg => rw [if_neg e9]
    rw [if_pos e9]
    by_cases e10 : m4 = q4
    case neg => rw [if_neg e10]
    rw [if_pos e10]
    by_cases e11 : m5 = q5
    case neg => rw [if_neg e11]
    rw [if_pos e11]
    by_cases e12 : m6 = q6
    case neg => rw [if_neg e12]
    rw [if_pos e12]
    by_cases e13 : m7 = q7
    case neg => rw [if_neg e13]
    rw [if_pos e13]
    exact (hn ⟨e1, e2, e3, e4, e5, e6, e7, e8, e9, e10, e11, e12, e13⟩).elim
  · obtain ⟨e1, e2, e3, e4, e5, e6, e7, e8, e9, e10, e11, e12, e13⟩ := hB.1 hb
    rw [if_pos e1, if_pos e2, if_pos e3, if_pos e4, if_pos e5, if_pos e6, if_pos e7, if_pos e8, if_pos e9, if_pos e10, if_pos e11, if_pos e12, if_pos e13]

theorem texts_any (g : Nat) (w : World) : Calls Tryd.prog 24 #[.pointer (some ⟨g, 0, none⟩)] w fun e w' =>
    e = .returned (.agg #[.pointer (some ⟨g, 0, none⟩), .pointer (some ⟨g, 1, none⟩), .pointer (some ⟨g, 2, none⟩), .pointer (some ⟨g, 3, none⟩), .pointer (some ⟨g, 4, none⟩)]) ∧ Below w.heap.size w w' := by
  go_enter Tryd.func24, Tryd.ntmps24
  go_wp2_with fail
  go_region
  all_goals go_wp2_with fail
  refine bodyPost_ret (v := .agg #[.pointer (some ⟨g, 0, none⟩), .pointer (some ⟨g, 1, none⟩), .pointer (some ⟨g, 2, none⟩), .pointer (some ⟨g, 3, none⟩), .pointer (some ⟨g, 4, none⟩)]) (by simp [results, Tryd.results24, go_sem]) rfl ⟨rfl, ?_⟩
  exact ((Below.refl _ _).alloc (Nat.le_refl _) _).drew

theorem numbers_any (g : Nat) (w : World) : Calls Tryd.prog 27 #[.pointer (some ⟨g, 0, none⟩)] w fun e w' =>
    e = .returned (.agg #[.pointer (some ⟨g, 6, none⟩), .pointer (some ⟨g, 7, none⟩), .pointer (some ⟨g, 8, none⟩), .pointer (some ⟨g, 9, none⟩), .pointer (some ⟨g, 10, none⟩), .pointer (some ⟨g, 11, none⟩), .pointer (some ⟨g, 12, none⟩)]) ∧ Below w.heap.size w w' := by
  go_enter Tryd.func27, Tryd.ntmps27
  go_wp2_with fail
  go_region
  all_goals go_wp2_with fail
  refine bodyPost_ret (v := .agg #[.pointer (some ⟨g, 6, none⟩), .pointer (some ⟨g, 7, none⟩), .pointer (some ⟨g, 8, none⟩), .pointer (some ⟨g, 9, none⟩), .pointer (some ⟨g, 10, none⟩), .pointer (some ⟨g, 11, none⟩), .pointer (some ⟨g, 12, none⟩)]) (by simp [results, Tryd.results27, go_sem]) rfl ⟨rfl, ?_⟩
  exact ((Below.refl _ _).alloc (Nat.le_refl _) _).drew

abbrev sp (a n : Int) : Value := .agg #[.int .i64 a, .int .i64 n]
abbrev tSpots : Value := .agg #[.int .i64 0, .int .i64 100, .int .i64 157, .int .i64 100, .int .i64 265, .int .i64 32, .int .i64 297, .int .i64 32, .int .i64 345, .int .i64 155]
abbrev nSpotsV : Value := .agg #[.int .i64 100, .int .i64 8, .int .i64 108, .int .i64 8, .int .i64 116, .int .i64 8, .int .i64 124, .int .i64 12, .int .i64 136, .int .i64 12, .int .i64 329, .int .i64 8, .int .i64 337, .int .i64 8]
theorem textSpots_any (w : World) : Calls Tryd.prog 25 #[] w fun e w' => e = .returned tSpots ∧ Below w.heap.size w w' := by
  go_enter Tryd.func25, Tryd.ntmps25
  go_wp2_with fail
  refine bodyPost_ret (v := tSpots) (by simp [results, Tryd.results25, go_sem]) rfl ⟨rfl, ?_⟩
  exact ((Below.refl _ _).alloc (Nat.le_refl _) _)

theorem numberSpots_any (w : World) : Calls Tryd.prog 29 #[] w fun e w' => e = .returned nSpotsV ∧ Below w.heap.size w w' := by
  go_enter Tryd.func29, Tryd.ntmps29
  go_wp2_with fail
  refine bodyPost_ret (v := nSpotsV) (by simp [results, Tryd.results29, go_sem]) rfl ⟨rfl, ?_⟩
  exact ((Below.refl _ _).alloc (Nat.le_refl _) _)

theorem many_any (d : Int) (m : Nat) (h : (d = 1 ∧ m = 5) ∨ (d ≠ 1 ∧ m = 7)) (w : World) : Calls Tryd.prog 28 #[.int .i64 d] w fun e w' => e = .returned (.int .i64 m) ∧ w' = w := by
  rcases h with ⟨rfl, rfl⟩ | ⟨h, rfl⟩
  · go_enter Tryd.func28, Tryd.ntmps28
    go_wp2_with fail
    go_ret
    exact ⟨rfl, rfl⟩
  · have h' : (d == 1) = false := by simpa using h
    go_enter Tryd.func28, Tryd.ntmps28
    go_wp2_with fail
    go_ret
    exact ⟨rfl, rfl⟩

theorem dialect_any (s : ByteArray) (h1 : s.size ≤ 512) (h2 : 512 ≤ s.size) (w : World) : Calls Tryd.prog 48 #[.string s] w fun e w' => e = .returned (.int .i64 (dialectL s.data.toList)) ∧ w' = w := by
  have x1 : (s.extract 257 265).toList = fld s.data.toList 257 8 := by rw [Lib.toList_data]; exact ext_mid s 257 8
  obtain ⟨D, hD⟩ : ∃ D : Nat, D = dialectL s.data.toList := ⟨_, rfl⟩
  rw [← hD]
  unfold dialectL at hD
  rw [← x1] at hD
  by_cases hu : (s.extract 257 265).toList = [117, 115, 116, 97, 114, 0, 48, 48]
  · have hu' : ((s.extract 257 265).toList == [117, 115, 116, 97, 114, 0, 48, 48]) = true := by rw [hu]; decide
    rw [if_pos hu] at hD
    subst hD
    clear hu x1
    go_enter Tryd.func48, Tryd.ntmps48
    go_wp2_with fail
    go_ret
    exact ⟨rfl, rfl⟩
  · have hu' : ((s.extract 257 265).toList == [117, 115, 116, 97, 114, 0, 48, 48]) = false := by
      rw [beq_eq_false_iff_ne]; exact hu
    rw [if_neg hu] at hD
    by_cases hv : (s.extract 257 265).toList = [117, 115, 116, 97, 114, 32, 32, 0]
    · have hv' : ((s.extract 257 265).toList == [117, 115, 116, 97, 114, 32, 32, 0]) = true := by rw [hv]; decide
      rw [if_pos hv] at hD
      subst hD
      clear hu x1 hv
      go_enter Tryd.func48, Tryd.ntmps48
      go_wp2_with fail
      go_ret
      exact ⟨rfl, rfl⟩
    · have hv' : ((s.extract 257 265).toList == [117, 115, 116, 97, 114, 32, 32, 0]) = false := by
        rw [beq_eq_false_iff_ne]; exact hv
      rw [if_neg hv] at hD
      subst hD
      clear hu x1 hv
      go_enter Tryd.func48, Tryd.ntmps48
      go_wp2_with fail
      go_ret
      exact ⟨rfl, rfl⟩

end Go.Proofs.YtdhnjbiigpiecaaDoor
