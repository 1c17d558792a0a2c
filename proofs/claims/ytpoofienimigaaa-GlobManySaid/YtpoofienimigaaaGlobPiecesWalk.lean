/-
  The walk of GlobPieces.
-/
import Derived.Test.YtpoofienimigaaaGlobG
import Derived.Test.YtpoofienimigaaaGlobLaws2
namespace Go.Proofs.Ytpoofienimigaaa
open Go.RowKit

theorem contains_one (s : ByteArray) (w : World) : Calls Try.prog 12 #[.string s, .string ⟨#[47]⟩] w fun e w' => e = .returned (.bool (decide (0 ≤ Lib.indexByte s.data.toList 47))) ∧ w' = w :=
  Try.strings_Contains_one s 47 w

/-- What Match answers, as a value and an error's value: none, or a number. -/
theorem match_named (p s : ByteArray) : ∃ (x : Bool) (E : Value), (∀ w : World, Calls Try.prog 9 #[.string p, .string s] w fun e w' => e = .returned (.tuple #[.bool x, E]) ∧ Below w.heap.size w w') ∧
    ((E = .nilIface ∧ Glb.mres p.data.toList s.data.toList = (x, 0)) ∨ ∃ n : Int, E = .iface 36 (.int .i64 n)) := by
  refine ⟨(Glb.mres p.data.toList s.data.toList).1, errV (Glb.mres p.data.toList s.data.toList).2, fun w => match_any p s w, ?_⟩
  by_cases h : (Glb.mres p.data.toList s.data.toList).2 = 0
  · left
    rw [h]
    exact ⟨rfl, Prod.ext rfl h⟩
  · right
    exact ⟨_, by rw [errV, if_neg h]⟩

set_option maxHeartbeats 4000000 in
theorem globPieces_walk (p : ByteArray) (sp : p.size ≤ 140737488351232) (q : ByteArray) (sq : q.size ≤ 140737488351232) (a : ByteArray) (sa : a.size ≤ 140737488351232) (b : ByteArray) (sb : b.size ≤ 140737488351232) (w : World) :
    Calls Try.prog 5 #[.string p, .string q, .string a, .string b] w fun e w' => e = .returned (.bool true) ∧ Below w.heap.size w w' := by
  by_cases h1 : 100 < p.size + q.size
  · have h1' : (100 : Int) < p.size + q.size := by omega
    clear h1
    go_enter Try.func5, Try.ntmps5
    go_wp2_with fail
    refine (matched_any _).mono ?_
    rintro e w1 ⟨rfl, hb1⟩
    have B1 := Lib.hid hb1
    clear hb1
    go_wp2_with fail
    go_ret
    exact ⟨rfl, B1.out⟩
  have h1' : (p.size : Int) + q.size ≤ 100 := by omega
  by_cases h2 : 100 < a.size + b.size
  · have h2' : (100 : Int) < a.size + b.size := by omega
    clear h2 h1
    go_enter Try.func5, Try.ntmps5
    go_wp2_with fail
    refine (matched_any _).mono ?_
    rintro e w1 ⟨rfl, hb1⟩
    have B1 := Lib.hid hb1
    clear hb1
    go_wp2_with fail
    go_ret
    exact ⟨rfl, B1.out⟩
  have h2' : (a.size : Int) + b.size ≤ 100 := by omega
  have la : a.data.toList.length = a.size := by simp
  have lb : b.data.toList.length = b.size := by simp
  have lp : p.data.toList.length = p.size := by simp
  have lq : q.data.toList.length = q.size := by simp
  obtain ⟨x, E1, m1, hm1⟩ := match_named p a
  obtain ⟨y, E2, m2, hm2⟩ := match_named q b
  have M1 := Lib.hid m1
  have M2 := Lib.hid m2
  have M3 := Lib.hid (Glb.all_law a.data.toList (by omega))
  have M4 := Lib.hid (Glb.star_law a.data.toList (by omega))
  obtain ⟨c, hc⟩ : ∃ c, c = decide (0 ≤ Lib.indexByte a.data.toList 47) := ⟨_, rfl⟩
  have M5 := Lib.hid (fun w => contains_one a w)
  rw [← hc] at M4 M5
  have hne : ((!c) == c) = false := by cases c <;> rfl
  clear m1 m2 hc
  by_cases hok : E1 = .nilIface ∧ E2 = .nilIface ∧ x = true ∧ y = true
  · obtain ⟨rfl, rfl, rfl, rfl⟩ := hok
    have k1 : Glb.mres p.data.toList a.data.toList = (true, 0) := by
      rcases hm1 with h | ⟨n, h⟩
      · exact h.2
      · cases h
    have k2 : Glb.mres q.data.toList b.data.toList = (true, 0) := by
      rcases hm2 with h | ⟨n, h⟩
      · exact h.2
      · cases h
    have K := Lib.hid (show Glb.mres (p ++ q).data.toList (a ++ b).data.toList = (true, 0) by
      simp only [ByteArray.data_append, Array.toList_append]
      exact Glb.pieces_law _ _ _ _ (by omega) (by omega) k1 k2)
    clear hm1 hm2 k1 k2 la lb lp lq h1 h2
    go_enter Try.func5, Try.ntmps5
    go_wp2_with fail
    refine (matched_any _).mono ?_
    rintro e w1 ⟨rfl, hb1⟩
    have B1 := Lib.hid hb1
    clear hb1
    go_wp2_with fail
    refine (M1.out _).mono ?_
    rintro e w2 ⟨rfl, hb⟩
    have B2 := Lib.hid (thenB B1.out hb)
    clear hb
    go_wp2_with fail
    refine (M2.out _).mono ?_
    rintro e w3 ⟨rfl, hb⟩
    have B3 := Lib.hid (thenB B2.out hb)
    clear hb
    go_wp2_with fail
    refine (match_is ⟨#[42, 42]⟩ a _ true M3.out).mono ?_
    rintro e w4 ⟨rfl, hb⟩
    have B4 := Lib.hid (thenB B3.out hb)
    clear hb
    go_wp2_with fail
    refine (match_is ⟨#[42]⟩ a _ (!c) M4.out).mono ?_
    rintro e w5 ⟨rfl, hb⟩
    have B5 := Lib.hid (thenB B4.out hb)
    clear hb
    go_wp2_with fail
    refine (M5.out _).mono ?_
    rintro e w6 ⟨rfl, rfl⟩
    go_wp2_with fail
    refine (match_is _ _ _ true K.out).mono ?_
    rintro e w7 ⟨rfl, hb⟩
    have B7 := Lib.hid (thenB B5.out hb)
    clear hb
    go_wp2_with fail
    go_ret
    exact ⟨rfl, B7.out⟩
  · have hways : (∃ n : Int, E1 = .iface 36 (.int .i64 n)) ∨ (E1 = .nilIface ∧ ∃ n : Int, E2 = .iface 36 (.int .i64 n)) ∨ (E1 = .nilIface ∧ E2 = .nilIface ∧ x = false) ∨ (E1 = .nilIface ∧ E2 = .nilIface ∧ x = true ∧ y = false) := by
      rcases hm1 with h | h
      · rcases hm2 with k | k
        · cases x
          · exact .inr (.inr (.inl ⟨h.1, k.1, rfl⟩))
          · cases y
            · exact .inr (.inr (.inr ⟨h.1, k.1, rfl, rfl⟩))
            · exact absurd ⟨h.1, k.1, rfl, rfl⟩ hok
        · exact .inr (.inl ⟨h.1, k⟩)
      · exact .inl h
    clear hm1 hm2 hok la lb lp lq h1 h2
    rcases hways with ⟨n, rfl⟩ | ⟨rfl, n, rfl⟩ | ⟨rfl, rfl, rfl⟩ | ⟨rfl, rfl, rfl, rfl⟩
    all_goals
      go_enter Try.func5, Try.ntmps5
      go_wp2_with fail
      refine (matched_any _).mono ?_
      rintro e w1 ⟨rfl, hb1⟩
      have B1 := Lib.hid hb1
      clear hb1
      go_wp2_with fail
      refine (M1.out _).mono ?_
      rintro e w2 ⟨rfl, hb⟩
      have B2 := Lib.hid (thenB B1.out hb)
      clear hb
      go_wp2_with fail
      refine (M2.out _).mono ?_
      rintro e w3 ⟨rfl, hb⟩
      have B3 := Lib.hid (thenB B2.out hb)
      clear hb
      go_wp2_with fail
      refine (match_is ⟨#[42, 42]⟩ a _ true M3.out).mono ?_
      rintro e w4 ⟨rfl, hb⟩
      have B4 := Lib.hid (thenB B3.out hb)
      clear hb
      go_wp2_with fail
      refine (match_is ⟨#[42]⟩ a _ (!c) M4.out).mono ?_
      rintro e w5 ⟨rfl, hb⟩
      have B5 := Lib.hid (thenB B4.out hb)
      clear hb
      go_wp2_with fail
      refine (M5.out _).mono ?_
      rintro e w6 ⟨rfl, rfl⟩
      go_wp2_with fail
      go_ret
      exact ⟨rfl, B5.out⟩

end Go.Proofs.Ytpoofienimigaaa
