/-
  The walk of GlobWide.
-/
import Derived.Test.YtpoofienimigaaaGlobG
import Derived.Test.YtpoofienimigaaaPick
import Derived.Deep.RegionWith
import Derived.Deep.DeepCutAuto
namespace Go.Proofs.Ytpoofienimigaaa
open Go.RowKit

set_option maxHeartbeats 2000000 in
theorem globWide_walk (a : ByteArray) (_sa : a.size ≤ 140737488351232) (n : Int) (_wn : (Lit.int .i64 n).wf = true) (w : World) :
    Calls Try.prog 4 #[.string a, .int .i64 n] w fun e w' => e = .returned (.bool true) ∧ Below w.heap.size w w' := by
  by_cases h0 : a.size = 0
  · have hem : a.toList.isEmpty = true := by
      rw [ByteArray.toList_eq]
      have : a.data.toList.length = a.size := by simp
      rw [h0] at this
      rw [List.length_eq_zero_iff.1 this]; rfl
    clear h0
    go_enter Try.func4, Try.ntmps4
    go_wp2_with fail
    refine (matched_any _).mono ?_
    rintro e w1 ⟨rfl, hb1⟩
    have B1 := Lib.hid hb1
    clear hb1
    go_wp2_with fail
    go_ret
    exact ⟨rfl, B1.out⟩
  have hne : a.toList.isEmpty = false := by
    rw [ByteArray.toList_eq]
    cases h : a.data.toList with
    | nil => have : a.data.toList.length = a.size := by simp
             rw [h] at this; simp at this; omega
    | cons => rfl
  by_cases h50 : 50 < a.size
  · have h51 : (50 : Int) < a.size := by omega
    clear h50 h0
    go_enter Try.func4, Try.ntmps4
    go_wp2_with fail
    refine (matched_any _).mono ?_
    rintro e w1 ⟨rfl, hb1⟩
    have B1 := Lib.hid hb1
    clear hb1
    go_wp2_with fail
    go_ret
    exact ⟨rfl, B1.out⟩
  have ha : (a.size : Int) ≤ 50 := by omega
  have ha0 : (0 : Int) < a.size := by omega
  clear h0 h50
  go_enter Try.func4, Try.ntmps4
  go_wp2_with fail
  refine (matched_any _).mono ?_
  rintro e w1 ⟨rfl, hb1⟩
  have B1 := Lib.hid hb1
  clear hb1
  go_wp2_with fail
  refine (pick_any n a.size _ ha0 (by omega)).mono ?_
  rintro e w2 ⟨rfl, rfl⟩
  obtain ⟨k, hk⟩ : ∃ k : Nat, pickN n a.size = k := ⟨(pickN n a.size).toNat, by have := pickN_lo n a.size ha0; omega⟩
  have hk1 : k < a.size := by have := pickN_hi n a.size ha0; omega
  rw [hk]
  clear hk
  go_wp2_with fail
  have hsz1 : (a.extract 0 k).size ≤ 1000000 := by simp; omega
  have hsz2 : (a.extract (k + 1) a.size).size ≤ 1000000 := by simp; omega
  go_cut [5, 6] (fun s5 s6 wx => s5 = .bool (Glb.mres (Glb.quote (a.data.toList.take k) ++ [63] ++ Glb.quote (a.data.toList.drop (k + 1))) a.data.toList).1 ∧
    s6 = errV (Glb.mres (Glb.quote (a.data.toList.take k) ++ [63] ++ Glb.quote (a.data.toList.drop (k + 1))) a.data.toList).2 ∧ Below w.heap.size w wx)
  case first =>
    obtain ⟨Q1, hQ1, hq1, q1⟩ := quote_named (a.extract 0 k) hsz1
    obtain ⟨Q2, hQ2, hq2, q2⟩ := quote_named (a.extract (k + 1) a.size) hsz2
    have q1 := Lib.hid q1
    have q2 := Lib.hid q2
    have HQ1 := Lib.hid hQ1
    have HQ2 := Lib.hid hQ2
    have hq1' : Q1.size ≤ 200 := by simp at hq1; omega
    have hq2' : Q2.size ≤ 200 := by simp at hq2; omega
    clear hQ1 hQ2 hq1 hq2 hsz1 hsz2
    have hk2 : (k : Int) ≤ a.size := by omega
    have hk3 : (k : Int) + 1 ≤ a.size := by omega
    have ew : IntKind.i64.wrap ((k : Int) + 1) = (k : Int) + 1 := IntWalk.i64_in _ (by omega)
    have en : (0 : Int) ≤ (k : Int) + 1 := by omega
    have et : ((k : Int) + 1).toNat = k + 1 := by omega
    go_region_with (first
      | (go_at_call 10; (with_reducible refine (q1.out _).mono ?_); rintro e w3 ⟨rfl, hb3⟩; have B3 := Lib.hid hb3; clear hb3)
      | (go_at_call 10; (with_reducible refine (q2.out _).mono ?_); rintro e w4 ⟨rfl, hb4⟩; have B4 := Lib.hid hb4; clear hb4)
      | (go_at_call 9; refine (match_any _ _ _).mono ?_; rintro e w5 ⟨rfl, hb5⟩; have B5 := Lib.hid hb5; clear hb5))
    all_goals go_wp2_with fail
    all_goals go_meet
    all_goals
      have hl : Q1.data.toList ++ 63 :: Q2.data.toList = Glb.quote (a.data.toList.take k) ++ [63] ++ Glb.quote (a.data.toList.drop (k + 1)) := by
        rw [HQ1.out, HQ2.out, Lib.extract_data, Lib.extract_to_end]
        simp
    all_goals refine ⟨by rw [← hl], by rw [← hl], ?_⟩
    all_goals first | exact thenB (thenB (thenB B1.out.drew B3.out) B4.out) B5.out | exact thenB (thenB (thenB B1.out.drew B4.out) B3.out) B5.out
  case rest =>
    obtain ⟨rfl, rfl, hb⟩ := hcut
    have B2 := Lib.hid hb
    have hdec : a.data.toList = a.data.toList.take k ++ [a[k]] ++ a.data.toList.drop (k + 1) := by
      have := List.take_append_drop k a.data.toList
      rw [drop_at a k hk1] at this
      simpa using this.symm
    obtain ⟨l1, l2, l3⟩ := Glb.wide_law (a.data.toList.take k) (a.data.toList.drop (k + 1)) a[k] (by rw [← hdec]; simp; omega)
    rw [← hdec] at l1 l2 l3
    have e47 : ((a[k].toNat : Int) != 47) = (a[k] != 47) := by unfold bne; exact congrArg _ (u8_beq a[k] 47)
    rw [l1]
    obtain ⟨Q3, hQ3, hq3, q3⟩ := quote_named a (by omega)
    obtain ⟨Q4, hQ4, hq4, q4⟩ := quote_named (a.extract 0 k) hsz1
    have q3 := Lib.hid q3
    have q4 := Lib.hid q4
    have hq3' : Q3.size ≤ 200 := by omega
    have hq4' : Q4.size ≤ 200 := by simp at hq4; omega
    have m3 := Lib.hid (show Glb.mres (Q3 ++ ⟨#[42]⟩).data.toList a.data.toList = (true, 0) by
      rw [ByteArray.data_append, Array.toList_append, hQ3]; exact l2)
    have m4 := Lib.hid (show Glb.mres (Q4 ++ ⟨#[42, 42]⟩).data.toList a.data.toList = (true, 0) by
      rw [ByteArray.data_append, Array.toList_append, hQ4, Lib.extract_data]; simpa using l3)
    obtain ⟨x, hx⟩ : ∃ x, x = (a[k] != 47) := ⟨_, rfl⟩
    have hx2 : ((a[k].toNat : Int) != 47) = x := by rw [e47, hx]
    rw [← hx]
    have he : errV 0 = .nilIface := rfl
    rw [he]
    have hk2 : (k : Int) < a.size := by omega
    clear hb B1 l1 l2 l3 hdec e47 hx hQ3 hQ4 hq3 hq4 hsz1 hsz2 he
    go_wp2_with fail
    refine (q3.out _).mono ?_
    rintro e w3 ⟨rfl, hb3⟩
    have B3 := Lib.hid (thenB B2.out hb3)
    clear hb3
    go_wp2_with fail
    refine (match_is _ a _ true m3.out).mono ?_
    rintro e w4 ⟨rfl, hb4⟩
    have B4 := Lib.hid (thenB B3.out hb4)
    clear hb4
    go_wp2_with fail
    refine (q4.out _).mono ?_
    rintro e w5 ⟨rfl, hb5⟩
    have B5 := Lib.hid (thenB B4.out hb5)
    clear hb5
    go_wp2_with fail
    refine (match_is _ a _ true m4.out).mono ?_
    rintro e w6 ⟨rfl, hb6⟩
    have B6 := Lib.hid (thenB B5.out hb6)
    clear hb6
    go_wp2_with fail
    go_ret
    exact ⟨by simp, B6.out⟩

end Go.Proofs.Ytpoofienimigaaa
