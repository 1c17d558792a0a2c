/-
  The walk of StampBack, joined.
-/
import Derived.Test.YtgkgjlcbappbkaaDoorStampL
namespace Go.Proofs.YtgkgjlcbappbkaaDoor
open Go.RowKit

theorem pick5 (zr : Int) : ∃ z : Nat, z ≤ 4 ∧ pickN zr 5 = z := by
  have h1 := pickN_lo zr 5 (by omega)
  have h2 := pickN_hi zr 5 (by omega)
  exact ⟨(pickN zr 5).toNat, by omega, by omega⟩
theorem empty_of {l : List UInt8} : (bs l).toList.isEmpty = decide (l = []) := by
  rw [Lib.toList_data, bs_list]; cases l <;> rfl

theorem stampBack_walk (a : Int) (_wa : (Lit.int .i64 a).wf = true) (b : Int) (_wb : (Lit.int .i64 b).wf = true) (more : ByteArray) (_ss : more.size ≤ 140737488351232) (zr : Int) (_wz : (Lit.int .i64 zr).wf = true) (w : World) (hE : Env w) :
    Calls Tryd.prog 7 #[.int .i64 a, .int .i64 b, .string more, .int .i64 zr] w fun e w' => e = .returned (.bool true) ∧ Below w.heap.size w w' := by
  have ok : Stp.Ok (secOf a) (nanoOf b) := timed_bd a b
  have t1 := timed_any a b
  by_cases hm : more.size ≤ 20 ∧ Stp.dgs more.data.toList
  · obtain ⟨hm1, hm2⟩ := hm
    generalize secOf a = s at ok t1
    generalize nanoOf b = n at ok t1
    obtain ⟨z, hz, pz⟩ := pick5 zr
    have pk := fun w => pick_any zr 5 w (by omega) (by omega)
    rw [pz] at pk
    obtain ⟨R1, e1, r1⟩ := rep_named 48 z (by omega)
    obtain ⟨R2, e2, r2⟩ := rep_named 48 (9 - (Stp.tail9 (Stp.prt s n)).length) (by omega)
    have g1 := (Stp.whole_ok ok 0).2.2
    have g2 := (Stp.part_ok ok).2.1
    have zT : (bs (Stp.tail9 (Stp.prt s n))).size ≤ 9 := by rw [bs_size]; exact g2
    have zF : (bs (Stp.full s n)).size ≤ 100 := by
      rw [bs_size]; unfold Stp.full; rw [List.length_append, List.length_cons]; omega
    have zV : (bs (Stp.body s n)).size ≤ 100 := by
      rw [bs_size]; unfold Stp.body; rw [List.length_append]; split
      · rw [List.length_cons]; omega
      · simp; omega
    have y1 : R1.size = z := size_rep e1
    have y2 : R2.size = 9 - (Stp.tail9 (Stp.prt s n)).length := size_rep e2
    have hll : (Stp.long s n z more.data.toList).length ≤ 100 := by
      unfold Stp.long
      rw [List.length_append, List.length_append, List.length_cons, List.length_append, List.length_replicate, (Stp.dig_len ok).1, list_size]; omega
    have hL : R1 ++ bs (Stp.full s n) ++ R2 ++ more = bs (Stp.long s n z more.data.toList) := by
      refine ba_ext ?_
      rw [cat_list, cat_list, cat_list, e1, e2, bs_list, bs_list]
      exact Stp.long_is ok z more.data.toList
    have hten : (bs (Lib.trimS more.data.toList Stp.ten)).toList.isEmpty = true := by
      rw [empty_of]
      have h3 := Stp.trim_ten more.data.toList
      rw [List.all_eq_true.2 hm2] at h3
      exact decide_eq_true (by simpa using h3)
    refine back_core a b zr more s n (Stp.down s n).1 (Stp.down s n).2 (decide (s < 0)) (decide (0 < Stp.prt s n)) (bs (Stp.text s n)) (bs (Stp.body s n)) (bs (Stp.full s n)) (bs (Lib.decDigits (Stp.whl s n))) (bs (Stp.tail9 (Stp.prt s n)))
      R1 R2 (bs (Stp.long s n z more.data.toList)) (bs ((if decide (s < 0) then [45] else []) ++ Stp.long s n z more.data.toList)) (bs (Lib.trimS more.data.toList Stp.ten)) (bs (Lib.trimS more.data.toList [48])) z (9 - (Stp.tail9 (Stp.prt s n)).length) (parsed (outOf s n more.data.toList)) w
      (stamped_any w hE) t1 (fun w' hb => text_any s n ok w' (hE.below hb)) (fun w' hb => parse_text ok w' (hE.below hb)) (decide_eq_false (by omega)) hten (fun w => trim_ten_any more (by omega) w)
      (fun w => prefix_any ok w) (fun w => unsigned_any ok w) (fun w => dotted_any s n w) ?_ (fun w' hb => cut_full_any ok w' (hE.below hb)) pk r1 r2 (by rw [bs_size]; omega) zT zV zF (by omega) (by omega) hm1 (by rw [bs_size]; omega) hL ?_
      (fun w' hb => parse_long ok z (by omega) more.data.toList hm2 (by rw [list_size]; exact hm1) w' (hE.below hb)) (fun w => trim_zero_any more (by omega) w) (fun w => step_any s n ok.1 ok.2.1 ok.2.2.1 ok.2.2.2 w) ?_
    · by_cases h0 : 0 < Stp.prt s n
      · exact .inl ⟨decide_eq_true h0, by rw [Stp.body_full h0]⟩
      · refine .inr ⟨decide_eq_false h0, ba_ext ?_⟩
        rw [cat_list, bs_list, bs_list, ← Stp.body_dot h0]
    · cases hs : decide (s < 0)
      · exact .inr ⟨rfl, by simp⟩
      · refine .inl ⟨rfl, ba_ext ?_⟩
        rw [cat_list, bs_list, bs_list]; rfl
    · unfold parsed outOf
      rw [empty_of]
      by_cases h1 : Lib.trimS more.data.toList [48] = []
      · refine .inl ⟨decide_eq_true h1, ?_⟩
        rw [if_pos (show _ ∨ _ from .inl h1), Stp.okB_of ok, if_pos rfl]
      · by_cases h2 : s < 0
        · rw [if_neg (show ¬ (_ ∨ _) from fun h => h.elim h1 fun k => k h2)]
          cases h3 : Stp.okB (Stp.down s n)
          · exact .inr (.inr (.inr ⟨decide_eq_false h1, decide_eq_true h2, by simp⟩))
          · exact .inr (.inr (.inl ⟨decide_eq_false h1, decide_eq_true h2, by simp⟩))
        · refine .inr (.inl ⟨decide_eq_false h1, decide_eq_false h2, ?_⟩)
          rw [if_pos (show _ ∨ _ from .inr h2), Stp.okB_of ok, if_pos rfl]
  · exact back_short a b zr more _ _ ok hm w hE t1

end Go.Proofs.YtgkgjlcbappbkaaDoor
