/-
  The walk of NumberBlind.
-/
import Derived.Test.YtdnjcfhaplmalaaDoorNumE
import Derived.Test.YtdnjcfhaplmalaaDoorNumH
import Derived.Test.YtdnjcfhaplmalaaDoorRep
import Derived.Deep.RegionHeld3
namespace Go.Proofs.YtdnjcfhaplmalaaDoor
open Go.RowKit

set_option maxRecDepth 100000 in
set_option maxHeartbeats 2000000 in
theorem numberBlind_walk (n : Int) (hn : (Lit.int .i64 n).wf = true) (width : Int) (_hw : (Lit.int .i64 width).wf = true) (ahead : Int) (_ha : (Lit.int .i64 ahead).wf = true) (behind : Int) (_hb : (Lit.int .i64 behind).wf = true) (zero : Bool) (w : World) :
    Calls Tryd.prog 5 #[.int .i64 n, .int .i64 width, .int .i64 ahead, .int .i64 behind, .bool zero] w fun e w' => e = .returned (.bool true) ∧ Below w.heap.size w w' := by
  have p0 := pickN_lo width 19 (by omega)
  have p1 := pickN_hi width 19 (by omega)
  obtain ⟨p, hp⟩ := Int.eq_ofNat_of_zero_le p0
  have hpick := fun w => pick_any width 19 w (by omega) (by omega)
  rw [hp] at hpick p0 p1
  clear hp
  have i0 := pickN_lo ahead 9 (by omega)
  have i1 := pickN_hi ahead 9 (by omega)
  obtain ⟨i, hi⟩ := Int.eq_ofNat_of_zero_le i0
  have hpi := fun w => pick_any ahead 9 w (by omega) (by omega)
  rw [hi] at hpi i0 i1
  clear hi
  have j0 := pickN_lo behind 9 (by omega)
  have j1 := pickN_hi behind 9 (by omega)
  obtain ⟨j, hj⟩ := Int.eq_ofNat_of_zero_le j0
  have hpj := fun w => pick_any behind 9 w (by omega) (by omega)
  rw [hj] at hpj j0 j1
  clear hj
  obtain ⟨s, E1, ms, hs⟩ := octal_named n (2 + p) (by omega) (by omega)
  have ec : ((2 + p : Nat) : Int) = 2 + (p : Int) := by omega
  rw [ec] at ms
  have PK := Lib.hid hpick
  have PI := Lib.hid hpi
  have PJ := Lib.hid hpj
  have MS := Lib.hid ms
  clear hpick hpi hpj ms ec
  rcases hs with ⟨rfl, m, rfl, hm, hs⟩ | ⟨_, rfl, rfl⟩
  · have hsz : s.size = 2 + p := by rw [hs]; simp [ByteArray.size, Num.octal]
    have h1s : 2 + p ≤ s.size := by omega
    have h2s : s.size ≤ 2 + p := by omega
    have hsl : (s.data.toList.take (2 + p - 1)) = Num.digs m (2 + p - 1) := by
      rw [hs]
      show (Num.octal m (2 + p)).take _ = _
      rw [Num.octal_digs m _ (by omega), List.take_append_of_le_length (by rw [Num.digs_len]; omega), List.take_of_length_le (by rw [Num.digs_len]; omega)]
    obtain ⟨A, hA, rA⟩ := rep_named 32 i (by omega)
    obtain ⟨c, hc, hz⟩ : ∃ c : UInt8, (c = 32 ∨ c = 0) ∧ (c = if zero = true then 0 else 32) := ⟨_, by split <;> simp, rfl⟩
    obtain ⟨B, hB, rB⟩ := rep_named c j (by omega)
    have e1p : 2 + p - 1 = 1 + p := by omega
    have hlist : (A ++ s.extract 0 (1 + p) ++ B).data.toList = List.replicate i 32 ++ Num.digs m (1 + p) ++ List.replicate j c := by
      rw [e1p] at hsl
      rw [cat_list, cat_list, ext_list, hA, hB, List.drop_zero, hsl]
    have hrd := rd_tail m (2 + p) i (List.replicate j c) (by rintro x hx; rw [(List.mem_replicate.1 hx).2]; exact hc) (by omega) (by omega) hm
    rw [e1p, ← hlist] at hrd
    have hsz2 : (A ++ s.extract 0 (1 + p) ++ B).size = i + (1 + p) + j := by
      have := congrArg List.length hlist
      simp only [List.length_append, List.length_replicate, Num.digs_len] at this
      rw [← this, ← ByteArray.size_data, Array.length_toList]
    obtain ⟨n', E, mR, hR⟩ := read_named (A ++ s.extract 0 (1 + p) ++ B) (by omega) (by omega)
    have hRn : E = .nilIface ∧ n' = m := by
      rcases hR with ⟨h1, h2⟩ | ⟨_, h2⟩
      · rw [hrd] at h2; exact ⟨h1, (Option.some.inj h2).symm⟩
      · rw [hrd] at h2; cases h2
    obtain ⟨rfl, rfl⟩ := hRn
    have RA := Lib.hid rA
    have RB := Lib.hid rB
    have RD := Lib.hid mR
    have hA9 : A.size ≤ 9 := by have := congrArg List.length hA; simp at this; omega
    have hB9 : B.size ≤ 9 := by have := congrArg List.length hB; simp at this; omega
    clear hs hsz hsl hA hB rA rB hlist hrd hsz2 mR hR hm hn e1p
    have c1 := fun w => run_string_add_sum (P := Tryd.prog) w A (s.extract 0 (1 + p)) (by rw [ext_size _ _ _ (by omega)]; omega)
    have c2 := fun w => run_string_add_sum (P := Tryd.prog) w (A ++ s.extract 0 (1 + p)) B (by rw [ByteArray.size_append, ext_size _ _ _ (by omega)]; omega)
    have ew : IntKind.i64.wrap (2 + (p : Int) - 1) = 1 + (p : Int) := by rw [IntWalk.i64_in _ (by omega)]; omega
    have en : (0 : Int) ≤ 1 + (p : Int) := by omega
    have et : (1 + (p : Int)).toNat = 1 + p := by omega
    have hl : 1 + (p : Int) ≤ s.size := by omega
    cases zero
    all_goals
      simp only [Bool.false_eq_true, if_true, if_false] at hz
      subst hz
      go_enter Tryd.func5, Tryd.ntmps5
      go_wp2_with fail
      refine (fielded_any _).mono ?_
      rintro e w1 ⟨rfl, h1⟩
      have B1 := Lib.hid h1
      clear h1
      go_wp2_with fail
      refine (PK.out _).mono ?_
      rintro e w1 ⟨rfl, rfl⟩
      go_wp2_with fail
      refine (MS.out _).mono ?_
      rintro e w2 ⟨rfl, h2⟩
      have B2 := Lib.hid (thenB B1.out h2)
      clear h2 B1
      go_wp2_with fail
      go_cut [12, 14] (fun s8 s9 wx => s8 = .nilIface ∧ s9 = .int .i64 m ∧ Below w.heap.size w wx)
      case first =>
        go_region_held3 (fun w' => True) (trivial) (first
          | (go_at_call 8; (with_reducible refine (PI.out _).mono ?_); rintro e w3 ⟨rfl, rfl⟩)
          | (go_at_call 8; (with_reducible refine (PJ.out _).mono ?_); rintro e w3 ⟨rfl, rfl⟩)
          | (go_at_call 12; (with_reducible refine (RA.out _).mono ?_); rintro e w3 ⟨rfl, hb3⟩; have B3 := Lib.hid hb3; clear hb3)
          | (go_at_call 12; (with_reducible refine (RB.out _).mono ?_); rintro e w4 ⟨rfl, hb4⟩; have B4 := Lib.hid hb4; clear hb4)
          | (go_at_call 11; refine (RD.out _).mono ?_; rintro e w5 ⟨rfl, hb5⟩; have B5 := Lib.hid hb5; clear hb5))
        all_goals go_wp2_with fail
        all_goals go_meet
        all_goals refine ⟨rfl, rfl, ?_⟩
        all_goals exact thenB (thenB (thenB B2.out.drew B3.out) B4.out) B5.out
      case rest =>
        obtain ⟨rfl, rfl, hb⟩ := hcut
        have BB := Lib.hid hb
        clear hb
        go_wp2_with fail
        go_ret
        exact ⟨rfl, BB.out⟩
  · clear hn
    go_enter Tryd.func5, Tryd.ntmps5
    go_wp2_with fail
    refine (fielded_any _).mono ?_
    rintro e w1 ⟨rfl, h1⟩
    have B1 := Lib.hid h1
    clear h1
    go_wp2_with fail
    refine (PK.out _).mono ?_
    rintro e w1 ⟨rfl, rfl⟩
    go_wp2_with fail
    refine (MS.out _).mono ?_
    rintro e w2 ⟨rfl, h2⟩
    have B2 := Lib.hid (thenB B1.out h2)
    clear h2 B1
    go_wp2_with fail
    go_ret
    exact ⟨rfl, B2.out⟩

end Go.Proofs.YtdnjcfhaplmalaaDoor
