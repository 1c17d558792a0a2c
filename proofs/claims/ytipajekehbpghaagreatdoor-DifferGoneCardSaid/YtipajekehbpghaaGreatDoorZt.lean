/-
  slices.Contains at differences: what is a member is found.
-/
import Derived.Test.YtipajekehbpghaaGreatDoorZr
set_option linter.unusedVariables false
set_option linter.unusedSimpArgs false

namespace Go.Proofs.YtipajekehbpghaaGreatDoor
open Go.RowKit Go.Maps Tre Pk

theorem diff_eql (w : World) (a b c d : Int) : (binOp .eql 60 (.agg #[.int .i64 a, .int .i64 b]) (.agg #[.int .i64 c, .int .i64 d])).run Tryz.prog w = .ok (.bool (a == c && b == d)) w := by
  have h1 := Tryz.underlying3
  have h5 : Tryz.prog.stoodInHeld 60 = false := by kernel_rfl
  rw [run_eql_struct, run_equalIn_agg w 9999 60 _ _ (by kernel_rfl) (by kernel_rfl)]
  simp [go_sem, h1, h5]
  by_cases e0 : a = c
  case neg => rw [if_neg e0]; simp [e0]
  rw [if_pos e0]
  simp only [e0, beq_self_eq_true, Bool.true_and]
  by_cases e1 : b = d <;> simp [e1]

set_option maxRecDepth 100000 in
set_option maxHeartbeats 4000000 in
theorem indexD_any (l : List (Nat × Int)) (p : Nat × Int) (hp : p ∈ l) (b1 c1 : Nat) (w : World) (hb1 : b1 < w.heap.size) (h1 : RowDf w b1 l) (hl : l.length ≤ 1000) :
    Calls Tryz.prog 89 #[.slice (some ⟨b1, 0, none⟩) l.length c1, .agg #[.int .i64 (p.1 : Int), .int .i64 p.2]] w fun e w' => (∃ i : Nat, e = .returned (.int .i64 i)) ∧ Below w.heap.size w w' := by
  have R1 := Lib.hid h1
  have HP := Lib.hid hp
  have hli : (l.length : Int) ≤ 1000 := by omega
  have B0 := Lib.hid ((Below.refl w.heap.size w).alloc (Nat.le_refl _) (.cells #[.int .i64 (p.1 : Int), .int .i64 p.2] 60))
  have K0 := Lib.hid (Blk.new w 60 #[.int .i64 (p.1 : Int), .int .i64 p.2])
  obtain ⟨W, hW⟩ : ∃ W, W = w.alloc (.cells #[.int .i64 (p.1 : Int), .int .i64 p.2] 60) := ⟨_, rfl⟩
  rw [← hW] at B0 K0
  have HW0 := Lib.hid hW
  have hlt := K0.out.lt
  clear h1 hp hW
  go_enter Tryz.func89, Tryz.ntmps89
  go_wp2_with fail
  rw [← HW0.out]
  go_loopg [8] (l.length) (fun g iv wr => ∃ i : Nat, iv = .int .i64 i ∧ i ≤ l.length ∧ g = l.length - i ∧ Hid (p ∉ l.take i) ∧ Hid (Below W.heap.size W wr))
  case atStart => exact ⟨0, rfl, by omega, by omega, Lib.hid (by simp), Lib.hid (Below.refl _ _)⟩
  case round =>
    obtain ⟨i, rfl, hi, hg, HN, HW⟩ := hrel
    have HG := Lib.hid hg
    clear hg
    by_cases hil : i < l.length
    · have hii : (i : Int) < l.length := by omega
      have hi0 : (0 : Int) ≤ i := by omega
      obtain ⟨k0, k1⟩ := R1.out i hil
      have hts : l.take (i + 1) = l.take i ++ [l[i]] := List.take_succ_eq_append_getElem hil
      obtain ⟨r, hrd⟩ : ∃ r, r = l[i] := ⟨_, rfl⟩
      rw [← hrd] at k0 k1 hts
      have hbl : b1 < W.heap.size := Nat.lt_of_lt_of_le hb1 B0.out.size
      have d0 : wr.cell? ⟨b1, i * 2, none⟩ = some (.int .i64 (r.1 : Int)) := ((thenB B0.out HW.out).cell (p := ⟨b1, i * 2, none⟩) hb1).trans k0
      have d1 : wr.cell? ⟨b1, i * 2 + 1, none⟩ = some (.int .i64 r.2) := ((thenB B0.out HW.out).cell (p := ⟨b1, i * 2 + 1, none⟩) hb1).trans k1
      have kb := K0.out.below HW.out hlt
      have e0 : wr.cell? ⟨w.heap.size, 0, none⟩ = some (.int .i64 (p.1 : Int)) := kb.cell 0
      have e1 : wr.cell? ⟨w.heap.size, 1, none⟩ = some (.int .i64 p.2) := kb.cell 1
      have HTS := Lib.hid hts
      clear k0 k1 hrd kb hts hbl
      by_cases hpr : p = r
      · have hq : ∀ w, (binOp .eql 60 (.agg #[.int .i64 (p.1 : Int), .int .i64 p.2]) (.agg #[.int .i64 (r.1 : Int), .int .i64 r.2])).run Tryz.prog w = .ok (.bool true) w := fun w => by rw [diff_eql, hpr]; simp
        clear hpr
        go_wp2_with fail
        go_quiet (fail)
        go_wp2_with fail
        go_ret
        exact ⟨⟨i, rfl⟩, below_drewN (thenB B0.out HW.out) _⟩
      · have HPR := Lib.hid hpr
        have hq : ∀ w, (binOp .eql 60 (.agg #[.int .i64 (p.1 : Int), .int .i64 p.2]) (.agg #[.int .i64 (r.1 : Int), .int .i64 r.2])).run Tryz.prog w = .ok (.bool false) w := fun w => by
          have : ((p.1 : Int) == (r.1 : Int) && p.2 == r.2) = false := by
            rw [← Bool.not_eq_true]
            simp only [Bool.and_eq_true, beq_iff_eq]
            rintro ⟨a, b⟩
            exact hpr (Prod.ext (by omega) b)
          rw [diff_eql, this]
        clear hpr
        go_wp2_with fail
        go_quiet (fail)
        go_wp2_with fail
        go_roundg (l.length - (i + 1))
        case measure => have := HG.out; omega
        case rel => exact ⟨i + 1, by go_num, by omega, by omega, Lib.hid (by rw [HTS.out]; exact fun hm => (List.mem_append.1 hm).elim HN.out (fun h => HPR.out (List.mem_singleton.1 h))), Lib.hid (below_drewN HW.out _)⟩
    · exfalso
      have h := HN.out
      rw [List.take_of_length_le (by omega)] at h
      exact h HP.out
/-- slices.Contains at a row of differences with this one. -/
theorem containsD_any {w : World} {B : Nat} {u : Value} {l : List (Nat × Int)} (h : HasD w B u l) (p : Nat × Int) (hp : p ∈ l) (hl : l.length ≤ 1000) :
    Calls Tryz.prog 44 #[u, .agg #[.int .i64 (p.1 : Int), .int .i64 p.2]] w fun e w' => e = .returned (.bool true) ∧ Below w.heap.size w w' := by
  rcases h.ways with ⟨_, h1⟩ | ⟨g1, k1, rfl, _, hg1, _, r1⟩
  · rw [h1] at hp; cases hp
  have B0 := (Below.refl w.heap.size w).alloc (Nat.le_refl _) (.cells #[.int .i64 (p.1 : Int), .int .i64 p.2] 60)
  have IX := Lib.hid (indexD_any l p hp g1 k1 _ (Nat.lt_of_lt_of_le hg1 B0.size) (fun i hi => ⟨(B0.cell (p := ⟨g1, i * 2, none⟩) hg1).trans (r1 i hi).1, (B0.cell (p := ⟨g1, i * 2 + 1, none⟩) hg1).trans (r1 i hi).2⟩) hl)
  have HB := Lib.hid B0
  clear h r1 B0
  go_enter Tryz.func44, Tryz.ntmps44
  go_wp2_with fail
  refine IX.out.mono ?_
  rintro e w1 ⟨⟨i, rfl⟩, h1⟩
  have B1 := Lib.hid (thenB HB.out h1)
  have hi0 : (0 : Int) ≤ i := by omega
  clear h1
  go_wp2_with fail
  go_ret
  exact ⟨rfl, B1.out⟩

end Go.Proofs.YtipajekehbpghaaGreatDoor
