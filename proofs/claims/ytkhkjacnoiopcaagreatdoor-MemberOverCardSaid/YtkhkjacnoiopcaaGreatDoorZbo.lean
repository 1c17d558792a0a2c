/-
  slices.Equal at rows of records that are alike.
-/
import Derived.Test.YtkhkjacnoiopcaaGreatDoorZah
import Derived.Deep.LoopGhost
import Derived.BigQuiet
import Derived.Deep.QuietTactic
set_option linter.unusedVariables false
set_option linter.unusedSimpArgs false

set_option linter.unusedVariables false
set_option linter.unusedSimpArgs false
namespace Go.Proofs.YtkhkjacnoiopcaaGreatDoor
open Go.RowKit

set_option maxRecDepth 100000 in
set_option maxHeartbeats 2000000 in
theorem eq_rows (l : List Px.Rec) (b1 c1 b2 c2 : Nat) (w : World) (hb1 : b1 < w.heap.size) (hb2 : b2 < w.heap.size) (h1 : RowR w b1 0 l) (h2 : RowR w b2 0 l) (hl : l.length ≤ 100) :
    Calls Tryz.prog 24 #[.slice (some ⟨b1, 0, none⟩) l.length c1, .slice (some ⟨b2, 0, none⟩) l.length c2] w fun e w' => e = .returned (.bool true) ∧ Below w.heap.size w w' := by
  have R1 := Lib.hid h1
  have R2 := Lib.hid h2
  have hli : (l.length : Int) ≤ 100 := by omega
  clear h1 h2
  go_enter Tryz.func24, Tryz.ntmps24
  go_wp2_with fail
  go_loopg [13] (l.length) (fun g iv wr => ∃ i : Nat, iv = .int .i64 i ∧ i ≤ l.length ∧ g = l.length - i ∧ Below w.heap.size w wr)
  case atStart => exact ⟨0, rfl, by omega, by omega, Below.refl _ _⟩
  case round =>
    obtain ⟨i, rfl, hi, hg, hbw⟩ := hrel
    have HW := Lib.hid hbw
    have HG := Lib.hid hg
    clear hbw hg
    by_cases hil : i < l.length
    · have hii : (i : Int) < l.length := by omega
      obtain ⟨k0, k1⟩ := R1.out i hil
      obtain ⟨m0, m1⟩ := R2.out i hil
      obtain ⟨r, hrd⟩ : ∃ r, r = l[i] := ⟨_, rfl⟩
      rw [← hrd] at k0 k1 m0 m1
      have d0 : wr.cell? ⟨b1, i * 2, none⟩ = some (.string (bs r.1)) := by
        have := (HW.out.cell (p := ⟨b1, 0 + i * 2, none⟩) hb1).trans k0
        rwa [Nat.zero_add] at this
      have d1 : wr.cell? ⟨b1, i * 2 + 1, none⟩ = some (.string (bs r.2)) := by
        have := (HW.out.cell (p := ⟨b1, 0 + i * 2 + 1, none⟩) hb1).trans k1
        rwa [Nat.zero_add] at this
      have e0 : wr.cell? ⟨b2, i * 2, none⟩ = some (.string (bs r.1)) := by
        have := (HW.out.cell (p := ⟨b2, 0 + i * 2, none⟩) hb2).trans m0
        rwa [Nat.zero_add] at this
      have e1 : wr.cell? ⟨b2, i * 2 + 1, none⟩ = some (.string (bs r.2)) := by
        have := (HW.out.cell (p := ⟨b2, 0 + i * 2 + 1, none⟩) hb2).trans m1
        rwa [Nat.zero_add] at this
      clear k0 k1 m0 m1 hrd
      go_wp2_with fail
      go_quiet (fail)
      go_wp2_with fail
      go_roundg (l.length - (i + 1))
      case measure => have := HG.out; omega
      case rel => exact ⟨i + 1, by go_num, by omega, by omega, below_drewN HW.out _⟩
    · have hii : (l.length : Int) ≤ i := by omega
      go_wp2_with fail
      go_ret
      exact ⟨rfl, HW.out⟩

theorem eq_none (A B : Option Addr) (c1 c2 : Nat) (w : World) :
    Calls Tryz.prog 24 #[.slice A 0 c1, .slice B 0 c2] w fun e w' => e = .returned (.bool true) ∧ Below w.heap.size w w' := by
  go_enter Tryz.func24, Tryz.ntmps24
  go_wp2_with fail
  refine wp_loop_rounds 1 ?_
  rw [rounds_succ]
  go_wp2_with fail
  go_ret
  exact ⟨rfl, Below.refl _ _⟩

/-- slices.Equal at two rows of the same records. -/
theorem eq_same {w : World} {B C : Nat} {u v : Value} {l : List Px.Rec} (h : HasR w B u l) (k : HasR w C v l) (hl : l.length ≤ 100) :
    Calls Tryz.prog 24 #[u, v] w fun e w' => e = .returned (.bool true) ∧ Below w.heap.size w w' := by
  obtain ⟨X, c1, rfl⟩ := h.form
  obtain ⟨Y, c2, rfl⟩ := k.form
  by_cases h0 : l = []
  · subst h0; exact eq_none _ _ _ _ _
  · rcases h.ways with ⟨_, h1⟩ | ⟨g1, k1, e1, _, hg1, _, r1⟩
    · exact absurd h1 h0
    rcases k.ways with ⟨_, h1⟩ | ⟨g2, k2, e2, _, hg2, _, r2⟩
    · exact absurd h1 h0
    cases e1
    cases e2
    exact eq_rows l _ _ _ _ w hg1 hg2 r1 r2 hl

end Go.Proofs.YtkhkjacnoiopcaaGreatDoor
