/-
  hole.Right and hole.Size.
-/
import Derived.Test.YtjlglmfogldbkaaDoorHoleMem
namespace Go.Proofs.YtjlglmfogldbkaaDoor
open Go.RowKit

set_option maxRecDepth 100000 in
set_option maxHeartbeats 1000000 in
theorem right_row (b off cap : Nat) (ps : List (Int × Int)) (size : Int) (w : World) (h0 : 0 < ps.length) (h20 : ps.length ≤ 20) (hs0 : 0 ≤ size) (hs1 : size ≤ 9223372036854775807) (hb : b < w.heap.size)
    (hc : ∀ (j : Nat) (hj : j < ps.length), w.cell? ⟨b, off + j * 2, none⟩ = some (.int .i64 ps[j].1) ∧ w.cell? ⟨b, off + j * 2 + 1, none⟩ = some (.int .i64 ps[j].2)) :
    Calls Tryd.prog 15 #[.slice (some ⟨b, off, none⟩) ps.length cap, .int .i64 size] w fun e w' => e = .returned (.bool (Hol.rightGo size (-1) ps)) ∧ Below w.heap.size w w' := by
  obtain ⟨r, hr⟩ : ∃ r, r = Hol.rightGo size (-1) ps := ⟨_, rfl⟩
  rw [← hr]
  have Hr := Lib.hid hr
  have HC := Lib.hid hc
  clear hr hc
  have k1 : ¬ size < 0 := by omega
  have k2 : ¬ (20 : Int) < ps.length := by omega
  go_enter Tryd.func15, Tryd.ntmps15
  go_wp2_with fail
  go_loopg [16] (ps.length) (fun g iv wr => ∃ (i : Nat) (lo : Int), iv = .int .i64 i ∧ i ≤ ps.length ∧ g + i = ps.length ∧ Below w.heap.size w wr ∧
    (i = 0 ∧ lo = -1 ∨ ∃ (k : Nat) (hk : k < ps.length), i = k + 1 ∧ 0 ≤ ps[k].1 ∧ 1 ≤ ps[k].2 ∧ ps[k].2 ≤ size ∧ ps[k].1 ≤ size - ps[k].2 ∧ lo = ps[k].1 + ps[k].2) ∧ r = Hol.rightGo size lo (ps.drop i))
  case atStart => exact ⟨0, -1, rfl, by omega, by omega, Below.refl _ _, .inl ⟨rfl, rfl⟩, Hr.out⟩
  case round =>
    obtain ⟨i, lo, rfl, hi1, hg, hbw, hlo, hR⟩ := hrel
    have Hg := Lib.hid hg
    have HR := Lib.hid hR
    have HW := Lib.hid hbw
    clear hg hR hbw
    by_cases hi : i < ps.length
    · have hi3 : (i : Int) < ps.length := by omega
      have c1 := (HW.out.cell (p := ⟨b, off + i * 2, none⟩) hb).trans (HC.out i hi).1
      have c2 := (HW.out.cell (p := ⟨b, off + i * 2 + 1, none⟩) hb).trans (HC.out i hi).2
      have hdr : ps.drop i = (ps[i].1, ps[i].2) :: ps.drop (i + 1) := List.drop_eq_getElem_cons hi
      obtain ⟨a, ha⟩ : ∃ a, a = ps[i].1 := ⟨_, rfl⟩
      obtain ⟨s, hs⟩ : ∃ s, s = ps[i].2 := ⟨_, rfl⟩
      rw [← ha] at c1
      rw [← hs] at c2
      rw [← ha, ← hs] at hdr
      have hR2 : r = if s < 1 ∨ a < 0 ∨ size < s ∨ size - s < a then false else if a ≤ lo then false else Hol.rightGo size (a + s) (ps.drop (i + 1)) := by
        rw [HR.out, hdr]; rfl
      have HA := Lib.hid ha
      have HS := Lib.hid hs
      have HR2 := Lib.hid hR2
      have HL := Lib.hid hlo
      clear ha hs hdr hR2 HR hlo
      by_cases hbad : s < 1 ∨ a < 0 ∨ size < s ∨ size - s < a
      · have hr : r = false := by rw [HR2.out, if_pos hbad]
        have HF := Lib.hid hr
        clear hr
        have hways : s < 1 ∨ (¬ s < 1 ∧ a < 0) ∨ (¬ s < 1 ∧ ¬ a < 0 ∧ size < s) ∨ (¬ s < 1 ∧ ¬ a < 0 ∧ ¬ size < s ∧ size - s < a) := by omega
        clear hbad HR2 HC
        rcases hways with h1 | ⟨h1, h2⟩ | ⟨h1, h2, h3⟩ | ⟨h1, h2, h3, h4⟩
        all_goals
          go_wp2_with fail
          go_ret
          rw [HF.out]
          exact ⟨rfl, HW.out.alloc HW.out.size _⟩
      · have h1 : ¬ s < 1 := by omega
        have h2 : ¬ a < 0 := by omega
        have h3 : ¬ size < s := by omega
        have h4 : ¬ size - s < a := by omega
        have HB := Lib.hid hbad
        clear hbad
        rcases HL.out with ⟨e0, rfl⟩ | ⟨k, hk, e0, p1, p2, p3, p4, e1⟩
        · subst e0
          have hr : r = Hol.rightGo size (a + s) (ps.drop (0 + 1)) := by rw [HR2.out, if_neg HB.out, if_neg (by omega)]
          have HF := Lib.hid hr
          have h0' : (0 : Int) < ps.length := by omega
          simp only [Nat.zero_mul, Nat.add_zero] at c1 c2
          clear hr
          go_wp2_with fail
          go_quiet (fail)
          go_wp2_with fail
          go_roundg (ps.length - 1)
          case measure => have := Hg.out; omega
          case rel => exact ⟨1, a + s, rfl, by omega, by omega, below_drewN (HW.out.alloc HW.out.size _) _, .inr ⟨0, hi, rfl, by rw [← HA.out]; omega, by rw [← HS.out]; omega, by rw [← HS.out]; omega, by rw [← HA.out, ← HS.out]; omega, by rw [HA.out, HS.out]⟩, HF.out⟩
        · subst e0
          obtain ⟨x, hx⟩ : ∃ x, x = ps[k].1 := ⟨_, rfl⟩
          obtain ⟨y, hy⟩ : ∃ y, y = ps[k].2 := ⟨_, rfl⟩
          have c3 := (HW.out.cell (p := ⟨b, off + k * 2, none⟩) hb).trans (HC.out k hk).1
          have c4 := (HW.out.cell (p := ⟨b, off + k * 2 + 1, none⟩) hb).trans (HC.out k hk).2
          rw [← hx] at c3 p1 p4 e1
          rw [← hy] at c4 p2 p3 p4 e1
          have E1 := Lib.hid e1
          have hbw : b < wr.heap.size := Nat.lt_of_lt_of_le hb HW.out.size
          have c3' : (wr.alloc (.cells #[.int .i64 a, .int .i64 s] 36)).cell? ⟨b, off + k * 2, none⟩ = some (.int .i64 x) := (World.cell?_alloc_lt _ _ ⟨b, off + k * 2, none⟩ hbw).trans c3
          have c4' : (wr.alloc (.cells #[.int .i64 a, .int .i64 s] 36)).cell? ⟨b, off + k * 2 + 1, none⟩ = some (.int .i64 y) := (World.cell?_alloc_lt _ _ ⟨b, off + k * 2 + 1, none⟩ hbw).trans c4
          have ew1 : IntKind.i64.wrap ((k : Int) + 1 - 1) = k := by rw [IntWalk.i64_in _ (by omega)]; omega
          have ew3 : IntKind.i64.wrap (k : Int) = k := IntWalk.i64_in _ (by omega)
          have ew2 : IntKind.i64.wrap (x + y) = x + y := IntWalk.i64_in _ (by omega)
          have hk3 : (k : Int) < ps.length := by omega
          have hk4 : (0 : Int) ≤ k := by omega
          have hk5 : (0 : Int) < (k : Int) + 1 := by omega
          clear hx hy e1 HL HC
          by_cases hle : a ≤ x + y
          · have hr : r = false := by rw [HR2.out, if_neg HB.out, if_pos (by rw [E1.out]; exact hle)]
            have HF := Lib.hid hr
            clear hr
            go_wp2_with fail
            go_quiet (fail)
            go_wp2_with fail
            go_ret
            rw [HF.out]
            exact ⟨rfl, below_drewN (HW.out.alloc HW.out.size _) _⟩
          · have hr : r = Hol.rightGo size (a + s) (ps.drop (k + 1 + 1)) := by rw [HR2.out, if_neg HB.out, if_neg (by rw [E1.out]; exact hle)]
            have HF := Lib.hid hr
            clear hr
            go_wp2_with fail
            go_quiet (fail)
            go_wp2_with fail
            go_roundg (ps.length - (k + 1 + 1))
            case measure => have := Hg.out; omega
            case rel => exact ⟨k + 1 + 1, a + s, by go_num, by omega, by omega, below_drewN (HW.out.alloc HW.out.size _) _, .inr ⟨k + 1, hi, rfl, by rw [← HA.out]; omega, by rw [← HS.out]; omega, by rw [← HS.out]; omega, by rw [← HA.out, ← HS.out]; omega, by rw [HA.out, HS.out]⟩, HF.out⟩
    · have hi3 : (ps.length : Int) ≤ i := by omega
      have hr : r = true := by rw [HR.out, List.drop_of_length_le (by omega)]; rfl
      have HF := Lib.hid hr
      clear hr HR hlo
      go_wp2_with fail
      go_ret
      rw [HF.out]
      exact ⟨rfl, HW.out⟩

theorem right_no (A : Option Addr) (L cap : Nat) (size : Int) (w : World) (h : size < 0 ∨ 20 < L) : Calls Tryd.prog 15 #[.slice A L cap, .int .i64 size] w fun e w' => e = .returned (.bool false) ∧ w' = w := by
  by_cases h1 : size < 0
  · clear h
    go_enter Tryd.func15, Tryd.ntmps15
    go_wp2_with fail
    go_ret
    exact ⟨rfl, rfl⟩
  · have h2 : (20 : Int) < L := by omega
    clear h
    go_enter Tryd.func15, Tryd.ntmps15
    go_wp2_with fail
    go_ret
    exact ⟨rfl, rfl⟩
theorem right_nil (A : Option Addr) (cap : Nat) (size : Int) (w : World) (h : ¬ size < 0) : Calls Tryd.prog 15 #[.slice A 0 cap, .int .i64 size] w fun e w' => e = .returned (.bool true) ∧ w' = w := by
  go_enter Tryd.func15, Tryd.ntmps15
  go_wp2_with fail
  refine wp_loop_rounds 1 ?_
  rw [rounds_succ]
  go_wp2_with fail
  go_ret
  exact ⟨rfl, rfl⟩
theorem right_any (v : Value) (ps : List (Int × Int)) (size : Int) (w : World) (hP : Pcs w v ps) (h1 : size ≤ 9223372036854775807) :
    Calls Tryd.prog 15 #[v, .int .i64 size] w fun e w' => e = .returned (.bool (Hol.rightI ps size)) ∧ Below w.heap.size w w' := by
  unfold Hol.rightI
  by_cases hs : size < 0
  · rw [decide_eq_false (by omega : ¬ 0 ≤ size)]
    obtain ⟨A, cap, rfl, _⟩ := hP
    exact (right_no A _ cap size w (.inl hs)).mono fun e w' ⟨he, hw⟩ => ⟨he, hw ▸ Below.refl _ _⟩
  · rw [decide_eq_true (by omega : 0 ≤ size)]
    by_cases hl : 20 < ps.length
    · rw [decide_eq_false (by omega : ¬ ps.length ≤ 20)]
      obtain ⟨A, cap, rfl, _⟩ := hP
      exact (right_no A _ cap size w (.inr hl)).mono fun e w' ⟨he, hw⟩ => ⟨he, hw ▸ Below.refl _ _⟩
    · rw [decide_eq_true (by omega : ps.length ≤ 20)]
      rcases pcs_ways hP with ⟨A, cap, rfl, rfl⟩ | ⟨b, off, cap, rfl, hb, h0, hc⟩
      · exact (right_nil A cap size w hs).mono fun e w' ⟨he, hw⟩ => ⟨he, hw ▸ Below.refl _ _⟩
      · exact right_row b off cap ps size w h0 (by omega) (by omega) h1 hb hc

end Go.Proofs.YtjlglmfogldbkaaDoor
