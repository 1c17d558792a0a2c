/-
  hole.Right and hole.Size.
-/
import Derived.Test.YtkhkjacnoiopcaaGreatDoorZah
import Derived.Test.YtkhkjacnoiopcaaGreatDoorZac
import Derived.Test.YtkhkjacnoiopcaaGreatDoorZpa
import Derived.RegionTactic
import Derived.StillTailTactics
import Derived.Test.YtkhkjacnoiopcaaGreatDoorZab
import Derived.BigQuiet
import Derived.Deep.QuietTactic
set_option linter.unusedVariables false
set_option linter.unusedSimpArgs false

set_option linter.unusedVariables false
set_option linter.unusedSimpArgs false
namespace Go.Proofs.YtkhkjacnoiopcaaGreatDoor
open Go.RowKit

set_option maxRecDepth 100000 in
set_option maxHeartbeats 1000000 in
theorem right_row (b off cap : Nat) (ps : List (Int × Int)) (size : Int) (w : World) (h0 : 0 < ps.length) (h20 : ps.length ≤ 20) (hs0 : 0 ≤ size) (hs1 : size ≤ 9223372036854775807) (hb : b < w.heap.size)
    (hc : ∀ (j : Nat) (hj : j < ps.length), w.cell? ⟨b, off + j * 2, none⟩ = some (.int .i64 ps[j].1) ∧ w.cell? ⟨b, off + j * 2 + 1, none⟩ = some (.int .i64 ps[j].2)) :
    Calls Tryz.prog 96 #[.slice (some ⟨b, off, none⟩) ps.length cap, .int .i64 size] w fun e w' => e = .returned (.bool (Hol.rightGo size (-1) ps)) ∧ Below w.heap.size w w' := by
  obtain ⟨r, hr⟩ : ∃ r, r = Hol.rightGo size (-1) ps := ⟨_, rfl⟩
  rw [← hr]
  have Hr := Lib.hid hr
  have HC := Lib.hid hc
  clear hr hc
  have k1 : ¬ size < 0 := by omega
  have k2 : ¬ (20 : Int) < ps.length := by omega
  go_enter Tryz.func96, Tryz.ntmps96
  go_wp2_with fail
  go_loopg [16] (ps.length) (fun g iv wr => ∃ (i : Nat) (lo : Int), iv = .int .i64 i ∧ i ≤ ps.length ∧ g + i = ps.length ∧ Below w.heap.size w wr ∧
    (i = 0 ∧ lo = -1 ∨ ∃ (k : Nat) (hk : k < ps.length), i = k + 1 ∧ 0 ≤ ps[k].1 ∧ 1 ≤ ps[k].2 ∧ ps[k].2 ≤ size ∧ ps[k].1 ≤ size - ps[k].2 ∧ lo = ps[k].1 + ps[k].2) ∧ r = Hol.rightGo size lo (ps.drop i))
  case atStart => exact ⟨0, -1, rfl, by omega, by omega, Below.refl _ _, .inl ⟨rfl, rfl⟩, Hr.out⟩
  case round =>
    obtain ⟨i, lo, rfl, hi1, hg, hbw, hlo, hR⟩ := hrel
    have Hg := Lib.hid hg
    have HR := Lib.hid hR
    have HW := Lib.hid hbw
    clear hg hR hbw
    by_cases hi : i < ps.length
    · have hi3 : (i : Int) < ps.length := by omega
      have c1 := (HW.out.cell (p := ⟨b, off + i * 2, none⟩) hb).trans (HC.out i hi).1
      have c2 := (HW.out.cell (p := ⟨b, off + i * 2 + 1, none⟩) hb).trans (HC.out i hi).2
      have hdr : ps.drop i = (ps[i].1, ps[i].2) :: ps.drop (i + 1) := List.drop_eq_getElem_cons hi
      obtain ⟨a, ha⟩ : ∃ a, a = ps[i].1 := ⟨_, rfl⟩
      obtain ⟨s, hs⟩ : ∃ s, s = ps[i].2 := ⟨_, rfl⟩
      rw [← ha] at c1
      rw [← hs] at c2
      rw [← ha, ← hs] at hdr
      have hR2 : r = if s < 1 ∨ a < 0 ∨ size < s ∨ size - s < a then false else if a ≤ lo then false else Hol.rightGo size (a + s) (ps.drop (i + 1)) := by
        rw [HR.out, hdr]; rfl
      have HA := Lib.hid ha
      have HS := Lib.hid hs
      have HR2 := Lib.hid hR2
      have HL := Lib.hid hlo
      clear ha hs hdr hR2 HR hlo
      by_cases hbad : s < 1 ∨ a < 0 ∨ size < s ∨ size - s < a
      · have hr : r = false := by rw [HR2.out, if_pos hbad]
        have HF := Lib.hid hr
        clear hr
        have hways : s < 1 ∨ (¬ s < 1 ∧ a < 0) ∨ (¬ s < 1 ∧ ¬ a < 0 ∧ size < s) ∨ (¬ s < 1 ∧ ¬ a < 0 ∧ ¬ size < s ∧ size - s < a) := by omega
        clear hbad HR2 HC
        rcases hways with h1 | ⟨h1, h2⟩ | ⟨h1, h2, h3⟩ | ⟨h1, h2, h3, h4⟩
        all_goals
          go_wp2_with fail
          go_ret
          rw [HF.out]
          exact ⟨rfl, HW.out.alloc HW.out.size _⟩
      · have h1 : ¬ s < 1 := by omega
        have h2 : ¬ a < 0 := by omega
        have h3 : ¬ size < s := by omega
        have h4 : ¬ size - s < a := by omega
        have HB := Lib.hid hbad
        clear hbad
        rcases HL.out with ⟨e0, rfl⟩ | ⟨k, hk, e0, p1, p2, p3, p4, e1⟩
        · subst e0
          have hr : r = Hol.rightGo size (a + s) (ps.drop (0 + 1)) := by rw [HR2.out, if_neg HB.out, if_neg (by omega)]
          have HF := Lib.hid hr
          have h0' : (0 : Int) < ps.length := by omega
          simp only [Nat.zero_mul, Nat.add_zero] at c1 c2
          clear hr
          go_wp2_with fail
          go_quiet (fail)
          go_wp2_with fail
          go_roundg (ps.length - 1)
          case measure => have := Hg.out; omega
          case rel => exact ⟨1, a + s, rfl, by omega, by omega, below_drewN (HW.out.alloc HW.out.size _) _, .inr ⟨0, hi, rfl, by rw [← HA.out]; omega, by rw [← HS.out]; omega, by rw [← HS.out]; omega, by rw [← HA.out, ← HS.out]; omega, by rw [HA.out, HS.out]⟩, HF.out⟩
        · subst e0
          obtain ⟨x, hx⟩ : ∃ x, x = ps[k].1 := ⟨_, rfl⟩
          obtain ⟨y, hy⟩ : ∃ y, y = ps[k].2 := ⟨_, rfl⟩
          have c3 := (HW.out.cell (p := ⟨b, off + k * 2, none⟩) hb).trans (HC.out k hk).1
          have c4 := (HW.out.cell (p := ⟨b, off + k * 2 + 1, none⟩) hb).trans (HC.out k hk).2
          rw [← hx] at c3 p1 p4 e1
          rw [← hy] at c4 p2 p3 p4 e1
          have E1 := Lib.hid e1
          have hbw : b < wr.heap.size := Nat.lt_of_lt_of_le hb HW.out.size
          have c3' : (wr.alloc (.cells #[.int .i64 a, .int .i64 s] 79)).cell? ⟨b, off + k * 2, none⟩ = some (.int .i64 x) := (World.cell?_alloc_lt _ _ ⟨b, off + k * 2, none⟩ hbw).trans c3
          have c4' : (wr.alloc (.cells #[.int .i64 a, .int .i64 s] 79)).cell? ⟨b, off + k * 2 + 1, none⟩ = some (.int .i64 y) := (World.cell?_alloc_lt _ _ ⟨b, off + k * 2 + 1, none⟩ hbw).trans c4
          have ew1 : IntKind.i64.wrap ((k : Int) + 1 - 1) = k := by rw [IntWalk.i64_in _ (by omega)]; omega
          have ew3 : IntKind.i64.wrap (k : Int) = k := IntWalk.i64_in _ (by omega)
          have ew2 : IntKind.i64.wrap (x + y) = x + y := IntWalk.i64_in _ (by omega)
          have hk3 : (k : Int) < ps.length := by omega
          have hk4 : (0 : Int) ≤ k := by omega
          have hk5 : (0 : Int) < (k : Int) + 1 := by omega
          clear hx hy e1 HL HC
          by_cases hle : a ≤ x + y
          · have hr : r = false := by rw [HR2.out, if_neg HB.out, if_pos (by rw [E1.out]; exact hle)]
            have HF := Lib.hid hr
            clear hr
            go_wp2_with fail
            go_quiet (fail)
            go_wp2_with fail
            go_ret
            rw [HF.out]
            exact ⟨rfl, below_drewN (HW.out.alloc HW.out.size _) _⟩
          · have hr : r = Hol.rightGo size (a + s) (ps.drop (k + 1 + 1)) := by rw [HR2.out, if_neg HB.out, if_neg (by rw [E1.out]; exact hle)]
            have HF := Lib.hid hr
            clear hr
            go_wp2_with fail
            go_quiet (fail)
            go_wp2_with fail
            go_roundg (ps.length - (k + 1 + 1))
            case measure => have := Hg.out; omega
            case rel => exact ⟨k + 1 + 1, a + s, by go_num, by omega, by omega, below_drewN (HW.out.alloc HW.out.size _) _, .inr ⟨k + 1, hi, rfl, by rw [← HA.out]; omega, by rw [← HS.out]; omega, by rw [← HS.out]; omega, by rw [← HA.out, ← HS.out]; omega, by rw [HA.out, HS.out]⟩, HF.out⟩
    · have hi3 : (ps.length : Int) ≤ i := by omega
      have hr : r = true := by rw [HR.out, List.drop_of_length_le (by omega)]; rfl
      have HF := Lib.hid hr
      clear hr HR hlo
      go_wp2_with fail
      go_ret
      rw [HF.out]
      exact ⟨rfl, HW.out⟩

theorem right_no (A : Option Addr) (L cap : Nat) (size : Int) (w : World) (h : size < 0 ∨ 20 < L) : Calls Tryz.prog 96 #[.slice A L cap, .int .i64 size] w fun e w' => e = .returned (.bool false) ∧ w' = w := by
  by_cases h1 : size < 0
  · clear h
    go_enter Tryz.func96, Tryz.ntmps96
    go_wp2_with fail
    go_ret
    exact ⟨rfl, rfl⟩
  · have h2 : (20 : Int) < L := by omega
    clear h
    go_enter Tryz.func96, Tryz.ntmps96
    go_wp2_with fail
    go_ret
    exact ⟨rfl, rfl⟩
theorem right_nil (A : Option Addr) (cap : Nat) (size : Int) (w : World) (h : ¬ size < 0) : Calls Tryz.prog 96 #[.slice A 0 cap, .int .i64 size] w fun e w' => e = .returned (.bool true) ∧ w' = w := by
  go_enter Tryz.func96, Tryz.ntmps96
  go_wp2_with fail
  refine wp_loop_rounds 1 ?_
  rw [rounds_succ]
  go_wp2_with fail
  go_ret
  exact ⟨rfl, rfl⟩
theorem hright_any (v : Value) (ps : List (Int × Int)) (size : Int) (w : World) (hP : Pcs w v ps) (h1 : size ≤ 9223372036854775807) :
    Calls Tryz.prog 96 #[v, .int .i64 size] w fun e w' => e = .returned (.bool (Hol.rightI ps size)) ∧ Below w.heap.size w w' := by
  unfold Hol.rightI
  by_cases hs : size < 0
  · rw [decide_eq_false (by omega : ¬ 0 ≤ size)]
    obtain ⟨A, cap, rfl, _⟩ := hP
    exact (right_no A _ cap size w (.inl hs)).mono fun e w' ⟨he, hw⟩ => ⟨he, hw ▸ Below.refl _ _⟩
  · rw [decide_eq_true (by omega : 0 ≤ size)]
    by_cases hl : 20 < ps.length
    · rw [decide_eq_false (by omega : ¬ ps.length ≤ 20)]
      obtain ⟨A, cap, rfl, _⟩ := hP
      exact (right_no A _ cap size w (.inr hl)).mono fun e w' ⟨he, hw⟩ => ⟨he, hw ▸ Below.refl _ _⟩
    · rw [decide_eq_true (by omega : ps.length ≤ 20)]
      rcases pcs_ways hP with ⟨A, cap, rfl, rfl⟩ | ⟨b, off, cap, rfl, hb, h0, hc⟩
      · exact (right_nil A cap size w hs).mono fun e w' ⟨he, hw⟩ => ⟨he, hw ▸ Below.refl _ _⟩
      · exact right_row b off cap ps size w h0 (by omega) (by omega) h1 hb hc

end Go.Proofs.YtkhkjacnoiopcaaGreatDoor

set_option linter.unusedVariables false
set_option linter.unusedSimpArgs false
namespace Go.Proofs.YtkhkjacnoiopcaaGreatDoor
open Go.RowKit

/-- Row b from off on holds the pieces qs. -/
def RowQ (w : World) (b off : Nat) (qs : List Hol.Pc) : Prop := ∀ (j : Nat) (hj : j < qs.length), w.cell? ⟨b, off + j * 2, none⟩ = some (.int .i64 (qs[j].1 : Int)) ∧ w.cell? ⟨b, off + j * 2 + 1, none⟩ = some (.int .i64 (qs[j].2 : Int))
theorem rowq_ways {W : World} {v : Value} {qs : List Hol.Pc} (h : Pcs W v (qs.map Hol.castP)) : (∃ A cap, v = .slice A 0 cap ∧ qs = []) ∨ ∃ b off cap, v = .slice (some ⟨b, off, none⟩) qs.length cap ∧ b < W.heap.size ∧ 0 < qs.length ∧ RowQ W b off qs := by
  rcases pcs_ways h with ⟨A, cap, e, h0⟩ | ⟨b, off, cap, e, hb, h0, hc⟩
  · exact .inl ⟨A, cap, e, List.map_eq_nil_iff.1 h0⟩
  · right
    rw [List.length_map] at e h0
    refine ⟨b, off, cap, e, hb, h0, fun j hj => ?_⟩
    have := hc j (by rw [List.length_map]; exact hj)
    simpa [Hol.castP] using this
theorem right_asc {v : Value} {qs : List Hol.Pc} {n : Nat} {w : World} (hP : Pcs w v (qs.map Hol.castP)) (hA : Hol.Asc n 0 qs) (h20 : qs.length ≤ 20) (hn : n ≤ 1000000) :
    Calls Tryz.prog 96 #[v, .int .i64 n] w fun e w' => e = .returned (.bool true) ∧ Below w.heap.size w w' := by
  have h := hright_any v _ (n : Int) w hP (by omega)
  have e : Hol.rightI (qs.map Hol.castP) n = true := by
    unfold Hol.rightI
    rw [decide_eq_true (by omega : (0 : Int) ≤ n), decide_eq_true (by rw [List.length_map]; exact h20)]
    exact Hol.asc_right n qs 0 hA
  rw [e] at h; exact h

theorem size_snoc (qs : List Hol.Pc) (i : Nat) (hi : i < qs.length) : Hol.size (qs.take (i + 1)) = Hol.size (qs.take i) + qs[i].2 := by
  rw [List.take_succ_eq_append_getElem hi]
  unfold Hol.size
  rw [List.map_append, List.sum_append_nat]
  simp only [List.map_cons, List.map_nil, List.sum_cons, List.sum_nil, Nat.add_zero]
theorem size_take_le (qs : List Hol.Pc) (i : Nat) : Hol.size (qs.take i) ≤ Hol.size qs := by
  have := List.take_append_drop i qs
  have e : Hol.size qs = Hol.size (qs.take i) + Hol.size (qs.drop i) := by
    unfold Hol.size
    rw [← List.sum_append_nat, ← List.map_append, this]
  omega

set_option maxRecDepth 100000 in
theorem size_any (v : Value) (qs : List Hol.Pc) (w : World) (hP : Pcs w v (qs.map Hol.castP)) (hl : qs.length ≤ 1000) (hs : Hol.size qs ≤ 9223372036854775807) :
    Calls Tryz.prog 97 #[v] w fun e w' => e = .returned (.int .i64 (Hol.size qs)) ∧ Below w.heap.size w w' := by
  rcases rowq_ways hP with ⟨A, cap, rfl, rfl⟩ | ⟨b, off, cap, rfl, hb, h0, hc⟩
  · clear hP hl hs
    go_enter Tryz.func97, Tryz.ntmps97
    go_wp2_with fail
    refine wp_loop_rounds 1 ?_
    rw [rounds_succ]
    go_wp2_with fail
    go_ret
    exact ⟨rfl, Below.refl _ _⟩
  · have HC := Lib.hid hc
    clear hP hc
    go_enter Tryz.func97, Tryz.ntmps97
    go_wp2_with fail
    go_loopg [3, 8] (qs.length) (fun g nv iv wr => ∃ i n : Nat, iv = .int .i64 i ∧ nv = .int .i64 n ∧ i ≤ qs.length ∧ g + i = qs.length ∧ n ≤ 9223372036854775807 ∧ Below w.heap.size w wr ∧ n = Hol.size (qs.take i))
    case atStart => exact ⟨0, 0, rfl, rfl, by omega, by omega, by omega, Below.refl _ _, rfl⟩
    case round =>
      obtain ⟨i, n, rfl, rfl, hi1, hg, hn, hbw, hR⟩ := hrel
      have Hg := Lib.hid hg
      have HR := Lib.hid hR
      have HW := Lib.hid hbw
      clear hg hR hbw
      by_cases hi : i < qs.length
      · have hi3 : (i : Int) < qs.length := by omega
        have c1 := (HW.out.cell (p := ⟨b, off + i * 2, none⟩) hb).trans (HC.out i hi).1
        have c2 := (HW.out.cell (p := ⟨b, off + i * 2 + 1, none⟩) hb).trans (HC.out i hi).2
        obtain ⟨a, ha⟩ : ∃ a, a = qs[i].1 := ⟨_, rfl⟩
        obtain ⟨t, ht⟩ : ∃ t, t = qs[i].2 := ⟨_, rfl⟩
        rw [← ha] at c1
        rw [← ht] at c2
        have hn2 := size_snoc qs i hi
        have hle := size_take_le qs (i + 1)
        rw [← ht, ← HR.out] at hn2
        have hnt : n + t ≤ 9223372036854775807 := by omega
        have HN := Lib.hid hn2
        clear ha ht hn2 hle
        go_wp2_with fail
        go_roundg (qs.length - (i + 1))
        case measure => have := Hg.out; omega
        case rel => exact ⟨i + 1, n + t, by go_num, by go_num, by omega, by omega, hnt, HW.out.alloc HW.out.size _, HN.out.symm⟩
      · have hi3 : (qs.length : Int) ≤ i := by omega
        have hr : Hol.size qs = n := by rw [HR.out, List.take_of_length_le (by omega)]
        have HF := Lib.hid hr
        clear hr HR
        go_wp2_with fail
        go_ret
        rw [HF.out]
        exact ⟨rfl, HW.out⟩

end Go.Proofs.YtkhkjacnoiopcaaGreatDoor

set_option linter.unusedVariables false
set_option linter.unusedSimpArgs false
namespace Go.Proofs.YtkhkjacnoiopcaaGreatDoor
open Go.RowKit

end Go.Proofs.YtkhkjacnoiopcaaGreatDoor

set_option linter.unusedVariables false
set_option linter.unusedSimpArgs false
namespace Go.Proofs.YtkhkjacnoiopcaaGreatDoor
open Go.RowKit

theorem dropZ (l : List UInt8) (h : Hol.zeros l = true) : l.dropWhile (· == (0 : UInt8)) = [] := by
  induction l with
  | nil => rfl
  | cons c l ih =>
    simp only [Hol.zeros, List.all_cons, Bool.and_eq_true] at h
    rw [List.dropWhile_cons_of_pos (p := fun x => x == (0 : UInt8)) h.1, ih h.2]
theorem zeros_rev (l : List UInt8) : Hol.zeros l.reverse = Hol.zeros l := by unfold Hol.zeros; rw [List.all_reverse]
theorem dropN (l : List UInt8) (h : Hol.zeros l = false) : ∃ c r, l.dropWhile (· == (0 : UInt8)) = c :: r ∧ (c == (0 : UInt8)) = false := by
  induction l with
  | nil => cases h
  | cons c l ih =>
    by_cases hc : (c == (0 : UInt8)) = true
    · rw [List.dropWhile_cons_of_pos (p := fun x => x == (0 : UInt8)) hc]
      refine ih ?_
      simpa [Hol.zeros, hc] using h
    · rw [List.dropWhile_cons_of_neg (p := fun x => x == (0 : UInt8)) hc]
      exact ⟨c, l, rfl, by simpa using hc⟩
/-- strings.Trim(x, "\x00") tells whether all is 0. -/
theorem trim_named (x : ByteArray) (hx : x.size ≤ 100000) : ∃ T : ByteArray, T.toList.isEmpty = Hol.zeros x.data.toList ∧ ∀ w : World, Calls Tryz.prog 70 #[.string x, .string ⟨#[0]⟩] w fun e w' => e = .returned (.string T) ∧ Below w.heap.size w w' := by
  refine ⟨⟨(Lib.trimB x.data.toList 0).toArray⟩, ?_, fun w => (Tryz.strings_Trim_one x 0 (by decide) w (by omega)).mono fun _ w' ⟨he, hw⟩ => ⟨he, ?_⟩⟩
  · rw [Lib.toList_data]
    show (Lib.trimB x.data.toList 0).isEmpty = _
    unfold Lib.trimB Lib.trimRightB Lib.trimLeftB
    cases hz : Hol.zeros x.data.toList with
    | true =>
      rw [show x.data.toList.reverse.dropWhile (· == (0 : UInt8)) = [] from dropZ _ (by rw [zeros_rev]; exact hz)]; rfl
    | false =>
      obtain ⟨c, r, e, hc⟩ := dropN x.data.toList.reverse (by rw [zeros_rev]; exact hz)
      rw [e, List.reverse_cons]
      have hne : Hol.zeros (r.reverse ++ [c]) = false := by
        unfold Hol.zeros; rw [List.all_append]; simp [hc]
      obtain ⟨c2, r2, e2, _⟩ := dropN _ hne
      rw [e2]; rfl
  · rcases hw with rfl | rfl
    · exact Below.refl _ _
    · exact (Below.refl _ _).drew

theorem HasP.form {w : World} {B : Nat} {v : Value} {l : List Hol.Pc} (h : HasP w B v l) : ∃ X cap, v = .slice X l.length cap ∧ (X = none → l = []) := by
  obtain ⟨_, hw⟩ := h
  rcases hw with ⟨rfl, h0⟩ | ⟨g, cap, cur, rfl, _⟩
  · exact ⟨none, 0, by rw [h0], fun _ => List.length_eq_zero_iff.1 h0⟩
  · exact ⟨some ⟨g, 0, none⟩, cap, rfl, fun e => by cases e⟩

theorem HasP.row {w : World} {B Ln : Nat} {v : Value} {r : List Hol.Pc} (h : HasP w B v r.reverse) (hL : Ln = r.length) : w.ownsRow B 79 2 v Ln (pcCells r.reverse) := by
  unfold HasP at h
  rw [List.length_reverse, ← hL] at h
  exact h
end Go.Proofs.YtkhkjacnoiopcaaGreatDoor

set_option linter.unusedVariables false
set_option linter.unusedSimpArgs false
namespace Go.Proofs.YtkhkjacnoiopcaaGreatDoor
open Go.RowKit

theorem RowQ.pcs {w : World} {b off cap : Nat} {qs : List Hol.Pc} (h : RowQ w b off qs) (hb : b < w.heap.size) : Pcs w (.slice (some ⟨b, off, none⟩) qs.length cap) (qs.map Hol.castP) := by
  refine ⟨_, cap, by rw [List.length_map], fun j hj => ⟨b, off, rfl, hb, ?_⟩⟩
  have := h j (by simpa using hj)
  simpa [Hol.castP] using this
theorem RowQ.below {w w' : World} {b off : Nat} {qs : List Hol.Pc} (h : RowQ w b off qs) (hb : b < w.heap.size) (hw : Below w.heap.size w w') : RowQ w' b off qs := fun j hj =>
  ⟨(hw.cell (p := ⟨b, off + j * 2, none⟩) hb).trans (h j hj).1, (hw.cell (p := ⟨b, off + j * 2 + 1, none⟩) hb).trans (h j hj).2⟩

end Go.Proofs.YtkhkjacnoiopcaaGreatDoor

set_option linter.unusedVariables false
set_option linter.unusedSimpArgs false
namespace Go.Proofs.YtkhkjacnoiopcaaGreatDoor
open Go.RowKit Tre Pk

def evc (e : Ent) (mv : Value) : Array Value := #[.string (bs e.name), .int .u8 e.kind, .int .i64 e.mode, .int .i64 e.uid, .int .i64 e.gid, .int .i64 e.size, .int .i64 e.sec, .int .i64 e.nano, .string (bs e.link), .string (bs e.user), .string (bs e.group), .int .i64 e.major, .int .i64 e.minor, .string (bs e.data), mv]
def ev (e : Ent) (mv : Value) : Value := .agg (evc e mv)

end Go.Proofs.YtkhkjacnoiopcaaGreatDoor
