/-
  path.Away.
-/
import Derived.Test.YtfcpieffecinfaaDoorPathE
import Derived.Deep.RegionHeld3
import Derived.Laws.Concat
import Derived.Lib.Repeat
namespace Pth
theorem same_step (P Q : List Bs) (n : Nat) (h1 : n + 1 < P.length) (h2 : n + 1 < Q.length) (e : P[n] = Q[n]) : same (P.drop n) (Q.drop n) = same (P.drop (n + 1)) (Q.drop (n + 1)) + 1 := by
  rw [List.drop_eq_getElem_cons (by omega : n < P.length), List.drop_eq_getElem_cons (by omega : n < Q.length), List.drop_eq_getElem_cons h1, List.drop_eq_getElem_cons h2]
  show (if P[n] = Q[n] then _ else _) = _
  rw [if_pos e]
theorem same_stop (P Q : List Bs) (n : Nat) (h1 : n < P.length) (h2 : n < Q.length) (h : P.length ≤ n + 1 ∨ Q.length ≤ n + 1 ∨ P[n] ≠ Q[n]) : same (P.drop n) (Q.drop n) = 0 := by
  rw [List.drop_eq_getElem_cons h1, List.drop_eq_getElem_cons h2]
  cases e1 : P.drop (n + 1) with
  | nil => simp [same]
  | cons x r =>
    cases e2 : Q.drop (n + 1) with
    | nil => simp [same]
    | cons y q =>
      have l1 : n + 1 < P.length := by
        rcases Nat.lt_or_ge (n + 1) P.length with hl | hl
        · exact hl
        · rw [List.drop_of_length_le hl] at e1; cases e1
      have l2 : n + 1 < Q.length := by
        rcases Nat.lt_or_ge (n + 1) Q.length with hl | hl
        · exact hl
        · rw [List.drop_of_length_le hl] at e2; cases e2
      show (if P[n] = Q[n] then _ else 0) = 0
      rcases h with h | h | h
      · omega
      · omega
      · rw [if_neg h]
theorem rep_ups (n : Nat) : Go.Lib.repeatL [46, 46, 47] n = ups n := by
  induction n with
  | zero => rfl
  | succ n ih =>
    show [46, 46, 47] ++ Go.Lib.repeatL [46, 46, 47] n = _
    rw [ih]; rfl
theorem join_drop_len (Q : List Bs) (n : Nat) : (join (Q.drop n)).length ≤ (Q.map (fun p => p.length + 1)).sum := by
  have h1 := join_len (Q.drop n)
  have e : (Q.map (fun p => p.length + 1)).sum = ((Q.take n).map (fun p => p.length + 1)).sum + ((Q.drop n).map (fun p => p.length + 1)).sum := by
    rw [← List.sum_append_nat, ← List.map_append, List.take_append_drop]
  omega
theorem ups_len (n : Nat) : (ups n).length = 3 * n := by
  induction n with
  | zero => rfl
  | succ n ih => unfold ups; simp [ih]; omega
end Pth
namespace Go.Proofs.YtfcpieffecinfaaDoor
open Go.RowKit

theorem away_none (a b : ByteArray) (w : World) (hm : ML w) (ha : a.size ≤ 10000) (hb : b.size ≤ 10000) (h : Pth.parts a.data.toList = [] ∨ Pth.parts b.data.toList = []) :
    Calls Tryd.prog 16 #[.string a, .string b] w fun e w' => e = .returned (.string (bs (Pth.away a.data.toList b.data.toList))) ∧ Below w.heap.size w w' := by
  have p1 := parts_any a w (by omega) hm
  have p2 := fun w hm => parts_any b w (by omega) hm
  have e : bs (Pth.away a.data.toList b.data.toList) = ⟨#[]⟩ := by unfold Pth.away; rw [if_pos h]; rfl
  rw [e]
  obtain ⟨P, hP⟩ : ∃ P, P = Pth.parts a.data.toList := ⟨_, rfl⟩
  obtain ⟨Q, hQ⟩ : ∃ Q, Q = Pth.parts b.data.toList := ⟨_, rfl⟩
  rw [← hP] at p1 h
  rw [← hQ] at h
  have p2' : ∀ w, ML w → Calls Tryd.prog 14 #[.string b] w fun e w' => ∃ v, e = .returned v ∧ HasS w' w.heap.size v Q ∧ Below w.heap.size w w' := by rw [hQ]; exact p2
  have P1 := Lib.hid p1
  have P2 := Lib.hid p2'
  have HM := Lib.hid hm
  have hways : P.length = 0 ∨ (¬ P.length = 0 ∧ Q.length = 0) := by
    by_cases h0 : P.length = 0
    · exact .inl h0
    · right
      refine ⟨h0, ?_⟩
      rcases h with h | h
      · rw [h] at h0; exact absurd rfl h0
      · rw [h]; rfl
  clear hP hQ p1 p2 p2' hm e h
  rcases hways with h0 | ⟨h0, h1⟩
  · go_enter Tryd.func16, Tryd.ntmps16
    go_wp2_with fail
    refine P1.out.mono ?_
    rintro e w1 ⟨v, rfl, ⟨A1, cap1, rfl, _⟩, hb1⟩
    have B1 := Lib.hid hb1
    clear hb1
    go_wp2_with fail
    refine (P2.out _ (HM.out.below B1.out)).mono ?_
    rintro e w2 ⟨u, rfl, ⟨A2, cap2, rfl, _⟩, hb2⟩
    have B2 := Lib.hid (thenB B1.out hb2)
    clear hb2
    go_wp2_with fail
    go_ret
    exact ⟨rfl, B2.out⟩
  · have k1 : ((P.length : Int) == 0) = false := beq_eq_false_iff_ne.2 (by omega)
    go_enter Tryd.func16, Tryd.ntmps16
    go_wp2_with fail
    refine P1.out.mono ?_
    rintro e w1 ⟨v, rfl, ⟨A1, cap1, rfl, _⟩, hb1⟩
    have B1 := Lib.hid hb1
    clear hb1
    go_wp2_with fail
    refine (P2.out _ (HM.out.below B1.out)).mono ?_
    rintro e w2 ⟨u, rfl, ⟨A2, cap2, rfl, _⟩, hb2⟩
    have B2 := Lib.hid (thenB B1.out hb2)
    clear hb2
    go_wp2_with fail
    go_ret
    exact ⟨rfl, B2.out⟩

set_option maxRecDepth 100000 in
set_option maxHeartbeats 1000000 in
theorem away_some (a b : ByteArray) (w : World) (hm : ML w) (ha : a.size ≤ 10000) (hb : b.size ≤ 10000) (h1 : Pth.parts a.data.toList ≠ []) (h2 : Pth.parts b.data.toList ≠ []) :
    Calls Tryd.prog 16 #[.string a, .string b] w fun e w' => e = .returned (.string (bs (Pth.away a.data.toList b.data.toList))) ∧ Below w.heap.size w w' := by
  have p1 := parts_any a w (by omega) hm
  have p2 := fun w hm => parts_any b w (by omega) hm
  have l1 := Pth.parts_len a.data.toList
  have l2 := Pth.parts_len b.data.toList
  have sm := Pth.parts_sum b.data.toList
  rw [list_size] at l1 l2 sm
  have e : Pth.away a.data.toList b.data.toList = Pth.ups ((Pth.parts a.data.toList).length - 1 - Pth.same (Pth.parts a.data.toList) (Pth.parts b.data.toList)) ++ Pth.join ((Pth.parts b.data.toList).drop (Pth.same (Pth.parts a.data.toList) (Pth.parts b.data.toList))) := by
    unfold Pth.away; rw [if_neg (by simp [h1, h2])]
  have sl := Pth.same_lt _ _ h1 h2
  obtain ⟨P, hP⟩ : ∃ P, P = Pth.parts a.data.toList := ⟨_, rfl⟩
  obtain ⟨Q, hQ⟩ : ∃ Q, Q = Pth.parts b.data.toList := ⟨_, rfl⟩
  rw [← hP] at p1 h1 l1
  rw [← hQ] at h2 l2 sm
  rw [← hP, ← hQ] at e sl
  have p2' : ∀ w, ML w → Calls Tryd.prog 14 #[.string b] w fun e w' => ∃ v, e = .returned v ∧ HasS w' w.heap.size v Q ∧ Below w.heap.size w w' := by rw [hQ]; exact p2
  obtain ⟨R, hR⟩ : ∃ R, R = Pth.away a.data.toList b.data.toList := ⟨_, rfl⟩
  rw [← hR] at e ⊢
  obtain ⟨S, hS⟩ : ∃ S, S = Pth.same P Q := ⟨_, rfl⟩
  rw [← hS] at e sl
  have P1 := Lib.hid p1
  have P2 := Lib.hid p2'
  have HM := Lib.hid hm
  have E := Lib.hid e
  have HS := Lib.hid hS
  have SM := Lib.hid sm
  clear hP hQ p1 p2 p2' hm e h1 h2 hR hS sm
  have hp0 : ((P.length : Int) == 0) = false := beq_eq_false_iff_ne.2 (by omega)
  have hq0 : ((Q.length : Int) == 0) = false := beq_eq_false_iff_ne.2 (by omega)
  go_enter Tryd.func16, Tryd.ntmps16
  go_wp2_with fail
  refine P1.out.mono ?_
  rintro e w1 ⟨v, rfl, g1, hb1⟩
  have B1 := Lib.hid hb1
  rcases g1.ways with ⟨A, cap, rfl, g0⟩ | ⟨b1, off1, cap1, rfl, hc1, _, hl1, hn1, hr1⟩
  · rw [g0] at sl; simp at sl
  have R1 := Lib.hid hr1
  clear hb1 g1 hr1
  go_wp2_with fail
  refine (P2.out _ (HM.out.below B1.out)).mono ?_
  rintro e w2 ⟨u, rfl, g2, hb2⟩
  have r1 := R1.out.below hb2 hl1
  have B2 := Lib.hid (thenB B1.out hb2)
  rcases g2.ways with ⟨A, cap, rfl, g0⟩ | ⟨b2, off2, cap2, rfl, hc2, _, hl2, hn2, hr2⟩
  · rw [g0] at sl; simp at sl
  have R3 := Lib.hid r1
  have R2 := Lib.hid hr2
  have hb2 := Lib.hid hb2
  clear g2 hr2 r1 R1
  go_wp2_with fail
  go_loopg [7] (S) (fun gh iv wr => ∃ i : Nat, iv = .int .i64 i ∧ gh + i = S ∧ Below w2.heap.size w2 wr ∧ Pth.same (P.drop i) (Q.drop i) = gh)
  case atStart => exact ⟨0, rfl, by omega, Below.refl _ _, by rw [List.drop_zero, List.drop_zero]; exact HS.out.symm⟩
  case round =>
    obtain ⟨i, rfl, hg, hbw, hR⟩ := hrel
    have HW := Lib.hid hbw
    have Hg := Lib.hid hg
    have HR := Lib.hid hR
    have hi1 : i < P.length := by omega
    have hi2 : i < Q.length := by omega
    have hl1' : b1 < w2.heap.size := Nat.lt_of_lt_of_le hl1 hb2.out.size
    have c1 : wr.cell? ⟨b1, off1 + i, none⟩ = some (.string (bs P[i])) := (hbw.cell (p := ⟨b1, off1 + i, none⟩) hl1').trans (R3.out i hi1)
    have c2 : wr.cell? ⟨b2, off2 + i, none⟩ = some (.string (bs Q[i])) := (hbw.cell (p := ⟨b2, off2 + i, none⟩) hl2).trans (R2.out i hi2)
    obtain ⟨X, hX⟩ : ∃ X, X = bs P[i] := ⟨_, rfl⟩
    obtain ⟨Y, hY⟩ : ∃ Y, Y = bs Q[i] := ⟨_, rfl⟩
    rw [← hX] at c1
    rw [← hY] at c2
    have hXY : (X.toList == Y.toList) = decide (P[i] = Q[i]) := by
      rw [str_list, str_list, hX, hY, bs_list, bs_list, Bool.eq_iff_iff]; simp
    have hi3 : (i : Int) < P.length := by omega
    have hi4 : (i : Int) < Q.length := by omega
    have hi5 : (0 : Int) ≤ i := by omega
    clear hbw
    by_cases hgo : i + 1 < P.length ∧ i + 1 < Q.length ∧ P[i] = Q[i]
    · obtain ⟨t1, t2, t3⟩ := hgo
      have hst := Pth.same_step P Q i t1 t2 t3
      rw [hR] at hst
      have HST := Lib.hid hst
      have k1 : (i : Int) < (P.length : Int) - 1 := by omega
      have k2 : (i : Int) < (Q.length : Int) - 1 := by omega
      have k3 : (X.toList == Y.toList) = true := by rw [hXY]; exact decide_eq_true t3
      have k4 : decide ((i : Int) < (P.length : Int) - 1) = true := decide_eq_true k1
      have k5 : decide ((i : Int) < (Q.length : Int) - 1) = true := decide_eq_true k2
      clear hst hXY hX hY t3 hR HR hg
      go_wp2_with fail
      go_quiet (fail)
      go_wp2_with fail
      go_roundg (S - (i + 1))
      case measure => have := Hg.out; have := HST.out; omega
      case rel => exact ⟨i + 1, by go_num, by have := Hg.out; have := HST.out; omega, below_drewN HW.out _, by have := Hg.out; have := HST.out; omega⟩
    · have hz := Pth.same_stop P Q i hi1 hi2 (by
        by_cases t1 : i + 1 < P.length
        · by_cases t2 : i + 1 < Q.length
          · exact .inr (.inr fun t3 => hgo ⟨t1, t2, t3⟩)
          · exact .inr (.inl (by omega))
        · exact .inl (by omega))
      rw [hR] at hz
      have hiS : i = S := by omega
      have hways : (decide ((i : Int) < (P.length : Int) - 1) = false) ∨ (decide ((i : Int) < (P.length : Int) - 1) = true ∧ decide ((i : Int) < (Q.length : Int) - 1) = false) ∨ (decide ((i : Int) < (P.length : Int) - 1) = true ∧ decide ((i : Int) < (Q.length : Int) - 1) = true ∧ (X.toList == Y.toList) = false) := by
        by_cases t1 : i + 1 < P.length
        · right
          by_cases t2 : i + 1 < Q.length
          · refine .inr ⟨decide_eq_true (by omega), decide_eq_true (by omega), ?_⟩
            rw [hXY]; exact decide_eq_false fun t3 => hgo ⟨t1, t2, t3⟩
          · exact .inl ⟨decide_eq_true (by omega), decide_eq_false (by omega)⟩
        · exact .inl (decide_eq_false (by omega))
      obtain ⟨k, hk⟩ : ∃ k, P.length = i + 1 + k := ⟨P.length - (i + 1), by omega⟩
      obtain ⟨m, hm⟩ : ∃ m, Q.length = i + m := ⟨Q.length - i, by omega⟩
      have hrep := fun w => Tryd.strings_Repeat ⟨#[46, 46, 47]⟩ k w (by omega) (by show 3 * k ≤ _; omega)
      have e1 : Lib.repeatL (⟨#[46, 46, 47]⟩ : ByteArray).data.toList k = Pth.ups k := Pth.rep_ups k
      rw [e1] at hrep
      have hjl := Pth.join_drop_len Q i
      have hsm := SM.out
      have hjoin := fun (w : World) (h : HasS w 0 (.slice (some ⟨b2, off2 + i, none⟩) m (cap2 - i)) (Q.drop i)) => join_any h (by rw [List.length_drop]; omega) (by omega)
      have hrow : ∀ w', Below w2.heap.size w2 w' → HasS w' 0 (.slice (some ⟨b2, off2 + i, none⟩) m (cap2 - i)) (Q.drop i) := fun w' hb' => by
        have hq : RowS w' b2 (off2 + i) (Q.drop i) := (R2.out.below hb' hl2).drop i
        have hm2 : (Q.drop i).length = m := by rw [List.length_drop]; omega
        have := HasS.row (cap := cap2 - i) (Nat.zero_le _) (Nat.lt_of_lt_of_le hl2 hb'.size) (by rw [hm2]; omega) hq
        rw [hm2] at this; exact this
      have hR2 : R = Pth.ups k ++ Pth.join (Q.drop i) := by
        rw [E.out, ← hiS, hk]; congr 2; omega
      obtain ⟨J, hJ⟩ : ∃ J, J = bs (Pth.join (Q.drop i)) := ⟨_, rfl⟩
      obtain ⟨U, hU⟩ : ∃ U, U = bs (Pth.ups k) := ⟨_, rfl⟩
      have hRb : bs R = U ++ J := by rw [hU, hJ, cat_bs, hR2]
      have hsz : U.size + J.size ≤ 9223372036854775807 := by
        rw [hU, hJ, bs_size, bs_size, Pth.ups_len]; omega
      have hsum := fun w => run_string_add_sum (P := Tryd.prog) (w := w) U J hsz
      have hjoin2 : ∀ w, Below w2.heap.size w2 w → Calls Tryd.prog 30 #[.slice (some ⟨b2, off2 + i, none⟩) m (cap2 - i), .string ⟨#[47]⟩] w fun e w' => e = .returned (.string J) ∧ Below w.heap.size w w' := fun w hb' => by rw [hJ]; exact hjoin w (hrow w hb')
      have hrep2 : ∀ w, Calls Tryd.prog 29 #[.string ⟨#[46, 46, 47]⟩, .int .i64 (k : Int)] w fun e w' => e = .returned (.string U) ∧ Below w.heap.size w w' := by rw [hU]; exact hrep
      have HRB := Lib.hid hRb
      have hne : ¬ i = cap2 := by omega
      have hne2 : ¬ cap2 = i := by omega
      have hic : (i : Int) ≤ cap2 := by omega
      have hiq : (i : Int) ≤ Q.length := by omega
      have hw1 : IntKind.i64.wrap ((P.length : Int) - 1) = (P.length : Int) - 1 := IntWalk.i64_in _ (by omega)
      have hw2 : IntKind.i64.wrap ((P.length : Int) - 1 - i) = (k : Int) := by rw [IntWalk.i64_in _ (by omega)]; omega
      have hQm : Q.length - i = m := by omega
      have JN := Lib.hid hjoin2
      have RP := Lib.hid hrep2
      have QM := Lib.hid hQm
      have HIS := Lib.hid hiS
      clear hiS hgo hz hR HR hg hk hm hrep e1 hjl hsm hjoin hrow hR2 hJ hU hRb hjoin2 hrep2 hXY hX hY hsz
      rcases hways with k1 | ⟨k1, k2⟩ | ⟨k1, k2, k3⟩
      all_goals
        go_wp2_with fail
        go_quiet (fail)
        go_wp2_with fail
        go_region_held3 (fun w' => True) (trivial) (first
          | (go_at_call 29; (with_reducible refine (RP.out _).mono ?_); rintro e w4 ⟨rfl, hb4⟩; have B4 := Lib.hid hb4; clear hb4)
          | (go_at_call 30; (with_reducible refine (JN.out _ ?hj).mono ?_); (case hj => first | exact below_drewN HW.out _ | exact (below_drewN HW.out _).trans (B4.out.mono HW.out.size) | exact ((below_drewN HW.out _).trans (B4.out.mono HW.out.size)).drew); rintro e w5 ⟨rfl, hb5⟩; have B5 := Lib.hid hb5; clear hb5))
        all_goals go_wp2_with fail
        all_goals go_ret
        all_goals rw [HRB.out]
        all_goals exact ⟨rfl, thenB (thenB (below_drewN (thenB B2.out HW.out) _) B4.out) B5.out⟩

theorem away_any (a b : ByteArray) (w : World) (hm : ML w) (ha : a.size ≤ 10000) (hb : b.size ≤ 10000) :
    Calls Tryd.prog 16 #[.string a, .string b] w fun e w' => e = .returned (.string (bs (Pth.away a.data.toList b.data.toList))) ∧ Below w.heap.size w w' := by
  by_cases h1 : Pth.parts a.data.toList = []
  · exact away_none a b w hm ha hb (.inl h1)
  · by_cases h2 : Pth.parts b.data.toList = []
    · exact away_none a b w hm ha hb (.inr h2)
    · exact away_some a b w hm ha hb h1 h2

end Go.Proofs.YtfcpieffecinfaaDoor
