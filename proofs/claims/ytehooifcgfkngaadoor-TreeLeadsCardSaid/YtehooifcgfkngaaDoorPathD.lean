/-
  path.Compare.
-/
import Derived.Test.YtehooifcgfkngaaDoorPathC
namespace Go.Proofs.YtehooifcgfkngaaDoor
open Go.RowKit

theorem nan_any (x : ByteArray) (w : World) : Calls Tryd.prog 91 #[.string x] w fun e w' => e = .returned (.bool false) ∧ w' = w := by
  go_enter Tryd.func91, Tryd.ntmps91
  go_wp2_with fail
  go_ret
  exact ⟨by simp, rfl⟩

theorem less_eq : ∀ (x y : List UInt8), Op.bytesLess x y = decide (x < y)
  | [], [] => by simp [Op.bytesLess]
  | [], _ :: _ => by simp [Op.bytesLess]
  | _ :: _, [] => by simp [Op.bytesLess]
  | a :: x, b :: y => by
    have ih := less_eq x y
    unfold Op.bytesLess
    rw [ih, Bool.eq_iff_iff]
    simp [List.cons_lt_cons_iff]

theorem cmp_any (x y : ByteArray) (w : World) : Calls Tryd.prog 78 #[.string x, .string y] w fun e w' => e = .returned (.int .i64 (Pth.cmpB x.data.toList y.data.toList)) ∧ w' = w := by
  have hless : Op.bytesLess x.toList y.toList = decide (x.data.toList < y.data.toList) := by rw [less_eq, str_list, str_list]
  obtain ⟨r, hr⟩ : ∃ r, r = Pth.cmpB x.data.toList y.data.toList := ⟨_, rfl⟩
  rw [← hr]
  have hways : (Op.bytesLess x.toList y.toList = true ∧ r = -1) ∨ (Op.bytesLess x.toList y.toList = false ∧ (x.toList == y.toList) = false ∧ r = 1) ∨ (Op.bytesLess x.toList y.toList = false ∧ (x.toList == y.toList) = true ∧ r = 0) := by
    rw [hless]
    by_cases h : x.data.toList < y.data.toList
    · exact .inl ⟨decide_eq_true h, by rw [hr]; unfold Pth.cmpB; rw [if_pos h]⟩
    · by_cases h2 : y.data.toList < x.data.toList
      · refine .inr (.inl ⟨decide_eq_false h, ?_, by rw [hr]; unfold Pth.cmpB; rw [if_neg h, if_pos h2]⟩)
        rw [str_list, str_list, beq_eq_false_iff_ne]
        intro e; rw [e] at h2; exact List.lt_irrefl _ h2
      · refine .inr (.inr ⟨decide_eq_false h, ?_, by rw [hr]; unfold Pth.cmpB; rw [if_neg h, if_neg h2]⟩)
        rw [str_list, str_list, beq_iff_eq]
        exact Pth.lt_tri h h2
  clear hless hr
  rcases hways with ⟨k1, rfl⟩ | ⟨k1, k2, rfl⟩ | ⟨k1, k2, rfl⟩
  all_goals
    go_enter Tryd.func78, Tryd.ntmps78
    go_wp2_with fail
    refine (nan_any _ _).mono ?_
    rintro e w1 ⟨rfl, rfl⟩
    go_wp2_with fail
    refine (nan_any _ _).mono ?_
    rintro e w1 ⟨rfl, rfl⟩
    go_wp2_with fail
    go_ret
    exact ⟨rfl, rfl⟩

theorem cmp_nil_left (Q : List Pth.Bs) : Pth.cmp [] Q = if Q.length = 0 then 0 else -1 := by cases Q <;> simp [Pth.cmp]
theorem cmp_nil_right {P : List Pth.Bs} (h : 0 < P.length) : Pth.cmp P [] = 1 := by
  cases P with
  | nil => simp at h
  | cons p r => rfl

theorem compare_left (A : Option Addr) (cap : Nat) (C : Option Addr) (n cap2 : Nat) (w : World) (hn : n ≤ 1000000) :
    Calls Tryd.prog 49 #[.slice A 0 cap, .slice C n cap2] w fun e w' => e = .returned (.int .i64 (if n = 0 then 0 else -1)) ∧ w' = w := by
  by_cases h0 : n = 0
  · subst h0
    go_enter Tryd.func49, Tryd.ntmps49
    go_wp2_with fail
    refine wp_loop_rounds 1 ?_
    rw [rounds_succ]
    go_wp2_with fail
    go_ret
    exact ⟨rfl, rfl⟩
  · rw [if_neg h0]
    have h1 : (0 : Int) < n := by omega
    clear h0
    go_enter Tryd.func49, Tryd.ntmps49
    go_wp2_with fail
    refine wp_loop_rounds 1 ?_
    rw [rounds_succ]
    go_wp2_with fail
    go_ret
    exact ⟨rfl, rfl⟩

theorem compare_right (b off cap : Nat) (P : List Pth.Bs) (A : Option Addr) (cap2 : Nat) (w : World) (h0 : 0 < P.length) (hl : P.length ≤ 1000000) (hr : RowS w b off P) :
    Calls Tryd.prog 49 #[.slice (some ⟨b, off, none⟩) P.length cap, .slice A 0 cap2] w fun e w' => e = .returned (.int .i64 1) ∧ w' = w := by
  have c1 := hr 0 h0
  rw [Nat.add_zero] at c1
  obtain ⟨X, hX⟩ : ∃ X, X = bs P[0] := ⟨_, rfl⟩
  rw [← hX] at c1
  have h1 : (0 : Int) < P.length := by omega
  clear hr hX
  go_enter Tryd.func49, Tryd.ntmps49
  go_wp2_with fail
  refine wp_loop_rounds 1 ?_
  rw [rounds_succ]
  go_wp2_with fail
  go_ret
  exact ⟨rfl, rfl⟩

set_option maxRecDepth 100000 in
theorem compare_rows (b off cap b2 off2 cap2 : Nat) (P Q : List Pth.Bs) (w : World) (hl : P.length ≤ 1000000) (hl2 : Q.length ≤ 1000000) (hr : RowS w b off P) (hr2 : RowS w b2 off2 Q) :
    Calls Tryd.prog 49 #[.slice (some ⟨b, off, none⟩) P.length cap, .slice (some ⟨b2, off2, none⟩) Q.length cap2] w fun e w' => e = .returned (.int .i64 (Pth.cmp P Q)) ∧ w' = w := by
  obtain ⟨R, hR⟩ : ∃ R, R = Pth.cmp P Q := ⟨_, rfl⟩
  rw [← hR]
  have HR := Lib.hid hR
  have H1 := Lib.hid hr
  have H2 := Lib.hid hr2
  clear hR hr hr2
  go_enter Tryd.func49, Tryd.ntmps49
  go_wp2_with fail
  go_loop [11] (fun iv => ∃ i : Nat, iv = .int .i64 i ∧ i ≤ P.length ∧ i ≤ Q.length ∧ R = Pth.cmp (P.drop i) (Q.drop i)) (fun iv => P.length - (intOf iv).toNat)
  case atStart => exact ⟨0, rfl, by omega, by omega, by rw [List.drop_zero, List.drop_zero]; exact HR.out⟩
  case round =>
    obtain ⟨i, rfl, hi1, hi2, hR⟩ := hrel
    have HR2 := Lib.hid hR
    clear hR
    by_cases hi : i < P.length
    · have hi3 : (i : Int) < P.length := by omega
      have c1 := H1.out i hi
      obtain ⟨p, hp⟩ : ∃ p, p = P[i] := ⟨_, rfl⟩
      rw [← hp] at c1
      have hdP : P.drop i = p :: P.drop (i + 1) := by rw [hp]; exact List.drop_eq_getElem_cons hi
      obtain ⟨X, hX⟩ : ∃ X, X = bs p := ⟨_, rfl⟩
      rw [← hX] at c1
      have HdP := Lib.hid hdP
      have HX := Lib.hid hX
      clear hp hdP hX
      by_cases hj : i < Q.length
      · have hj3 : (i : Int) < Q.length := by omega
        have hj4 : ¬ (Q.length : Int) ≤ i := by omega
        have c2 := H2.out i hj
        obtain ⟨q, hq⟩ : ∃ q, q = Q[i] := ⟨_, rfl⟩
        rw [← hq] at c2
        have hdQ : Q.drop i = q :: Q.drop (i + 1) := by rw [hq]; exact List.drop_eq_getElem_cons hj
        obtain ⟨Y, hY⟩ : ∃ Y, Y = bs q := ⟨_, rfl⟩
        rw [← hY] at c2
        have hc := fun w => cmp_any X Y w
        have hR3 : R = if Pth.cmpB p q = 0 then Pth.cmp (P.drop (i + 1)) (Q.drop (i + 1)) else Pth.cmpB p q := by rw [HR2.out, HdP.out, hdQ]; rfl
        rw [HX.out, hY, bs_list, bs_list, ← HX.out, ← hY] at hc
        obtain ⟨t, ht⟩ : ∃ t, t = Pth.cmpB p q := ⟨_, rfl⟩
        rw [← ht] at hc hR3
        have HC := Lib.hid hc
        have HR3 := Lib.hid hR3
        clear hq hdQ hY hc ht hR3
        by_cases h0 : t = 0
        · subst h0
          go_wp2_with fail
          refine (HC.out _).mono ?_
          rintro e w1 ⟨rfl, rfl⟩
          go_wp2_with fail
          go_round
          case rel => exact ⟨i + 1, by go_num, by omega, by omega, HR3.out⟩
          case measure => simp [intOf]; omega
        · have h1 : (t == 0) = false := by simpa using h0
          have h2 : (t != 0) = true := by simpa using h0
          have hRt : R = t := by rw [HR3.out, if_neg h0]
          have HRt := Lib.hid hRt
          clear h0 hRt
          go_wp2_with fail
          refine (HC.out _).mono ?_
          rintro e w1 ⟨rfl, rfl⟩
          go_wp2_with fail
          go_ret
          rw [HRt.out]
          exact ⟨rfl, rfl⟩
      · have hj4 : (Q.length : Int) ≤ i := by omega
        have hRt : R = 1 := by rw [HR2.out, HdP.out, List.drop_of_length_le (by omega : Q.length ≤ i)]; rfl
        have HRt := Lib.hid hRt
        clear hRt
        go_wp2_with fail
        go_ret
        rw [HRt.out]
        exact ⟨rfl, rfl⟩
    · have hi3 : (P.length : Int) ≤ i := by omega
      have hRt : R = if P.length < Q.length then -1 else 0 := by
        rw [HR2.out, List.drop_of_length_le (by omega : P.length ≤ i), cmp_nil_left, List.length_drop]
        by_cases h : P.length < Q.length
        · rw [if_pos h, if_neg (by omega)]
        · rw [if_neg h, if_pos (by omega)]
      by_cases h : P.length < Q.length
      · rw [if_pos h] at hRt
        have HRt := Lib.hid hRt
        have h3 : (P.length : Int) < Q.length := by omega
        clear hRt
        go_wp2_with fail
        go_ret
        rw [HRt.out]
        exact ⟨rfl, rfl⟩
      · rw [if_neg h] at hRt
        have HRt := Lib.hid hRt
        have h3 : ¬ (P.length : Int) < Q.length := by omega
        clear hRt
        go_wp2_with fail
        go_ret
        rw [HRt.out]
        exact ⟨rfl, rfl⟩

theorem compare_any {W : World} {B B2 : Nat} {v u : Value} {P Q : List Pth.Bs} (h1 : HasS W B v P) (h2 : HasS W B2 u Q) (hl : P.length ≤ 1000000) (hl2 : Q.length ≤ 1000000) :
    Calls Tryd.prog 49 #[v, u] W fun e w' => e = .returned (.int .i64 (Pth.cmp P Q)) ∧ w' = W := by
  rcases h1.ways with ⟨A, cap, rfl, rfl⟩ | ⟨b, off, cap, rfl, _, _, hb, h0, hr⟩
  · rw [cmp_nil_left]
    obtain ⟨C, cap2, rfl, _⟩ := h2
    exact compare_left A cap C Q.length cap2 W hl2
  · rcases h2.ways with ⟨A, cap2, rfl, rfl⟩ | ⟨b2, off2, cap2, rfl, _, _, hb2, h02, hr2⟩
    · rw [cmp_nil_right h0]
      exact compare_right b off cap P A cap2 W h0 hl hr
    · exact compare_rows b off cap b2 off2 cap2 P Q W hl hl2 hr hr2

/-- path.Compare. -/
theorem order_any (a b : ByteArray) (w : World) (ha : a.size ≤ 100000) (hb : b.size ≤ 100000) (hm : ML w) :
    Calls Tryd.prog 28 #[.string a, .string b] w fun e w' => e = .returned (.int .i64 (Pth.cmp (Pth.parts a.data.toList) (Pth.parts b.data.toList))) ∧ Below w.heap.size w w' := by
  have l1 := Pth.parts_len a.data.toList
  have l2 := Pth.parts_len b.data.toList
  rw [list_size] at l1 l2
  obtain ⟨P, hP⟩ : ∃ P, P = Pth.parts a.data.toList := ⟨_, rfl⟩
  obtain ⟨Q, hQ⟩ : ∃ Q, Q = Pth.parts b.data.toList := ⟨_, rfl⟩
  have p1 := parts_any a w (by omega) hm
  have p2 := fun w hm => parts_any b w (by omega) hm
  rw [← hP] at l1 p1 ⊢
  rw [← hQ] at l2 ⊢
  have p2' : ∀ w, ML w → Calls Tryd.prog 41 #[.string b] w fun e w' => ∃ v, e = .returned v ∧ HasS w' w.heap.size v Q ∧ Below w.heap.size w w' := by rw [hQ]; exact p2
  have P1 := Lib.hid p1
  have P2 := Lib.hid p2'
  have HM := Lib.hid hm
  clear hP hQ p1 p2 p2' hm
  go_enter Tryd.func28, Tryd.ntmps28
  go_wp2_with fail
  refine P1.out.mono ?_
  rintro e w1 ⟨v, rfl, h1, hb1⟩
  have H1 := Lib.hid h1
  have B1 := Lib.hid hb1
  clear h1 hb1
  go_wp2_with fail
  refine (P2.out _ (HM.out.below B1.out)).mono ?_
  rintro e w2 ⟨u, rfl, h2, hb2⟩
  have H2 := Lib.hid h2
  have B2 := Lib.hid hb2
  clear h2 hb2
  go_wp2_with fail
  refine (compare_any (H1.out.below B2.out) H2.out (by omega) (by omega)).mono ?_
  rintro e w3 ⟨rfl, rfl⟩
  go_wp2_with fail
  go_ret
  exact ⟨rfl, thenB B1.out B2.out⟩

end Go.Proofs.YtehooifcgfkngaaDoor
