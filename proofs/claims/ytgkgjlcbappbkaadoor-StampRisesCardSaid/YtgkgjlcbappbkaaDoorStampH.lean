/-
  slices.Compare of whole numbers.
-/
import Derived.Test.YtgkgjlcbappbkaaDoorStampG
namespace Go.Proofs.YtgkgjlcbappbkaaDoor
open Go.RowKit

theorem keep_cell {w w' : World} {p : Addr} {v : Value} (T : Below w.heap.size w w') (h : w.cell? p = some v) : w'.cell? p = some v := (T.cell (World.block_lt_of_cell? w p h)).trans h

theorem keep_drew {w0 w w' : World} {p : Addr} {v : Value} (h : w0.cell? p = some v) (T : Below w.heap.size w w') (e : w0.heap = w.heap) : w'.cell? p = some v := by
  refine keep_cell T ?_
  unfold World.cell? at h ⊢
  rw [← e]; exact h
theorem below_alloc {w w' : World} (h : Below w.heap.size w w') (o : Obj) : Below w.heap.size w (w'.alloc o) := h.alloc h.size o

def RowI (W : World) (b off : Nat) (ps : List Int) : Prop := ∀ (j : Nat) (hj : j < ps.length), W.cell? ⟨b, off + j, none⟩ = some (.int .i64 ps[j])
def cmpZ (p q : Int) : Int := if p < q then -1 else if q < p then 1 else 0
theorem cmpL_cons (p q : Int) (P Q : List Int) : Cal.cmpL (p :: P) (q :: Q) = if cmpZ p q = 0 then Cal.cmpL P Q else cmpZ p q := by
  unfold cmpZ
  simp only [Cal.cmpL]
  split
  · rfl
  · split <;> rfl
theorem cmpL_nil (Q : List Int) : Cal.cmpL [] Q = if Q.length = 0 then 0 else -1 := by cases Q <;> simp [Cal.cmpL]
theorem nani_any (x : Int) (w : World) : Calls Tryd.prog 52 #[.int .i64 x] w fun e w' => e = .returned (.bool false) ∧ w' = w := by
  go_enter Tryd.func52, Tryd.ntmps52
  go_wp2_with fail
  go_ret
  exact ⟨by simp, rfl⟩
theorem cmpi_any (x y : Int) (w : World) : Calls Tryd.prog 29 #[.int .i64 x, .int .i64 y] w fun e w' => e = .returned (.int .i64 (cmpZ x y)) ∧ w' = w := by
  obtain ⟨r, hr⟩ : ∃ r, r = cmpZ x y := ⟨_, rfl⟩
  rw [← hr]
  have hways : (x < y ∧ r = -1) ∨ (¬ x < y ∧ y < x ∧ r = 1) ∨ (¬ x < y ∧ ¬ y < x ∧ r = 0) := by
    rw [hr]; unfold cmpZ
    omega
  clear hr
  rcases hways with ⟨k1, rfl⟩ | ⟨k1, k2, rfl⟩ | ⟨k1, k2, rfl⟩
  all_goals
    go_enter Tryd.func29, Tryd.ntmps29
    go_wp2_with fail
    refine (nani_any _ _).mono ?_
    rintro e w1 ⟨rfl, rfl⟩
    go_wp2_with fail
    refine (nani_any _ _).mono ?_
    rintro e w1 ⟨rfl, rfl⟩
    go_wp2_with fail
    go_ret
    exact ⟨rfl, rfl⟩

set_option maxRecDepth 100000 in
theorem compare_rows (b off cap b2 off2 cap2 : Nat) (P Q : List Int) (w : World) (hl : P.length ≤ 1000000) (hl2 : Q.length ≤ 1000000) (hr : RowI w b off P) (hr2 : RowI w b2 off2 Q) :
    Calls Tryd.prog 15 #[.slice (some ⟨b, off, none⟩) P.length cap, .slice (some ⟨b2, off2, none⟩) Q.length cap2] w fun e w' => e = .returned (.int .i64 (Cal.cmpL P Q)) ∧ w' = w := by
  obtain ⟨R, hR⟩ : ∃ R, R = Cal.cmpL P Q := ⟨_, rfl⟩
  rw [← hR]
  have HR := Lib.hid hR
  have H1 := Lib.hid hr
  have H2 := Lib.hid hr2
  clear hR hr hr2
  go_enter Tryd.func15, Tryd.ntmps15
  go_wp2_with fail
  go_loop [11] (fun iv => ∃ i : Nat, iv = .int .i64 i ∧ i ≤ P.length ∧ i ≤ Q.length ∧ R = Cal.cmpL (P.drop i) (Q.drop i)) (fun iv => P.length - (intOf iv).toNat)
  case atStart => exact ⟨0, rfl, by omega, by omega, by rw [List.drop_zero, List.drop_zero]; exact HR.out⟩
  case round =>
    obtain ⟨i, rfl, hi1, hi2, hR⟩ := hrel
    have HR2 := Lib.hid hR
    clear hR
    by_cases hi : i < P.length
    · have hi3 : (i : Int) < P.length := by omega
      have c1 := H1.out i hi
      obtain ⟨p, hp⟩ : ∃ p, p = P[i] := ⟨_, rfl⟩
      rw [← hp] at c1
      have hdP : P.drop i = p :: P.drop (i + 1) := by rw [hp]; exact List.drop_eq_getElem_cons hi
      have HdP := Lib.hid hdP
      clear hp hdP
      by_cases hj : i < Q.length
      · have hj3 : (i : Int) < Q.length := by omega
        have hj4 : ¬ (Q.length : Int) ≤ i := by omega
        have c2 := H2.out i hj
        obtain ⟨q, hq⟩ : ∃ q, q = Q[i] := ⟨_, rfl⟩
        rw [← hq] at c2
        have hdQ : Q.drop i = q :: Q.drop (i + 1) := by rw [hq]; exact List.drop_eq_getElem_cons hj
        have hc := fun w => cmpi_any p q w
        have hR3 : R = if cmpZ p q = 0 then Cal.cmpL (P.drop (i + 1)) (Q.drop (i + 1)) else cmpZ p q := by rw [HR2.out, HdP.out, hdQ]; exact cmpL_cons p q _ _
        obtain ⟨t, ht⟩ : ∃ t, t = cmpZ p q := ⟨_, rfl⟩
        rw [← ht] at hc hR3
        have HC := Lib.hid hc
        have HR3 := Lib.hid hR3
        clear hq hdQ hc ht hR3
        by_cases h0 : t = 0
        · subst h0
          go_wp2_with fail
          refine (HC.out _).mono ?_
          rintro e w1 ⟨rfl, rfl⟩
          go_wp2_with fail
          go_round
          case rel => exact ⟨i + 1, by go_num, by omega, by omega, HR3.out⟩
          case measure => simp [intOf]; omega
        · have h1 : (t == 0) = false := by simpa using h0
          have h2 : (t != 0) = true := by simpa using h0
          have hRt : R = t := by rw [HR3.out, if_neg h0]
          have HRt := Lib.hid hRt
          clear h0 hRt
          go_wp2_with fail
          refine (HC.out _).mono ?_
          rintro e w1 ⟨rfl, rfl⟩
          go_wp2_with fail
          go_ret
          rw [HRt.out]
          exact ⟨rfl, rfl⟩
      · have hj4 : (Q.length : Int) ≤ i := by omega
        have hRt : R = 1 := by rw [HR2.out, HdP.out, List.drop_of_length_le (by omega : Q.length ≤ i)]; rfl
        have HRt := Lib.hid hRt
        clear hRt
        go_wp2_with fail
        go_ret
        rw [HRt.out]
        exact ⟨rfl, rfl⟩
    · have hi3 : (P.length : Int) ≤ i := by omega
      have hRt : R = if P.length < Q.length then -1 else 0 := by
        rw [HR2.out, List.drop_of_length_le (by omega : P.length ≤ i), cmpL_nil, List.length_drop]
        by_cases h : P.length < Q.length
        · rw [if_pos h, if_neg (by omega)]
        · rw [if_neg h, if_pos (by omega)]
      by_cases h : P.length < Q.length
      · rw [if_pos h] at hRt
        have HRt := Lib.hid hRt
        have h3 : (P.length : Int) < Q.length := by omega
        clear hRt
        go_wp2_with fail
        go_ret
        rw [HRt.out]
        exact ⟨rfl, rfl⟩
      · rw [if_neg h] at hRt
        have HRt := Lib.hid hRt
        have h3 : ¬ (P.length : Int) < Q.length := by omega
        clear hRt
        go_wp2_with fail
        go_ret
        rw [HRt.out]
        exact ⟨rfl, rfl⟩

end Go.Proofs.YtgkgjlcbappbkaaDoor
