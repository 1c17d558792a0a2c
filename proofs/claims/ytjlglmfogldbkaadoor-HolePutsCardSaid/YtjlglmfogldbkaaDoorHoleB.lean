/-
  hole.Size and hole.Take.
-/
import Derived.Test.YtjlglmfogldbkaaDoorHoleA
namespace Go.Proofs.YtjlglmfogldbkaaDoor
open Go.RowKit

/-- Row b from off on holds the pieces qs. -/
def RowQ (w : World) (b off : Nat) (qs : List Hol.Pc) : Prop := ∀ (j : Nat) (hj : j < qs.length), w.cell? ⟨b, off + j * 2, none⟩ = some (.int .i64 (qs[j].1 : Int)) ∧ w.cell? ⟨b, off + j * 2 + 1, none⟩ = some (.int .i64 (qs[j].2 : Int))
theorem rowq_ways {W : World} {v : Value} {qs : List Hol.Pc} (h : Pcs W v (qs.map Hol.castP)) : (∃ A cap, v = .slice A 0 cap ∧ qs = []) ∨ ∃ b off cap, v = .slice (some ⟨b, off, none⟩) qs.length cap ∧ b < W.heap.size ∧ 0 < qs.length ∧ RowQ W b off qs := by
  rcases pcs_ways h with ⟨A, cap, e, h0⟩ | ⟨b, off, cap, e, hb, h0, hc⟩
  · exact .inl ⟨A, cap, e, List.map_eq_nil_iff.1 h0⟩
  · right
    rw [List.length_map] at e h0
    refine ⟨b, off, cap, e, hb, h0, fun j hj => ?_⟩
    have := hc j (by rw [List.length_map]; exact hj)
    simpa [Hol.castP] using this
theorem right_asc {v : Value} {qs : List Hol.Pc} {n : Nat} {w : World} (hP : Pcs w v (qs.map Hol.castP)) (hA : Hol.Asc n 0 qs) (h20 : qs.length ≤ 20) (hn : n ≤ 1000000) :
    Calls Tryd.prog 15 #[v, .int .i64 n] w fun e w' => e = .returned (.bool true) ∧ Below w.heap.size w w' := by
  have h := right_any v _ (n : Int) w hP (by omega)
  have e : Hol.rightI (qs.map Hol.castP) n = true := by
    unfold Hol.rightI
    rw [decide_eq_true (by omega : (0 : Int) ≤ n), decide_eq_true (by rw [List.length_map]; exact h20)]
    exact Hol.asc_right n qs 0 hA
  rw [e] at h; exact h

theorem size_snoc (qs : List Hol.Pc) (i : Nat) (hi : i < qs.length) : Hol.size (qs.take (i + 1)) = Hol.size (qs.take i) + qs[i].2 := by
  rw [List.take_succ_eq_append_getElem hi]
  unfold Hol.size
  rw [List.map_append, List.sum_append_nat]
  simp only [List.map_cons, List.map_nil, List.sum_cons, List.sum_nil, Nat.add_zero]
theorem size_take_le (qs : List Hol.Pc) (i : Nat) : Hol.size (qs.take i) ≤ Hol.size qs := by
  have := List.take_append_drop i qs
  have e : Hol.size qs = Hol.size (qs.take i) + Hol.size (qs.drop i) := by
    unfold Hol.size
    rw [← List.sum_append_nat, ← List.map_append, this]
  omega

set_option maxRecDepth 100000 in
theorem size_any (v : Value) (qs : List Hol.Pc) (w : World) (hP : Pcs w v (qs.map Hol.castP)) (hl : qs.length ≤ 1000) (hs : Hol.size qs ≤ 9223372036854775807) :
    Calls Tryd.prog 9 #[v] w fun e w' => e = .returned (.int .i64 (Hol.size qs)) ∧ Below w.heap.size w w' := by
  rcases rowq_ways hP with ⟨A, cap, rfl, rfl⟩ | ⟨b, off, cap, rfl, hb, h0, hc⟩
  · clear hP hl hs
    go_enter Tryd.func9, Tryd.ntmps9
    go_wp2_with fail
    refine wp_loop_rounds 1 ?_
    rw [rounds_succ]
    go_wp2_with fail
    go_ret
    exact ⟨rfl, Below.refl _ _⟩
  · have HC := Lib.hid hc
    clear hP hc
    go_enter Tryd.func9, Tryd.ntmps9
    go_wp2_with fail
    go_loopg [3, 8] (qs.length) (fun g nv iv wr => ∃ i n : Nat, iv = .int .i64 i ∧ nv = .int .i64 n ∧ i ≤ qs.length ∧ g + i = qs.length ∧ n ≤ 9223372036854775807 ∧ Below w.heap.size w wr ∧ n = Hol.size (qs.take i))
    case atStart => exact ⟨0, 0, rfl, rfl, by omega, by omega, by omega, Below.refl _ _, rfl⟩
    case round =>
      obtain ⟨i, n, rfl, rfl, hi1, hg, hn, hbw, hR⟩ := hrel
      have Hg := Lib.hid hg
      have HR := Lib.hid hR
      have HW := Lib.hid hbw
      clear hg hR hbw
      by_cases hi : i < qs.length
      · have hi3 : (i : Int) < qs.length := by omega
        have c1 := (HW.out.cell (p := ⟨b, off + i * 2, none⟩) hb).trans (HC.out i hi).1
        have c2 := (HW.out.cell (p := ⟨b, off + i * 2 + 1, none⟩) hb).trans (HC.out i hi).2
        obtain ⟨a, ha⟩ : ∃ a, a = qs[i].1 := ⟨_, rfl⟩
        obtain ⟨t, ht⟩ : ∃ t, t = qs[i].2 := ⟨_, rfl⟩
        rw [← ha] at c1
        rw [← ht] at c2
        have hn2 := size_snoc qs i hi
        have hle := size_take_le qs (i + 1)
        rw [← ht, ← HR.out] at hn2
        have hnt : n + t ≤ 9223372036854775807 := by omega
        have HN := Lib.hid hn2
        clear ha ht hn2 hle
        go_wp2_with fail
        go_roundg (qs.length - (i + 1))
        case measure => have := Hg.out; omega
        case rel => exact ⟨i + 1, n + t, by go_num, by go_num, by omega, by omega, hnt, HW.out.alloc HW.out.size _, HN.out.symm⟩
      · have hi3 : (qs.length : Int) ≤ i := by omega
        have hr : Hol.size qs = n := by rw [HR.out, List.take_of_length_le (by omega)]
        have HF := Lib.hid hr
        clear hr HR
        go_wp2_with fail
        go_ret
        rw [HF.out]
        exact ⟨rfl, HW.out⟩

theorem asc_mem (n : Nat) : ∀ (qs : List Hol.Pc) (lo : Nat), Hol.Asc n lo qs → ∀ p ∈ qs, 1 ≤ p.2 ∧ p.1 + p.2 ≤ n := by
  intro qs
  induction qs with
  | nil => intro _ _ p hp; cases hp
  | cons q r ih =>
    obtain ⟨a, s⟩ := q
    intro lo h p hp
    rcases List.mem_cons.1 hp with rfl | hp
    · exact ⟨h.1, h.2.2.1⟩
    · exact ih _ h.2.2.2 p hp
theorem take_snoc' (l : List UInt8) (qs : List Hol.Pc) (i : Nat) (hi : i < qs.length) : Hol.take l (qs.take (i + 1)) = Hol.take l (qs.take i) ++ Hol.cut l qs[i] := by
  rw [List.take_succ_eq_append_getElem hi]
  unfold Hol.take
  rw [List.flatMap_append]
  simp only [List.flatMap_cons, List.flatMap_nil, List.append_nil]

set_option maxRecDepth 100000 in
set_option maxHeartbeats 1000000 in
theorem take_any (s : ByteArray) (v : Value) (qs : List Hol.Pc) (w : World) (hP : Pcs w v (qs.map Hol.castP)) (hA : Hol.Asc s.size 0 qs) (hl : qs.length ≤ 20) (hs : s.size ≤ 1000000) :
    Calls Tryd.prog 11 #[.string s, v] w fun e w' => e = .returned (.tuple #[.string ⟨(Hol.take s.data.toList qs).toArray⟩, .nilIface]) ∧ Below w.heap.size w w' := by
  have hR := right_asc hP hA hl hs
  have HR := Lib.hid hR
  clear hR
  rcases rowq_ways hP with ⟨A, cap, rfl, rfl⟩ | ⟨b, off, cap, rfl, hb, h0, hc⟩
  · clear hP hA hl
    go_enter Tryd.func11, Tryd.ntmps11
    go_wp2_with fail
    refine HR.out.mono ?_
    rintro e w1 ⟨rfl, h1⟩
    have B1 := Lib.hid h1
    clear h1
    go_wp2_with fail
    refine wp_loop_rounds 1 ?_
    rw [rounds_succ]
    go_wp2_with fail
    go_ret2
    exact ⟨rfl, B1.out⟩
  · have HC := Lib.hid hc
    have HA := Lib.hid hA
    have hle := Hol.take_len s.data.toList qs 0 (by rw [list_size]; exact hA)
    have hsz := Hol.asc_size s.size qs 0 hA (by omega)
    clear hP hc hA
    go_enter Tryd.func11, Tryd.ntmps11
    go_wp2_with fail
    refine HR.out.mono ?_
    rintro e w1 ⟨rfl, h1⟩
    have B1 := Lib.hid h1
    clear h1
    go_wp2_with fail
    go_loopg [6, 17] (qs.length) (fun g ov iv wr => ∃ (i : Nat) (T : ByteArray), iv = .int .i64 i ∧ ov = .string T ∧ i ≤ qs.length ∧ g + i = qs.length ∧ Below w.heap.size w wr ∧ T.data.toList = Hol.take s.data.toList (qs.take i) ∧ T.size ≤ i * 1000000)
    case atStart => exact ⟨0, ⟨#[]⟩, rfl, rfl, by omega, by omega, B1.out, rfl, by decide⟩
    case round =>
      obtain ⟨i, T, rfl, rfl, hi1, hg, hbw, hT, hTs⟩ := hrel
      have Hg := Lib.hid hg
      have HT := Lib.hid hT
      have HW := Lib.hid hbw
      clear hg hT hbw
      by_cases hi : i < qs.length
      · have hi3 : (i : Int) < qs.length := by omega
        have c1 := (HW.out.cell (p := ⟨b, off + i * 2, none⟩) hb).trans (HC.out i hi).1
        have c2 := (HW.out.cell (p := ⟨b, off + i * 2 + 1, none⟩) hb).trans (HC.out i hi).2
        have hm := asc_mem s.size qs 0 HA.out qs[i] (List.getElem_mem hi)
        have hsn := take_snoc' s.data.toList qs i hi
        obtain ⟨a, ha⟩ : ∃ a, a = qs[i].1 := ⟨_, rfl⟩
        obtain ⟨t, ht⟩ : ∃ t, t = qs[i].2 := ⟨_, rfl⟩
        have hcut : (s.extract a (a + t)).data.toList = Hol.cut s.data.toList qs[i] := by rw [ext_mid, ha, ht]; rfl
        rw [← ha] at c1
        rw [← ht] at c2
        rw [← ha, ← ht] at hm
        obtain ⟨m1, m2⟩ := hm
        rw [← hcut, ← HT.out, ← cat_list] at hsn
        have hes := ext_size s a (a + t) (by omega)
        have c3 := fun w => run_string_add_sum (P := Tryd.prog) w T (s.extract a (a + t)) (by omega)
        have hes2 : (T ++ s.extract a (a + t)).size ≤ (i + 1) * 1000000 := by rw [ByteArray.size_append, hes]; omega
        have HN := Lib.hid hsn
        have m3 : (a : Int) + t ≤ s.size := by omega
        clear ha ht hsn hcut hes
        go_wp2_with fail
        go_roundg (qs.length - (i + 1))
        case measure => have := Hg.out; omega
        case rel => exact ⟨i + 1, _, by go_num, rfl, by omega, by omega, HW.out.alloc HW.out.size _, HN.out.symm, hes2⟩
      · have hi3 : (qs.length : Int) ≤ i := by omega
        have hr : T = ⟨(Hol.take s.data.toList qs).toArray⟩ := ba_ext (by rw [HT.out, List.take_of_length_le (by omega)])
        have HF := Lib.hid hr
        clear hr HT
        go_wp2_with fail
        go_ret2
        rw [HF.out]
        exact ⟨rfl, HW.out⟩

end Go.Proofs.YtjlglmfogldbkaaDoor
