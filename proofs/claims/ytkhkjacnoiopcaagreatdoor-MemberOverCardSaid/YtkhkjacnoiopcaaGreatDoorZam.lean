/-
  slices.Values of records, where a block of the caller's is written meanwhile.
-/
import Derived.Test.YtkhkjacnoiopcaaGreatDoorZak
import Derived.Test.YtkhkjacnoiopcaaGreatDoorZal
import Derived.Test.YtkhkjacnoiopcaaGreatDoorZaa
import Derived.Test.YtkhkjacnoiopcaaGreatDoorZae
import Derived.Test.YtkhkjacnoiopcaaGreatDoorZah
import Derived.Deep.DeepCutAuto
import Derived.Lib.Strings
import Derived.Test.YtkhkjacnoiopcaaGreatDoorZai
import Derived.BigRegion
import Derived.RegionTactic
import Derived.Test.YtkhkjacnoiopcaaGreatDoorZac
import Derived.Test.YtkhkjacnoiopcaaGreatDoorZag
import Derived.Test.YtkhkjacnoiopcaaGreatDoorZab
import Derived.Lib.LaidTab
import Derived.LaidSub
import Derived.MakeChecks
set_option linter.unusedVariables false
set_option linter.unusedSimpArgs false

set_option linter.unusedVariables false
set_option linter.unusedSimpArgs false
namespace Go.Proofs.YtkhkjacnoiopcaaGreatDoor
open Go.RowKit Go.Shelf
attribute [local go_sem] Oper.semAt_some

abbrev encV (x : Px.Rec) : Array Value := #[.agg #[.string (bs x.1), .string (bs x.2)]]

set_option maxRecDepth 100000 in
set_option maxHeartbeats 2000000 in
theorem vals_rows {α : Type} (f : α → Px.Rec) (n : Nat) (hn : 1 ≤ n) (lp Bs n₀ b off cap E : Nat) (l : List α) (hl : l.length ≤ 4398046510976) (hb : b < n₀) (hbE : b ≠ E) (hBsE : Bs ≠ E) (J Jx : List α → World → Prop)
    (hY : ∀ pre x W, J pre W → pre.length < l.length → YieldAt Fence.wide (n - 1) Tryz.prog lp (encV (f x)) W fun e W' =>
      (e = .returned (.bool true) ∧ J (pre ++ [x]) W' ∧ KeepE E n₀ W W') ∨ (e = .returned (.bool false) ∧ Jx (pre ++ [x]) W'))
    (hA : ∀ pre X o, J pre X → J pre (X.alloc o)) (W : World) (hn₀ : n₀ ≤ W.heap.size) (hBl : Bs < n₀) (hBs : W.cell? ⟨Bs, 0, none⟩ = some (.slice (some ⟨b, off, none⟩) l.length cap)) (hc : RowR W b off (l.map f)) (h0 : J [] W) :
    CallsIn Fence.wide n Tryz.prog 170 #[.func (.yield lp) #[] #[], .pointer (some ⟨Bs, 0, none⟩)] W fun e W' => (∃ v, e = .returned v) ∧
      ((∃ ys, ys = l ∧ J ys W') ∨ (∃ pre, (∃ k, k < l.length ∧ pre = l.take (k + 1)) ∧ Jx pre W')) := by
  have hli : (l.length : Int) ≤ 4398046510976 := by omega
  have HC := Lib.hid hc
  have HBs := Lib.hid hBs
  clear hc
  refine callsIn_of_wp Tryz.func170 rfl trivial ?_ rfl
  simp only [Tryz.ntmps170, List.size_toArray, List.length_cons, List.length_nil, Nat.reduceAdd, Nat.reduceSub, Array.replicate_succ, Array.replicate_zero, List.push_toArray, List.append_toArray, List.nil_append, List.cons_append]
  gi_wp2
  clear hBs
  gi_loopw [7] (fun iv wr => ∃ k : Nat, k ≤ l.length ∧ iv = .int .i64 (k : Int) ∧ J (l.take k) wr ∧ KeepE E n₀ W wr) (fun iv _ => ((l.length : Int) - intOf iv).toNat)
  case atStart => exact ⟨0, Nat.zero_le _, rfl, h0, KeepE.refl _ _ _⟩
  case round =>
    obtain ⟨k, hk, rfl, hJs, hnx⟩ := hrel
    have HN0 := Lib.hid (Nat.le_trans hn₀ hnx.size)
    by_cases hlt : k < l.length
    · obtain ⟨k0, k1⟩ := HC.out k (by rw [List.length_map]; exact hlt)
      rw [List.getElem_map] at k0 k1
      have d0 : wr.cell? ⟨b, off + k * 2, none⟩ = some (.string (bs (f l[k]).1)) := (hnx.cell (p := ⟨b, off + k * 2, none⟩) hb hbE).trans k0
      have d1 : wr.cell? ⟨b, off + k * 2 + 1, none⟩ = some (.string (bs (f l[k]).2)) := (hnx.cell (p := ⟨b, off + k * 2 + 1, none⟩) hb hbE).trans k1
      obtain ⟨fn, tmps, assign, body, hy, hR⟩ := hY _ l[k] (wr.alloc (.cells #[.string (bs (f l[k]).1), .string (bs (f l[k]).2)] 43)) (hA _ _ _ hJs) (by rw [List.length_take]; omega)
      have HT := Lib.hid (show l.take (k + 1) = l.take k ++ [l[k]] from List.take_succ_eq_append_getElem hlt)
      obtain ⟨r, hr⟩ : ∃ r, r = l[k] := ⟨_, rfl⟩
      rw [← hr] at d0 d1 hy hR HT
      have hkI : (k : Int) < l.length := by omega
      have hk0 : (0 : Int) ≤ k := by omega
      clear k0 k1 hr
      dsimp only [encV] at hy
      gi_wp2
      refine hR.mono ?_
      rintro e W3 (⟨rfl, hJ3, hk3⟩ | ⟨rfl, hJx3⟩)
      · gi_wp2
        go_roundw
        case rel => exact ⟨k + 1, by omega, by go_num, by rw [HT.out]; exact hJ3, (hnx.alloc HN0.out _).trans hk3⟩
        case measure => simp [intOf]; omega
      · gi_wp2
        refine bodyPost_ret (results_none rfl _ _ _) rfl ?_
        exact ⟨⟨_, rfl⟩, .inr ⟨_, ⟨k, hlt, HT.out.symm⟩, hJx3⟩⟩
    · obtain rfl : k = l.length := by omega
      have hkI : ¬ (l.length : Int) < l.length := by omega
      gi_wp2
      go_end0
      rw [List.take_length] at hJs
      first
        | exact ⟨⟨_, rfl⟩, .inl ⟨_, rfl, hJs⟩⟩
        | exact ⟨⟨_, rfl⟩, .inl hJs⟩
        | exact ⟨⟨_, rfl⟩, hJs⟩

set_option maxRecDepth 100000 in
set_option maxHeartbeats 1000000 in
theorem vals_none {α : Type} (f : α → Px.Rec) (n : Nat) (lp Bs c : Nat) (A : Option Addr) (J : List α → World → Prop) (W : World) (hBs : W.cell? ⟨Bs, 0, none⟩ = some (.slice A 0 c)) (h0 : J [] W) :
    CallsIn Fence.wide n Tryz.prog 170 #[.func (.yield lp) #[] #[], .pointer (some ⟨Bs, 0, none⟩)] W fun e W' => (∃ v, e = .returned v) ∧ J [] W' := by
  refine callsIn_of_wp Tryz.func170 rfl trivial ?_ rfl
  simp only [Tryz.ntmps170, List.size_toArray, List.length_cons, List.length_nil, Nat.reduceAdd, Nat.reduceSub, Array.replicate_succ, Array.replicate_zero, List.push_toArray, List.append_toArray, List.nil_append, List.cons_append]
  gi_wp2
  gi_loopw [7] (fun i wr => i = .int .i64 0 ∧ J [] wr) (fun _ _ => 0)
  case atStart => exact ⟨rfl, h0⟩
  case round =>
    obtain ⟨rfl, hJs⟩ := hrel
    gi_wp2
    go_end0
    exact ⟨⟨_, rfl⟩, hJs⟩

theorem vals_call (n : Nat) (A : Option Addr) (len cap : Nat) (w : World) :
    CallsIn Fence.wide n Tryz.prog 141 #[.slice A len cap] w fun e w' => e = .returned (.func (.func 170) #[] #[.pointer (some ⟨w.heap.size, 0, none⟩)]) ∧ w' = w.alloc (.cells #[.slice A len cap] 36) := by
  refine callsIn_of_wp Tryz.func141 rfl trivial ?_ rfl
  simp only [Tryz.ntmps141, List.size_toArray, List.length_cons, List.length_nil, Nat.reduceAdd, Nat.reduceSub, Array.replicate_succ, Array.replicate_zero, List.push_toArray, List.append_toArray, List.nil_append, List.cons_append]
  gi_wp2
  go_ret
  exact ⟨rfl, rfl⟩

theorem vals_seq {α : Type} (f : α → Px.Rec) (n : Nat) (hn : 1 ≤ n) (Bs n₀ E : Nat) (v : Value) (l : List α) (w : World) (hBs : Bs < n₀) (hn₀ : n₀ ≤ w.heap.size) (hBsE : Bs ≠ E) (hc : w.cell? ⟨Bs, 0, none⟩ = some v) (hI : PairsIn w v (l.map f))
    (hrow : ∀ W : World, Below n₀ w W → l = [] ∨ ∃ b off cap, v = .slice (some ⟨b, off, none⟩) l.length cap ∧ b < n₀ ∧ b ≠ E ∧ RowR W b off (l.map f)) :
    SeqStopsK Fence.wide n Tryz.prog 170 #[.pointer (some ⟨Bs, 0, none⟩)] (fun x => encV (f x)) (KeepE E n₀) (fun ys => ys = l) (fun pre => ∃ k, k < l.length ∧ pre = l.take (k + 1)) l.length w := fun lp J Jx W hW hAb _ hY h0 => by
  have hc' := (hW.cell (p := ⟨Bs, 0, none⟩) (Nat.lt_of_lt_of_le hBs hn₀)).trans hc
  have hAl : ∀ pre X o, J pre X → J pre (X.alloc o) := fun pre X o hX => hAb pre X _ none hX (World.grownBy_alloc X o none) (fun r e => by cases e)
  rcases hrow W (hW.mono hn₀) with h | ⟨b, off, cap, rfl, hb2, hbE, hr⟩
  · subst h
    obtain ⟨X, cap, rfl, _⟩ := hI
    exact (vals_none f n lp Bs cap X J W hc' h0).mono fun e W' ⟨he, hj⟩ => ⟨he, .inl ⟨_, rfl, hj⟩⟩
  · obtain ⟨X, cap', e, hlc, hll, _, _⟩ := hI
    rw [List.length_map] at hll
    exact vals_rows f n hn lp Bs n₀ b off cap E l hll hb2 hbE hBsE J Jx hY (fun pre X o hX => hAl pre X o hX) W (Nat.le_trans hn₀ hW.size) hBs hc' hr h0

end Go.Proofs.YtkhkjacnoiopcaaGreatDoor

set_option linter.unusedVariables false
set_option linter.unusedSimpArgs false
namespace Go.Proofs.YtkhkjacnoiopcaaGreatDoor
open Go.RowKit
structure Halted (p : Prop) : Prop where
  go : p
theorem halt_at (n : Nat) {P : Program} {ops : Array Oper} {d : Bool} {Q : Exit → Act → World → Prop} {a : Act} {w : World} (h : Halted (Code.wp P (.region n ops d) Q a w)) : Code.wp P (.region n ops d) Q a w := h.go
end Go.Proofs.YtkhkjacnoiopcaaGreatDoor

set_option linter.unusedVariables false
set_option linter.unusedSimpArgs false
namespace Go.Proofs.YtkhkjacnoiopcaaGreatDoor
open Go.RowKit Tre

theorem has_zero' (l : List UInt8) : (Lib.indexByte l 0 < 0) ↔ l.contains 0 = false := by
  have hge := Lib.indexByte_ge l 0
  constructor
  · intro h
    have h1 := Lib.indexByte_none (l := l) (c := 0) (by omega)
    rw [Bool.eq_false_iff]
    intro hc
    obtain ⟨k, hk⟩ := List.getElem?_of_mem (List.contains_iff_mem.1 hc)
    exact h1 k hk
  · intro h
    rcases Int.lt_or_le (Lib.indexByte l 0) 0 with h1 | h1
    · exact h1
    · exfalso
      obtain ⟨i, hi⟩ := Int.eq_ofNat_of_zero_le h1
      have h2 := (Lib.indexByte_some hi).1
      have : l.contains 0 = true := List.contains_iff_mem.2 (List.mem_of_getElem? h2)
      rw [this] at h; cases h
theorem empB (l : List UInt8) : (bs l).toList.isEmpty = (l == []) := by
  rw [show (bs l).toList = l from Lib.toList_data _]; cases l <;> rfl
theorem stampR_any (s n : Int) (w : World) : Calls Tryz.prog 50 #[.agg #[.int .i64 s, .int .i64 n]] w fun e w' => e = .returned (.bool (stampR s n)) ∧ Below w.heap.size w w' := by
  have e0 : stampR s n = (decide (-1099511627776 ≤ s) && decide (s ≤ 1099511627776) && decide (0 ≤ n) && decide (n < 1000000000)) := rfl
  obtain ⟨r, hr⟩ : ∃ r, r = stampR s n := ⟨_, rfl⟩
  rw [← hr] at e0 ⊢
  have hways : (¬ -1099511627776 ≤ s ∧ r = false) ∨ (-1099511627776 ≤ s ∧ ¬ s ≤ 1099511627776 ∧ r = false) ∨ (-1099511627776 ≤ s ∧ s ≤ 1099511627776 ∧ ¬ 0 ≤ n ∧ r = false) ∨ (-1099511627776 ≤ s ∧ s ≤ 1099511627776 ∧ 0 ≤ n ∧ ¬ n < 1000000000 ∧ r = false) ∨ (-1099511627776 ≤ s ∧ s ≤ 1099511627776 ∧ 0 ≤ n ∧ n < 1000000000 ∧ r = true) := by
    rw [e0]
    by_cases h1 : -1099511627776 ≤ s
    · by_cases h2 : s ≤ 1099511627776
      · by_cases h3 : 0 ≤ n
        · by_cases h4 : n < 1000000000
          · exact .inr (.inr (.inr (.inr ⟨h1, h2, h3, h4, by rw [decide_eq_true h1, decide_eq_true h2, decide_eq_true h3, decide_eq_true h4]; rfl⟩)))
          · exact .inr (.inr (.inr (.inl ⟨h1, h2, h3, h4, by rw [decide_eq_false h4, Bool.and_false]⟩)))
        · exact .inr (.inr (.inl ⟨h1, h2, h3, by rw [decide_eq_false h3, Bool.and_false, Bool.false_and]⟩))
      · exact .inr (.inl ⟨h1, h2, by rw [decide_eq_false h2, Bool.and_false, Bool.false_and, Bool.false_and]⟩)
    · exact .inl ⟨h1, by rw [decide_eq_false h1, Bool.false_and, Bool.false_and, Bool.false_and]⟩
  clear hr e0
  rcases hways with ⟨k1, rfl⟩ | ⟨k1, k2, rfl⟩ | ⟨k1, k2, k3, rfl⟩ | ⟨k1, k2, k3, k4, rfl⟩ | ⟨k1, k2, k3, k4, rfl⟩
  all_goals
    go_enter Tryz.func50, Tryz.ntmps50
    go_wp2_with fail
    go_ret
    exact ⟨by first | rfl | (simp <;> omega), (Below.refl _ _).alloc (Nat.le_refl _) _⟩

end Go.Proofs.YtkhkjacnoiopcaaGreatDoor

set_option linter.unusedVariables false
set_option linter.unusedSimpArgs false
namespace Go.Proofs.YtkhkjacnoiopcaaGreatDoor
open Go.RowKit Go.Maps Tre Pk

theorem mwithin_any (n lo hi : Int) (w : World) : Calls Tryz.prog 48 #[.int .i64 n, .int .i64 lo, .int .i64 hi] w fun e w' => e = .returned (.bool (inR n lo hi)) ∧ w' = w := by
  have e0 : inR n lo hi = (decide (lo ≤ n) && decide (n ≤ hi)) := rfl
  obtain ⟨r, hr⟩ : ∃ r, r = inR n lo hi := ⟨_, rfl⟩
  rw [← hr] at e0 ⊢
  have hways : (¬ lo ≤ n ∧ r = false) ∨ (lo ≤ n ∧ ¬ n ≤ hi ∧ r = false) ∨ (lo ≤ n ∧ n ≤ hi ∧ r = true) := by
    rw [e0]
    by_cases h1 : lo ≤ n
    · by_cases h2 : n ≤ hi
      · exact .inr (.inr ⟨h1, h2, by simp [h1, h2]⟩)
      · exact .inr (.inl ⟨h1, h2, by simp [h2]⟩)
    · exact .inl ⟨h1, by simp [h1]⟩
  clear hr e0
  rcases hways with ⟨k1, rfl⟩ | ⟨k1, k2, rfl⟩ | ⟨k1, k2, rfl⟩
  all_goals
    go_enter Tryz.func48, Tryz.ntmps48
    go_wp2_with fail
    go_ret
    exact ⟨by first | rfl | (simp <;> omega), rfl⟩

theorem isText_any (s : Pth.Bs) (n : Nat) (w : World) : Calls Tryz.prog 49 #[.string (bs s), .int .i64 n] w fun e w' => e = .returned (.bool (txt s n)) ∧ w' = w := by
  have hz := has_zero' s
  have hi := fun w => Tryz.strings_IndexByte (bs s) 0 w
  have hix : (0 : Int).toNat.toUInt8 = 0 := rfl
  rw [hix] at hi
  rw [bs_list] at hi
  obtain ⟨x, hx⟩ : ∃ x, x = Lib.indexByte s 0 := ⟨_, rfl⟩
  rw [← hx] at hi hz
  have HI := Lib.hid hi
  have e0 : txt s n = (decide (s.length ≤ n) && !(s.contains 0)) := rfl
  rw [e0]
  clear hi hx hix e0
  by_cases h1 : s.length ≤ n
  · have h1i : ((bs s).size : Int) ≤ n := by rw [bs_size]; omega
    rw [decide_eq_true h1, Bool.true_and]
    cases hc : s.contains 0 with
    | true =>
      have hx0 : ¬ x < 0 := fun h => by rw [hz.1 h] at hc; cases hc
      clear hz hc h1
      go_enter Tryz.func49, Tryz.ntmps49
      go_wp2_with fail
      refine (HI.out _).mono ?_
      rintro e w' ⟨rfl, hw⟩
      subst w'
      go_wp2_with fail
      go_ret
      exact ⟨by first | rfl | (simp <;> omega), rfl⟩
    | false =>
      have hx0 : x < 0 := hz.2 hc
      clear hz hc h1
      go_enter Tryz.func49, Tryz.ntmps49
      go_wp2_with fail
      refine (HI.out _).mono ?_
      rintro e w' ⟨rfl, hw⟩
      subst w'
      go_wp2_with fail
      go_ret
      exact ⟨by first | rfl | (simp <;> omega), rfl⟩
  · have h1i : ¬ ((bs s).size : Int) ≤ n := by rw [bs_size]; omega
    rw [decide_eq_false h1, Bool.false_and]
    clear hz h1
    go_enter Tryz.func49, Tryz.ntmps49
    go_wp2_with fail
    go_ret
    exact ⟨by first | rfl | (simp <;> omega), rfl⟩

theorem isLink_any (k : Nat) (w : World) : Calls Tryz.prog 51 #[.int .u8 k] w fun e w' => e = .returned (.bool (k == 49 || k == 50)) ∧ w' = w := by
  by_cases h1 : k = 49
  · subst h1
    go_enter Tryz.func51, Tryz.ntmps51
    go_wp2_with fail
    go_ret
    exact ⟨rfl, rfl⟩
  · by_cases h2 : k = 50
    · subst h2
      go_enter Tryz.func51, Tryz.ntmps51
      go_wp2_with fail
      go_ret
      exact ⟨rfl, rfl⟩
    · have e1 : ((k : Int) == 49) = false := beq_eq_false_iff_ne.2 (by omega)
      have e2 : ((k : Int) == 50) = false := beq_eq_false_iff_ne.2 (by omega)
      have e3 : (k == 49 || k == 50) = false := by simp [h1, h2]
      have e4 : ¬ (k : Int) = 49 := by omega
      have e5 : ¬ (k : Int) = 50 := by omega
      rw [e3]
      clear e3 h1 h2
      go_enter Tryz.func51, Tryz.ntmps51
      go_wp2_with fail
      go_ret
      exact ⟨by first | rfl | (simp <;> omega), rfl⟩
theorem isDevice_any (k : Nat) (w : World) : Calls Tryz.prog 39 #[.int .u8 k] w fun e w' => e = .returned (.bool (k == 51 || k == 52)) ∧ w' = w := by
  by_cases h1 : k = 51
  · subst h1
    go_enter Tryz.func39, Tryz.ntmps39
    go_wp2_with fail
    go_ret
    exact ⟨rfl, rfl⟩
  · by_cases h2 : k = 52
    · subst h2
      go_enter Tryz.func39, Tryz.ntmps39
      go_wp2_with fail
      go_ret
      exact ⟨rfl, rfl⟩
    · have e1 : ((k : Int) == 51) = false := beq_eq_false_iff_ne.2 (by omega)
      have e2 : ((k : Int) == 52) = false := beq_eq_false_iff_ne.2 (by omega)
      have e3 : (k == 51 || k == 52) = false := by simp [h1, h2]
      have e4 : ¬ (k : Int) = 51 := by omega
      have e5 : ¬ (k : Int) = 52 := by omega
      rw [e3]
      clear e3 h1 h2
      go_enter Tryz.func39, Tryz.ntmps39
      go_wp2_with fail
      go_ret
      exact ⟨by first | rfl | (simp <;> omega), rfl⟩

set_option maxRecDepth 100000 in
set_option maxHeartbeats 4000000 in
theorem sparse_any (e : Ent) (mv : Value) (w : World) (hp : Pcs w mv e.map) (hd : e.data.length ≤ 140737488351232) (hl : e.map.length ≤ 1000000000000) : Calls Tryz.prog 38 #[ev e mv] w fun en w' => en = .returned (.bool (sparse e)) ∧ Below w.heap.size w w' := by
  obtain ⟨A, cap, rfl, _⟩ := hp
  have hs : sparse e = (!(e.map.isEmpty) || !((e.data.length : Int) == e.size)) := rfl
  obtain ⟨r, hr⟩ : ∃ r, r = sparse e := ⟨_, rfl⟩
  rw [← hr] at hs ⊢
  obtain ⟨n, k, m1, m2, m3, z, s, na, l, u, g, mj, mn, d, mp⟩ := e
  simp only at hs hd hl
  unfold ev evc
  simp only
  have hdi : ((bs d).size : Int) ≤ 140737488351232 := by rw [bs_size]; omega
  have hli : (mp.length : Int) ≤ 1000000000000 := by omega
  obtain ⟨len, hlen⟩ : ∃ len, len = mp.length := ⟨_, rfl⟩
  rw [← hlen] at hli ⊢
  by_cases h0 : mp = []
  · have l0 : len = 0 := by rw [hlen, h0]; rfl
    subst l0
    by_cases h2 : (d.length : Int) = z
    · have e2 : ((bs d).size : Int) = z := by rw [bs_size]; exact h2
      have er : r = false := by rw [hs, h0, h2]; simp
      subst er
      clear hs hr h0 hlen h2
      go_enter Tryz.func38, Tryz.ntmps38
      go_wp2_with fail
      go_ret
      exact ⟨by first | rfl | (simp <;> omega), (Below.refl _ _).alloc (Nat.le_refl _) _⟩
    · have e2 : ¬ ((bs d).size : Int) = z := by rw [bs_size]; exact h2
      have er : r = true := by rw [hs, h0]; simp [h2]
      subst er
      clear hs hr h0 hlen h2
      go_enter Tryz.func38, Tryz.ntmps38
      go_wp2_with fail
      go_ret
      exact ⟨by first | rfl | (simp <;> omega), (Below.refl _ _).alloc (Nat.le_refl _) _⟩
  · have lp : (0 : Int) < len := by have := List.length_pos_iff.2 h0; omega
    have er : r = true := by rw [hs]; cases mp with | nil => exact absurd rfl h0 | cons => rfl
    subst er
    clear hs hr h0 hlen
    go_enter Tryz.func38, Tryz.ntmps38
    go_wp2_with fail
    go_ret
    exact ⟨by first | rfl | (simp <;> omega), (Below.refl _ _).alloc (Nat.le_refl _) _⟩

end Go.Proofs.YtkhkjacnoiopcaaGreatDoor

set_option linter.unusedVariables false
set_option linter.unusedSimpArgs false
namespace Cal
/-- Days before year y of an era (years begin in March). -/
def f (y : Nat) : Nat := 365 * y + y / 4 - y / 100 + y / 400
def lp (y : Nat) : Nat := if y % 4 = 0 ∧ (y % 100 ≠ 0 ∨ y % 400 = 0) then 1 else 0
/-- The year of a place of an era, as the code has it. -/
def g (i : Nat) : Nat := i - i / 1460 + i / 36524 - i / 146096
def yr (i : Nat) : Nat := g i / 365
def ends : Nat → Bool
  | 0 => true
  | y + 1 => Nat.ble (365 * y) (g (f y)) && Nat.blt (g (f (y + 1) - 1)) (365 * (y + 1)) && ends y
/-- Days of a month: L: one more in February. -/
def dimL (m L : Nat) : Nat := if m = 2 then 28 + L else if m = 4 ∨ m = 6 ∨ m = 9 ∨ m = 11 then 30 else 31
def dim (y m : Nat) : Nat := dimL m (lp y)
abbrev Dt := Nat × Nat × Nat
def next (x : Dt) : Dt := if x.2.2 + 1 ≤ dim x.1 x.2.1 then (x.1, x.2.1, x.2.2 + 1) else if x.2.1 + 1 ≤ 12 then (x.1, x.2.1 + 1, 1) else (x.1 + 1, 1, 1)
end Cal

set_option linter.unusedVariables false
set_option linter.unusedSimpArgs false
namespace Cal
/-- Year, month, day of a day since 1970. -/
def era (n : Int) : Int := (n + 719468) / 146097
/-- Three numbers one against three, in their order. -/
def Lt3 (a b c x y z : Int) : Prop := a < x ∨ (a = x ∧ (b < y ∨ (b = y ∧ c < z)))
theorem Lt3.trans {a b c x y z u v w : Int} (h : Lt3 a b c x y z) (k : Lt3 x y z u v w) : Lt3 a b c u v w := by unfold Lt3 at *; omega
end Cal

set_option linter.unusedVariables false
set_option linter.unusedSimpArgs false
namespace Go.Proofs.YtkhkjacnoiopcaaGreatDoor
open Go.RowKit

end Go.Proofs.YtkhkjacnoiopcaaGreatDoor

set_option linter.unusedVariables false
set_option linter.unusedSimpArgs false
namespace Go.Proofs.YtkhkjacnoiopcaaGreatDoor
open Go.RowKit

/-- A time's value. -/
abbrev tm (s n : Int) : Value := .agg #[.int .i64 s, .int .i64 n]
end Go.Proofs.YtkhkjacnoiopcaaGreatDoor

set_option linter.unusedVariables false
set_option linter.unusedSimpArgs false
namespace Go.Proofs.YtkhkjacnoiopcaaGreatDoor
open Go.RowKit

end Go.Proofs.YtkhkjacnoiopcaaGreatDoor

set_option linter.unusedVariables false
set_option linter.unusedSimpArgs false
namespace Go.Proofs.YtkhkjacnoiopcaaGreatDoor
open Go.RowKit

/-- What the library asks of the world: its bound and its table of powers. -/
def Env (w : World) : Prop := (∃ m, w.cell? ⟨1, 0, none⟩ = some (.int .i64 m)) ∧ Lib.TabIs Tryz.prog w "internal/strconv.uint64pow10" .u64 Lib.pow10Tab
theorem pow_no : Tryz.prog.globalNamed "internal/strconv.uint64pow10" = some 4 := by kernel_rfl
theorem Env.lt {w : World} (h : Env w) : 1 < w.heap.size ∧ 4 < w.heap.size := by
  obtain ⟨⟨m, h1⟩, h2⟩ := h
  refine ⟨World.block_lt_of_cell? w ⟨1, 0, none⟩ h1, World.block_lt_of_cell? w ⟨4, 0, none⟩ (h2.cell pow_no 0 (by decide))⟩
theorem Env.below {w w' : World} (h : Env w) (hb : Below w.heap.size w w') : Env w' := by
  obtain ⟨l1, l2⟩ := h.lt
  obtain ⟨⟨m, h1⟩, h2⟩ := h
  refine ⟨⟨m, (hb.cell (p := ⟨1, 0, none⟩) l1).trans h1⟩, ?_⟩
  unfold Lib.TabIs at h2 ⊢
  rw [← h2]
  unfold World.var?
  rw [pow_no]
  simp only [Option.bind_some]
  rw [hb.block _ l2]

theorem stampRight_any (s n : Int) (w : World) : Calls Tryz.prog 50 #[tm s n] w fun e w' => e = .returned (.bool (Stp.okB (s, n))) ∧ Below w.heap.size w w' := by
  have e0 : Stp.okB (s, n) = (decide (-1099511627776 ≤ s) && decide (s ≤ 1099511627776) && decide (0 ≤ n) && decide (n < 1000000000)) := rfl
  obtain ⟨r, hr⟩ : ∃ r, r = Stp.okB (s, n) := ⟨_, rfl⟩
  rw [← hr] at e0 ⊢
  have hways : (¬ -1099511627776 ≤ s ∧ r = false) ∨ (-1099511627776 ≤ s ∧ ¬ s ≤ 1099511627776 ∧ r = false) ∨ (-1099511627776 ≤ s ∧ s ≤ 1099511627776 ∧ ¬ 0 ≤ n ∧ r = false) ∨ (-1099511627776 ≤ s ∧ s ≤ 1099511627776 ∧ 0 ≤ n ∧ ¬ n < 1000000000 ∧ r = false) ∨ (-1099511627776 ≤ s ∧ s ≤ 1099511627776 ∧ 0 ≤ n ∧ n < 1000000000 ∧ r = true) := by
    rw [e0]
    by_cases h1 : -1099511627776 ≤ s
    · by_cases h2 : s ≤ 1099511627776
      · by_cases h3 : 0 ≤ n
        · by_cases h4 : n < 1000000000
          · exact .inr (.inr (.inr (.inr ⟨h1, h2, h3, h4, by rw [decide_eq_true h1, decide_eq_true h2, decide_eq_true h3, decide_eq_true h4]; rfl⟩)))
          · exact .inr (.inr (.inr (.inl ⟨h1, h2, h3, h4, by rw [decide_eq_false h4, Bool.and_false]⟩)))
        · exact .inr (.inr (.inl ⟨h1, h2, h3, by rw [decide_eq_false h3, Bool.and_false, Bool.false_and]⟩))
      · exact .inr (.inl ⟨h1, h2, by rw [decide_eq_false h2, Bool.and_false, Bool.false_and, Bool.false_and]⟩)
    · exact .inl ⟨h1, by rw [decide_eq_false h1, Bool.false_and, Bool.false_and, Bool.false_and]⟩
  clear hr e0
  rcases hways with ⟨k1, rfl⟩ | ⟨k1, k2, rfl⟩ | ⟨k1, k2, k3, rfl⟩ | ⟨k1, k2, k3, k4, rfl⟩ | ⟨k1, k2, k3, k4, rfl⟩
  all_goals
    go_enter Tryz.func50, Tryz.ntmps50
    go_wp2_with fail
    go_ret
    exact ⟨by first | rfl | (simp <;> omega), (Below.refl _ _).alloc (Nat.le_refl _) _⟩

end Go.Proofs.YtkhkjacnoiopcaaGreatDoor
