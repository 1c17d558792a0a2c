/-
  head: the small functions.
-/
import Derived.Test.YtkhkjacnoiopcaaGreatDoorZad
import Derived.Test.YtkhkjacnoiopcaaGreatDoorZah
import Derived.Test.YtkhkjacnoiopcaaGreatDoorZac
import Derived.Laws.StructEq
import Derived.BigRegion
import Derived.Deep.LoopGhost
import Derived.RegionTactic
import Derived.Test.YtkhkjacnoiopcaaGreatDoorZab
set_option linter.unusedVariables false
set_option linter.unusedSimpArgs false

set_option linter.unusedVariables false
set_option linter.unusedSimpArgs false
namespace Go.Proofs.YtkhkjacnoiopcaaGreatDoor
open Go.RowKit

/-- Two headers, one against the other. -/
theorem raws_eql (n l u g f n' l' u' g' f' : ByteArray) (k k' m1 m2 m3 m4 m5 m6 m7 q1 q2 q3 q4 q5 q6 q7 : Int) (B : Bool)
    (hB : B = true ↔ (n.toList = n'.toList ∧ l.toList = l'.toList ∧ u.toList = u'.toList ∧ g.toList = g'.toList ∧ f.toList = f'.toList ∧ k = k' ∧ m1 = q1 ∧ m2 = q2 ∧ m3 = q3 ∧ m4 = q4 ∧ m5 = q5 ∧ m6 = q6 ∧ m7 = q7)) (w : World) :
    (binOp .eql 72 (.agg #[.string n, .string l, .string u, .string g, .string f, .int .u8 k, .int .i64 m1, .int .i64 m2, .int .i64 m3, .int .i64 m4, .int .i64 m5, .int .i64 m6, .int .i64 m7]) (.agg #[.string n', .string l', .string u', .string g', .string f', .int .u8 k', .int .i64 q1, .int .i64 q2, .int .i64 q3, .int .i64 q4, .int .i64 q5, .int .i64 q6, .int .i64 q7])).run Tryz.prog w = .ok (.bool B) w := by
  have h1 := Tryz.underlying3
  have h2 := Tryz.underlying9
  have h3 := Tryz.underlying5
  rw [run_eql_struct, run_equalIn_agg w 9999 72 _ _ (by kernel_rfl) (by kernel_rfl)]
  simp [go_sem, h1, h2, h3]
  rcases hb : B with _ | _
  · have hn := mt hB.2 (by rw [hb]; exact Bool.false_ne_true)
    clear hB h1 h2 h3
    by_cases e1 : n.toList = n'.toList
    case neg => rw [if_neg e1]
    rw [if_pos e1]
    by_cases e2 : l.toList = l'.toList
    case neg => rw [if_neg e2]
    rw [if_pos e2]
    by_cases e3 : u.toList = u'.toList
    case neg => rw [if_neg e3]
    rw [if_pos e3]
    by_cases e4 : g.toList = g'.toList
    case neg => rw [if_neg e4]
    rw [if_pos e4]
    by_cases e5 : f.toList = f'.toList
    case neg => rw [if_neg e5]
    rw [if_pos e5]
    by_cases e6 : k = k'
    case neg => rw [if_neg e6]
    rw [if_pos e6]
    by_cases e7 : m1 = q1
    case neg => rw [if_neg e7]
    rw [if_pos e7]
    by_cases e8 : m2 = q2
    case neg => rw [if_neg e8]
    rw [if_pos e8]
    by_cases e9 : m3 = q3
    case neg => rw [if_neg e9]
    rw [if_pos e9]
    by_cases e10 : m4 = q4
    case neg => rw [if_neg e10]
    rw [if_pos e10]
    by_cases e11 : m5 = q5
    case neg => rw [if_neg e11]
    rw [if_pos e11]
    by_cases e12 : m6 = q6
    case neg => rw [if_neg e12]
    rw [if_pos e12]
    by_cases e13 : m7 = q7
    case neg => rw [if_neg e13]
    rw [if_pos e13]
    exact (hn ⟨e1, e2, e3, e4, e5, e6, e7, e8, e9, e10, e11, e12, e13⟩).elim
  · obtain ⟨e1, e2, e3, e4, e5, e6, e7, e8, e9, e10, e11, e12, e13⟩ := hB.1 hb
    rw [if_pos e1, if_pos e2, if_pos e3, if_pos e4, if_pos e5, if_pos e6, if_pos e7, if_pos e8, if_pos e9, if_pos e10, if_pos e11, if_pos e12, if_pos e13]

theorem texts_any (g : Nat) (w : World) : Calls Tryz.prog 126 #[.pointer (some ⟨g, 0, none⟩)] w fun e w' =>
    e = .returned (.agg #[.pointer (some ⟨g, 0, none⟩), .pointer (some ⟨g, 1, none⟩), .pointer (some ⟨g, 2, none⟩), .pointer (some ⟨g, 3, none⟩), .pointer (some ⟨g, 4, none⟩)]) ∧ Below w.heap.size w w' := by
  go_enter Tryz.func126, Tryz.ntmps126
  go_wp2_with fail
  go_region
  all_goals go_wp2_with fail
  refine bodyPost_ret (v := .agg #[.pointer (some ⟨g, 0, none⟩), .pointer (some ⟨g, 1, none⟩), .pointer (some ⟨g, 2, none⟩), .pointer (some ⟨g, 3, none⟩), .pointer (some ⟨g, 4, none⟩)]) (by simp [results, Tryz.results126, go_sem]) rfl ⟨rfl, ?_⟩
  exact ((Below.refl _ _).alloc (Nat.le_refl _) _).drew

theorem numbers_any (g : Nat) (w : World) : Calls Tryz.prog 128 #[.pointer (some ⟨g, 0, none⟩)] w fun e w' =>
    e = .returned (.agg #[.pointer (some ⟨g, 6, none⟩), .pointer (some ⟨g, 7, none⟩), .pointer (some ⟨g, 8, none⟩), .pointer (some ⟨g, 9, none⟩), .pointer (some ⟨g, 10, none⟩), .pointer (some ⟨g, 11, none⟩), .pointer (some ⟨g, 12, none⟩)]) ∧ Below w.heap.size w w' := by
  go_enter Tryz.func128, Tryz.ntmps128
  go_wp2_with fail
  go_region
  all_goals go_wp2_with fail
  refine bodyPost_ret (v := .agg #[.pointer (some ⟨g, 6, none⟩), .pointer (some ⟨g, 7, none⟩), .pointer (some ⟨g, 8, none⟩), .pointer (some ⟨g, 9, none⟩), .pointer (some ⟨g, 10, none⟩), .pointer (some ⟨g, 11, none⟩), .pointer (some ⟨g, 12, none⟩)]) (by simp [results, Tryz.results128, go_sem]) rfl ⟨rfl, ?_⟩
  exact ((Below.refl _ _).alloc (Nat.le_refl _) _).drew

abbrev sp (a n : Int) : Value := .agg #[.int .i64 a, .int .i64 n]
abbrev tSpots : Value := .agg #[.int .i64 0, .int .i64 100, .int .i64 157, .int .i64 100, .int .i64 265, .int .i64 32, .int .i64 297, .int .i64 32, .int .i64 345, .int .i64 155]
abbrev nSpotsV : Value := .agg #[.int .i64 100, .int .i64 8, .int .i64 108, .int .i64 8, .int .i64 116, .int .i64 8, .int .i64 124, .int .i64 12, .int .i64 136, .int .i64 12, .int .i64 329, .int .i64 8, .int .i64 337, .int .i64 8]
theorem textSpots_any (w : World) : Calls Tryz.prog 127 #[] w fun e w' => e = .returned tSpots ∧ Below w.heap.size w w' := by
  go_enter Tryz.func127, Tryz.ntmps127
  go_wp2_with fail
  refine bodyPost_ret (v := tSpots) (by simp [results, Tryz.results127, go_sem]) rfl ⟨rfl, ?_⟩
  exact ((Below.refl _ _).alloc (Nat.le_refl _) _)

theorem numberSpots_any (w : World) : Calls Tryz.prog 130 #[] w fun e w' => e = .returned nSpotsV ∧ Below w.heap.size w w' := by
  go_enter Tryz.func130, Tryz.ntmps130
  go_wp2_with fail
  refine bodyPost_ret (v := nSpotsV) (by simp [results, Tryz.results130, go_sem]) rfl ⟨rfl, ?_⟩
  exact ((Below.refl _ _).alloc (Nat.le_refl _) _)

theorem many_any (d : Int) (m : Nat) (h : (d = 1 ∧ m = 5) ∨ (d ≠ 1 ∧ m = 7)) (w : World) : Calls Tryz.prog 129 #[.int .i64 d] w fun e w' => e = .returned (.int .i64 m) ∧ w' = w := by
  rcases h with ⟨rfl, rfl⟩ | ⟨h, rfl⟩
  · go_enter Tryz.func129, Tryz.ntmps129
    go_wp2_with fail
    go_ret
    exact ⟨rfl, rfl⟩
  · have h' : (d == 1) = false := by simpa using h
    go_enter Tryz.func129, Tryz.ntmps129
    go_wp2_with fail
    go_ret
    exact ⟨rfl, rfl⟩

theorem dialect_any (s : ByteArray) (h1 : s.size ≤ 512) (h2 : 512 ≤ s.size) (w : World) : Calls Tryz.prog 133 #[.string s] w fun e w' => e = .returned (.int .i64 (dialectL s.data.toList)) ∧ w' = w := by
  have x1 : (s.extract 257 265).toList = fld s.data.toList 257 8 := by rw [Lib.toList_data]; exact ext_mid s 257 8
  obtain ⟨D, hD⟩ : ∃ D : Nat, D = dialectL s.data.toList := ⟨_, rfl⟩
  rw [← hD]
  unfold dialectL at hD
  rw [← x1] at hD
  by_cases hu : (s.extract 257 265).toList = [117, 115, 116, 97, 114, 0, 48, 48]
  · have hu' : ((s.extract 257 265).toList == [117, 115, 116, 97, 114, 0, 48, 48]) = true := by rw [hu]; decide
    rw [if_pos hu] at hD
    subst hD
    clear hu x1
    go_enter Tryz.func133, Tryz.ntmps133
    go_wp2_with fail
    go_ret
    exact ⟨rfl, rfl⟩
  · have hu' : ((s.extract 257 265).toList == [117, 115, 116, 97, 114, 0, 48, 48]) = false := by
      rw [beq_eq_false_iff_ne]; exact hu
    rw [if_neg hu] at hD
    by_cases hv : (s.extract 257 265).toList = [117, 115, 116, 97, 114, 32, 32, 0]
    · have hv' : ((s.extract 257 265).toList == [117, 115, 116, 97, 114, 32, 32, 0]) = true := by rw [hv]; decide
      rw [if_pos hv] at hD
      subst hD
      clear hu x1 hv
      go_enter Tryz.func133, Tryz.ntmps133
      go_wp2_with fail
      go_ret
      exact ⟨rfl, rfl⟩
    · have hv' : ((s.extract 257 265).toList == [117, 115, 116, 97, 114, 32, 32, 0]) = false := by
        rw [beq_eq_false_iff_ne]; exact hv
      rw [if_neg hv] at hD
      subst hD
      clear hu x1 hv
      go_enter Tryz.func133, Tryz.ntmps133
      go_wp2_with fail
      go_ret
      exact ⟨rfl, rfl⟩

end Go.Proofs.YtkhkjacnoiopcaaGreatDoor

set_option linter.unusedVariables false
set_option linter.unusedSimpArgs false
namespace Go.Proofs.YtkhkjacnoiopcaaGreatDoor
open Go.RowKit

theorem upTo0_index (l : List UInt8) : upTo0 l = if Lib.indexByte l 0 < 0 then l else l.take (Lib.indexByte l 0).toNat := by
  induction l with
  | nil => simp [upTo0, Lib.indexByte]
  | cons c l ih =>
    unfold upTo0 at ih ⊢
    rw [List.takeWhile_cons]
    have hge := Lib.indexByte_ge l 0
    by_cases h : c = 0
    · subst h; simp [Lib.indexByte]
    · have hb : (c != 0) = true := by simpa using h
      rw [hb, if_pos rfl, ih]
      have hb2 : (c == 0) = false := by simpa using h
      by_cases h1 : Lib.indexByte l 0 < 0
      · have h2 : Lib.indexByte l 0 = -1 := by omega
        simp [Lib.indexByte, hb2, h2]
      · rw [if_neg h1]
        obtain ⟨j, hj⟩ := Int.eq_ofNat_of_zero_le (show 0 ≤ Lib.indexByte l 0 by omega)
        have h3 : Lib.indexByte (c :: l) 0 = (j + 1 : Nat) := by simp [Lib.indexByte, hb2, hj]
        rw [h3, hj, if_neg (by omega)]
        simp

theorem index_lt (l : List UInt8) (c : UInt8) : Lib.indexByte l c < l.length ∨ Lib.indexByte l c < 0 := by
  induction l with
  | nil => right; simp [Lib.indexByte]
  | cons b l ih =>
    have := Lib.indexByte_ge l c
    unfold Lib.indexByte
    split
    · left; simp only [List.length_cons]; omega
    · split
      · right; omega
      · rename_i h1 h2
        have h3 : Lib.indexByte l c ≠ -1 := by simpa using h2
        left; simp only [List.length_cons]; omega

set_option maxHeartbeats 1000000 in
theorem zcut_one (s : ByteArray) (hs : s.size ≤ 1000000) : ∃ (v : Value) (b : Bool), ∀ w : World,
    Calls Tryz.prog 135 #[.string s, .string ⟨#[0]⟩] w fun e w' => e = .returned (.tuple #[.string (bs (upTo0 s.data.toList)), v, .bool b]) ∧ ∃ n, w' = w.drewN n := by
  obtain ⟨R, hR⟩ : ∃ R, R = bs (upTo0 s.data.toList) := ⟨_, rfl⟩
  rw [← hR]
  rw [upTo0_index] at hR
  have hge := Lib.indexByte_ge s.data.toList 0
  have hlt := index_lt s.data.toList 0
  have ix := fun w => Tryz.stringslite_Index_one s 0 w
  obtain ⟨i, hi⟩ : ∃ i, i = Lib.indexByte s.data.toList 0 := ⟨_, rfl⟩
  rw [← hi] at hR hge hlt ix
  rw [list_size] at hlt
  have IX := Lib.hid ix
  clear ix hi
  by_cases h0 : i < 0
  · have h0' : ¬ (0 : Int) ≤ i := by omega
    have e : s = R := by rw [hR, if_pos h0, bs_of]
    subst e
    refine ⟨.string ⟨#[]⟩, false, fun w => ?_⟩
    clear hlt hge h0 hR
    go_enter Tryz.func135, Tryz.ntmps135
    go_wp2_with fail
    refine (IX.out _).mono ?_
    rintro e w1 ⟨rfl, rfl⟩
    go_wp2_with fail
    go_ret3
    exact ⟨rfl, 0, rfl⟩
  · obtain ⟨j, rfl⟩ := Int.eq_ofNat_of_zero_le (show 0 ≤ i by omega)
    have h0' : (0 : Int) ≤ (j : Int) := by omega
    have hj : j < s.size := by omega
    have e : s.extract 0 j = R := ba_ext (by rw [ext_to, hR, if_neg h0, bs_list]; rfl)
    have E := Lib.hid e
    have k1 : (j : Int) ≤ s.size := by omega
    have k2 : (j : Int) + 1 ≤ s.size := by omega
    have k3 : (0 : Int) ≤ (j : Int) + 1 := by omega
    have k4 : ((j : Int) + 1).toNat = j + 1 := by omega
    have k5 : IntKind.i64.wrap ((j : Int) + 1) = (j : Int) + 1 := IntWalk.i64_in _ (by omega)
    have k6 : ((j : Int)).toNat = j := by omega
    refine ⟨.string (s.extract (j + 1) s.size), true, fun w => ?_⟩
    clear hlt hge h0 hR e
    go_enter Tryz.func135, Tryz.ntmps135
    go_wp2_with fail
    refine (IX.out _).mono ?_
    rintro e w1 ⟨rfl, rfl⟩
    go_wp2_with fail
    go_region
    all_goals go_wp2_with fail
    all_goals go_ret3
    all_goals rw [E.out]
    all_goals exact ⟨rfl, 1, rfl⟩

theorem zcut_any (s : ByteArray) (hs : s.size ≤ 1000000) : ∃ (v : Value) (b : Bool), ∀ w : World,
    Calls Tryz.prog 85 #[.string s, .string ⟨#[0]⟩] w fun e w' => e = .returned (.tuple #[.string (bs (upTo0 s.data.toList)), v, .bool b]) ∧ ∃ n, w' = w.drewN n := by
  obtain ⟨v, b, h⟩ := zcut_one s hs
  refine ⟨v, b, fun w => ?_⟩
  obtain ⟨R, hR⟩ : ∃ R, R = bs (upTo0 s.data.toList) := ⟨_, rfl⟩
  rw [← hR] at h ⊢
  clear hR
  have H := Lib.hid h
  clear h
  go_enter Tryz.func85, Tryz.ntmps85
  go_wp2_with fail
  refine (H.out _).mono ?_
  rintro e w1 ⟨rfl, n, rfl⟩
  go_wp2_with fail
  go_ret3
  exact ⟨rfl, n, rfl⟩

theorem fits_any (n l u g f : ByteArray) (k m1 m2 m3 m4 m5 m6 m7 d : Int) (B : Bool) (hB : B = true ↔ ((d = 1 → u.toList = [] ∧ g.toList = [] ∧ f.toList = [] ∧ m6 = 0 ∧ m7 = 0) ∧ (d = 3 → f.toList = []))) (w : World) :
    Calls Tryz.prog 125 #[.agg #[.string n, .string l, .string u, .string g, .string f, .int .u8 k, .int .i64 m1, .int .i64 m2, .int .i64 m3, .int .i64 m4, .int .i64 m5, .int .i64 m6, .int .i64 m7], .int .i64 d] w fun e w' => e = .returned (.bool B) ∧ Below w.heap.size w w' := by
  by_cases h1 : d = 1
  · subst h1
    have hq := fun w => raws_eql ⟨#[]⟩ ⟨#[]⟩ u g f ⟨#[]⟩ ⟨#[]⟩ ⟨#[]⟩ ⟨#[]⟩ ⟨#[]⟩ 0 0 0 0 0 0 0 m6 m7 0 0 0 0 0 0 0 B (by simp [hB]) w
    clear hB
    go_enter Tryz.func125, Tryz.ntmps125
    go_wp2_with fail
    go_ret
    exact ⟨rfl, (Below.refl _ _).alloc (Nat.le_refl _) _⟩
  · have h1' : (d == 1) = false := by simpa using h1
    by_cases h3 : d = 3
    · subst h3
      have hb : f.toList.isEmpty = B := by
        cases hf : f.toList <;> cases B <;> simp_all
      clear hB
      go_enter Tryz.func125, Tryz.ntmps125
      go_wp2_with fail
      go_ret
      rw [← hb]
      exact ⟨by first | rfl | simp, (Below.refl _ _).alloc (Nat.le_refl _) _⟩
    · have h3' : (d == 3) = false := by simpa using h3
      have hb : B = true := hB.2 ⟨fun h => absurd h h1, fun h => absurd h h3⟩
      subst hb
      clear hB h1 h3
      go_enter Tryz.func125, Tryz.ntmps125
      go_wp2_with fail
      go_ret
      exact ⟨rfl, (Below.refl _ _).alloc (Nat.le_refl _) _⟩

end Go.Proofs.YtkhkjacnoiopcaaGreatDoor

set_option linter.unusedVariables false
set_option linter.unusedSimpArgs false
namespace Go.Proofs.YtkhkjacnoiopcaaGreatDoor
open Go.RowKit

theorem i8_wrap (c : UInt8) : IntKind.i8.wrap (c.toNat : Int) = Bk.i8 c := by
  have := c.toNat_lt
  have e : IntKind.i8.wrap (c.toNat : Int) = ((c.toNat : Int) + 128) % 256 - 128 := by
    simp [IntKind.wrap, IntKind.bits, IntKind.signed]; split <;> omega
  unfold Bk.i8
  rw [e]
  split <;> omega

theorem sum_step {r a : Int} {sg : Bool} {s : ByteArray} {i : Nat} (h : i < s.size) (hr : r = a + Bk.sumFrom sg i (s.data.toList.drop i)) : r = (a + Bk.val sg i s[i]) + Bk.sumFrom sg (i + 1) (s.data.toList.drop (i + 1)) := by
  rw [hr, drop_at s i h]
  simp only [Bk.sumFrom]
  omega

set_option maxHeartbeats 1000000 in
theorem sum_any (s : ByteArray) (sg : Bool) (w : World) (h1 : s.size ≤ 512) (h2 : 512 ≤ s.size) :
    Calls Tryz.prog 120 #[.string s, .bool sg] w fun e w' => e = .returned (.tuple #[.int .i64 (Bk.sum sg s.data.toList), .nilIface]) ∧ w' = w := by
  obtain ⟨r, hr⟩ : ∃ r, r = Bk.sum sg s.data.toList := ⟨_, rfl⟩
  rw [← hr]
  have Hr := Lib.hid hr
  clear hr
  have hn : ((s.size : Int) != 512) = false := by simp; omega
  cases sg
  all_goals
    go_enter Tryz.func120, Tryz.ntmps120
    go_wp2_with fail
  · go_loopg [6, 14] (s.size) (fun g sv iv wr => ∃ (i : Nat) (a : Int), iv = .int .i64 i ∧ sv = .int .i64 a ∧ i ≤ s.size ∧ g + i = s.size ∧ -255 * (i : Int) ≤ a ∧ a ≤ 255 * (i : Int) ∧ Hid (r = a + Bk.sumFrom false i (s.data.toList.drop i)) ∧ wr = w)
    case atStart => exact ⟨0, 0, rfl, rfl, by omega, by omega, by omega, by omega, by rw [Hr.out]; simp [Hid, Bk.sum], rfl⟩
    case round =>
      obtain ⟨i, a, rfl, rfl, hi1, hg, ha1, ha2, hR, rfl⟩ := hrel
      have Hg := Lib.hid hg
      clear hg
      by_cases hi : i < s.size
      · have hi3 : (i : Int) < s.size := by omega
        have hst := sum_step hi hR.out
        have hbyte := u8_lt s[i]
        by_cases hin : 148 ≤ i ∧ i < 156
        · have hv : Bk.val false i s[i] = 32 := by unfold Bk.val; rw [if_pos hin]
          rw [hv] at hst
          have HS := Lib.hid hst
          have k1 : (148 : Int) ≤ i := by omega
          have k2 : (i : Int) < 156 := by omega
          clear hst hv hin
          go_wp2_with fail
          go_roundg (s.size - (i + 1))
          case measure => have := Hg.out; omega
          case rel => exact ⟨i + 1, a + 32, by go_num, by go_num, by omega, by omega, by omega, by omega, HS.out, rfl⟩
        · have hv : Bk.val false i s[i] = s[i].toNat := by unfold Bk.val; rw [if_neg hin]; rfl
          rw [hv] at hst
          have HS := Lib.hid hst
          have Hin := Lib.hid hin
          clear hst hv hin
          by_cases k1 : (148 : Int) ≤ i
          · have k2 : ¬ (i : Int) < 156 := by have := Hin.out; omega
            go_wp2_with fail
            go_roundg (s.size - (i + 1))
            case measure => have := Hg.out; omega
            case rel => exact ⟨i + 1, a + s[i].toNat, by go_num, by go_num, by omega, by omega, by omega, by omega, HS.out, rfl⟩
          · go_wp2_with fail
            go_roundg (s.size - (i + 1))
            case measure => have := Hg.out; omega
            case rel => exact ⟨i + 1, a + s[i].toNat, by go_num, by go_num, by omega, by omega, by omega, by omega, HS.out, rfl⟩
      · have hi3 : (s.size : Int) ≤ i := by omega
        have hr : r = a := by rw [hR.out, drop_over s i (by omega)]; simp [Bk.sumFrom]
        have Hr := Lib.hid hr
        clear hr
        go_wp2_with fail
        go_ret2
        rw [Hr.out]
        exact ⟨rfl, rfl⟩
  · go_loopg [6, 14] (s.size) (fun g sv iv wr => ∃ (i : Nat) (a : Int), iv = .int .i64 i ∧ sv = .int .i64 a ∧ i ≤ s.size ∧ g + i = s.size ∧ -255 * (i : Int) ≤ a ∧ a ≤ 255 * (i : Int) ∧ Hid (r = a + Bk.sumFrom true i (s.data.toList.drop i)) ∧ wr = w)
    case atStart => exact ⟨0, 0, rfl, rfl, by omega, by omega, by omega, by omega, by rw [Hr.out]; simp [Hid, Bk.sum], rfl⟩
    case round =>
      obtain ⟨i, a, rfl, rfl, hi1, hg, ha1, ha2, hR, rfl⟩ := hrel
      have Hg := Lib.hid hg
      clear hg
      by_cases hi : i < s.size
      · have hi3 : (i : Int) < s.size := by omega
        have hst := sum_step hi hR.out
        have hbyte := u8_lt s[i]
        by_cases hin : 148 ≤ i ∧ i < 156
        · have hv : Bk.val true i s[i] = 32 := by unfold Bk.val; rw [if_pos hin]
          rw [hv] at hst
          have HS := Lib.hid hst
          have k1 : (148 : Int) ≤ i := by omega
          have k2 : (i : Int) < 156 := by omega
          clear hst hv hin
          go_wp2_with fail
          go_roundg (s.size - (i + 1))
          case measure => have := Hg.out; omega
          case rel => exact ⟨i + 1, a + 32, by go_num, by go_num, by omega, by omega, by omega, by omega, HS.out, rfl⟩
        · have hv : Bk.val true i s[i] = Bk.i8 s[i] := by unfold Bk.val; rw [if_neg hin]; rfl
          rw [hv] at hst
          have HS := Lib.hid hst
          have Hin := Lib.hid hin
          have hw := i8_wrap s[i]
          obtain ⟨v, hv2⟩ : ∃ v, v = Bk.i8 s[i] := ⟨_, rfl⟩
          have hv3 : -128 ≤ v ∧ v ≤ 127 := by rw [hv2]; unfold Bk.i8; have := s[i].toNat_lt; split <;> omega
          obtain ⟨hv4, hv5⟩ := hv3
          rw [← hv2] at hw HS
          clear hst hv hin hv2
          by_cases k1 : (148 : Int) ≤ i
          · have k2 : ¬ (i : Int) < 156 := by have := Hin.out; omega
            go_wp2_with fail
            go_roundg (s.size - (i + 1))
            case measure => have := Hg.out; omega
            case rel => exact ⟨i + 1, a + v, by go_num, by go_num, by omega, by omega, by omega, by omega, HS.out, rfl⟩
          · go_wp2_with fail
            go_roundg (s.size - (i + 1))
            case measure => have := Hg.out; omega
            case rel => exact ⟨i + 1, a + v, by go_num, by go_num, by omega, by omega, by omega, by omega, HS.out, rfl⟩
      · have hi3 : (s.size : Int) ≤ i := by omega
        have hr : r = a := by rw [hR.out, drop_over s i (by omega)]; simp [Bk.sumFrom]
        have Hr := Lib.hid hr
        clear hr
        go_wp2_with fail
        go_ret2
        rw [Hr.out]
        exact ⟨rfl, rfl⟩

end Go.Proofs.YtkhkjacnoiopcaaGreatDoor

set_option linter.unusedVariables false
set_option linter.unusedSimpArgs false
namespace Go.Proofs.YtkhkjacnoiopcaaGreatDoor
open Go.RowKit

def sealB (s : ByteArray) : ByteArray := ⟨(Bk.sld s.data.toList).toArray⟩
theorem sealB_list (s : ByteArray) : (sealB s).data.toList = Bk.sld s.data.toList := rfl
theorem seal_any (s : ByteArray) (w : World) (h1 : s.size ≤ 512) (h2 : 512 ≤ s.size) :
    Calls Tryz.prog 73 #[.string s] w fun e w' => e = .returned (.tuple #[.string (sealB s), .nilIface]) ∧ Below w.heap.size w w' := by
  have hl : s.data.toList.length = 512 := by rw [list_size]; omega
  obtain ⟨b1, b2⟩ := Bk.sum_small s.data.toList hl
  obtain ⟨n, hn⟩ : ∃ n, n = (Bk.sum false s.data.toList).toNat := ⟨_, rfl⟩
  have hs := fun w => sum_any s false w h1 h2
  rw [← b2] at hs
  have ho := fun w => octal_any n 7 w (by decide) (by decide) (by rw [hn]; exact b1)
  obtain ⟨D, hD⟩ : ∃ D : ByteArray, D = ⟨(Num.octal n 7).toArray⟩ := ⟨_, rfl⟩
  rw [← hD] at ho
  have hDs : D.size = 7 := by rw [hD]; exact Bk.octal_len n 7
  have he : s.extract 0 148 ++ D ++ ⟨#[32]⟩ ++ s.extract 156 s.size = sealB s := ba_ext (by
    rw [cat_list, cat_list, cat_list, ext_to, ext_end, hD, sealB_list, hn]
    rfl)
  have x1 := ext_size s 0 148 (by omega)
  have x2 := ext_size s 156 s.size (by omega)
  have c1 := fun w => run_string_add_sum (P := Tryz.prog) w (s.extract 0 148) D (by omega)
  have c2 := fun w => run_string_add_sum (P := Tryz.prog) w (s.extract 0 148 ++ D) ⟨#[32]⟩ (by rw [ByteArray.size_append]; show _ + 1 ≤ _; omega)
  have c3 := fun w => run_string_add_sum (P := Tryz.prog) w (s.extract 0 148 ++ D ++ ⟨#[32]⟩) (s.extract 156 s.size) (by rw [ByteArray.size_append, ByteArray.size_append]; show _ + 1 + _ ≤ _; omega)
  rw [← hn] at hs
  have HE := Lib.hid he
  have HS := Lib.hid hs
  have HO := Lib.hid ho
  clear hs ho he hn b1 b2 hl hD hDs x1 x2
  go_enter Tryz.func73, Tryz.ntmps73
  go_wp2_with fail
  refine (HS.out _).mono ?_
  rintro e w1 ⟨rfl, rfl⟩
  go_wp2_with fail
  refine (HO.out _).mono ?_
  rintro e w2 ⟨rfl, hb⟩
  have HB := Lib.hid hb
  clear hb
  go_wp2_with fail
  go_quiet (fail)
  go_wp2_with fail
  go_ret2
  rw [HE.out]
  exact ⟨rfl, below_drewN HB.out _⟩

theorem right_any (s : ByteArray) (w : World) (h1 : s.size ≤ 512) (h2 : 512 ≤ s.size) :
    Calls Tryz.prog 132 #[.string s] w fun e w' => e = .returned (.bool (rightL s.data.toList)) ∧ Below w.heap.size w w' := by
  have hn : ((s.size : Int) != 512) = false := by simp; omega
  have x1 := ext_size s 148 156 (by omega)
  obtain ⟨n, E, mR, hR⟩ := read_named (s.extract 148 156) (by omega) (by omega)
  have ht : rd (s.extract 148 156).data.toList = toldL s.data.toList := congrArg rd (ext_mid s 148 8)
  rw [ht] at hR
  have i0 : ∀ w, (Instr.index 243 (.agg #[.bool false, .bool true]) (.int .i64 0)).run Tryz.prog w = .ok (.bool false) w := fun _ => by kernel_rfl
  have i1 : ∀ w, (Instr.index 243 (.agg #[.bool false, .bool true]) (.int .i64 1)).run Tryz.prog w = .ok (.bool true) w := fun _ => by kernel_rfl
  have HR := Lib.hid mR
  clear mR ht
  rcases hR with ⟨rfl, hr⟩ | ⟨⟨k, rfl⟩, hr⟩
  · have hv : rightL s.data.toList = (decide (Bk.sum false s.data.toList = n) || decide (Bk.sum true s.data.toList = n)) := by unfold rightL; rw [hr]
    have HV := Lib.hid hv
    clear hv hr
    go_enter Tryz.func132, Tryz.ntmps132
    go_wp2_with fail
    refine (HR.out _).mono ?_
    rintro e w1 ⟨rfl, hb⟩
    have HB := Lib.hid hb
    clear hb
    go_wp2_with fail
    have HF := Lib.hid (fun w => sum_any s false w h1 h2)
    have HT := Lib.hid (fun w => sum_any s true w h1 h2)
    obtain ⟨a, ha⟩ : ∃ a, a = Bk.sum false s.data.toList := ⟨_, rfl⟩
    obtain ⟨b, hb⟩ : ∃ b, b = Bk.sum true s.data.toList := ⟨_, rfl⟩
    rw [← ha] at HF HV
    rw [← hb] at HT HV
    clear ha hb
    by_cases ha : a = n
    · subst ha
      refine wp_loop_rounds 1 ?_
      rw [rounds_succ]
      go_wp2_with fail
      refine (HF.out _).mono ?_
      rintro e w2 ⟨rfl, rfl⟩
      go_wp2_with fail
      go_ret
      rw [HV.out]
      exact ⟨by simp, HB.out⟩
    · have ha' : (a == n) = false := by simpa using ha
      have HA := Lib.hid ha
      clear ha
      by_cases hb : b = n
      · subst hb
        refine wp_loop_rounds 2 ?_
        rw [rounds_succ]
        go_wp2_with fail
        refine (HF.out _).mono ?_
        rintro e w2 ⟨rfl, rfl⟩
        go_wp2_with fail
        rw [rounds_succ]
        go_wp2_with fail
        refine (HT.out _).mono ?_
        rintro e w2 ⟨rfl, rfl⟩
        go_wp2_with fail
        go_ret
        rw [HV.out]
        exact ⟨by simp, HB.out⟩
      · have hb' : (b == n) = false := by simpa using hb
        have HN := Lib.hid hb
        clear hb
        refine wp_loop_rounds 3 ?_
        rw [rounds_succ]
        go_wp2_with fail
        refine (HF.out _).mono ?_
        rintro e w2 ⟨rfl, rfl⟩
        go_wp2_with fail
        rw [rounds_succ]
        go_wp2_with fail
        refine (HT.out _).mono ?_
        rintro e w2 ⟨rfl, rfl⟩
        go_wp2_with fail
        rw [rounds_succ]
        go_wp2_with fail
        go_ret
        rw [HV.out]
        exact ⟨by simp [HA.out, HN.out], HB.out⟩
  · have hv : rightL s.data.toList = false := by unfold rightL; rw [hr]
    have HV := Lib.hid hv
    clear hv hr
    go_enter Tryz.func132, Tryz.ntmps132
    go_wp2_with fail
    refine (HR.out _).mono ?_
    rintro e w1 ⟨rfl, hb⟩
    have HB := Lib.hid hb
    clear hb
    go_wp2_with fail
    go_ret
    rw [HV.out]
    exact ⟨rfl, HB.out⟩

end Go.Proofs.YtkhkjacnoiopcaaGreatDoor
