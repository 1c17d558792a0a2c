/-
  path.Split, exactly.
-/
import Derived.Test.YtkhkjacnoiopcaaGreatDoorZag
import Derived.Test.YtkhkjacnoiopcaaGreatDoorZah
import Derived.Deep.LoopGhost
import Derived.RegionTactic
import Derived.Test.YtkhkjacnoiopcaaGreatDoorZaw
import Derived.Test.YtkhkjacnoiopcaaGreatDoorZbb
import Derived.Test.YtkhkjacnoiopcaaGreatDoorZap
import Derived.Test.YtkhkjacnoiopcaaGreatDoorZay
import Derived.Test.YtkhkjacnoiopcaaGreatDoorZaj
set_option linter.unusedVariables false
set_option linter.unusedSimpArgs false

set_option linter.unusedVariables false
set_option linter.unusedSimpArgs false
namespace Go.Proofs.YtkhkjacnoiopcaaGreatDoor
open Go.RowKit

/-- What Split hands back. -/
def splitV (o : Option (Bl × Bl)) : Value := match o with
  | some p => .tuple #[.string (bs p.1), .string (bs p.2), .bool true]
  | none => .tuple #[.string ⟨#[]⟩, .string ⟨#[]⟩, .bool false]
theorem split_short (s : ByteArray) (w : World) (h : s.size ≤ 100) :
    Calls Tryz.prog 78 #[.string s] w fun e w' => e = .returned (splitV (splitN s.data.toList)) ∧ Below w.heap.size w w' := by
  have h' : (s.size : Int) ≤ 100 := by omega
  have e : splitN s.data.toList = some ([], s.data.toList) := by unfold splitN; rw [if_pos (by rw [list_size]; exact h)]
  rw [e]
  unfold splitV
  simp only
  rw [bs_of]
  clear h e
  go_enter Tryz.func78, Tryz.ntmps78
  go_wp2_with fail
  go_ret3
  exact ⟨rfl, Below.refl _ _⟩

theorem split_none (s : ByteArray) (hl : 100 < s.size) (h : ∀ j, j < s.size → spI s.data.toList j = false) : splitN s.data.toList = none := by
  unfold splitN
  rw [if_neg (by rw [list_size]; omega)]
  rw [List.find?_eq_none.2 (fun j hj => by rw [List.mem_range, list_size] at hj; rw [h j hj]; simp)]
  rfl
theorem split_next (s : ByteArray) (i : Nat) (hi : i < s.size) (hl : 100 < s.size) (h : ∀ j, j < i → spI s.data.toList j = false) (hk : ((s[i].toNat : Int) == 47) = false ∨ ¬ ((1 : Int) ≤ i ∧ (i : Int) ≤ 155 ∧ (1 : Int) ≤ (s.size : Int) - i - 1 ∧ (s.size : Int) - i - 1 ≤ 100)) :
    ∀ j, j < i + 1 → spI s.data.toList j = false := by
  intro j hj
  by_cases hji : j < i
  · exact h j hji
  · obtain rfl : j = i := by omega
    unfold spI
    rw [list_size]
    rcases hk with h0 | h0
    · have : (s.data.toList[j]? == some 47) = false := by
        rw [List.getElem?_eq_getElem (by rw [list_size]; exact hi), beq_eq_false_iff_ne]
        intro e
        have e2 : s[j] = 47 := Option.some.inj e
        rw [e2] at h0
        exact absurd h0 (by decide)
      rw [this, Bool.false_and]
    · rw [show decide (1 ≤ j ∧ j ≤ 155 ∧ j + 2 ≤ s.size ∧ s.size ≤ j + 101) = false from decide_eq_false (by omega), Bool.and_false]
theorem split_at (s : ByteArray) (i : Nat) (hi : i < s.size) (hl : 100 < s.size) (h : ∀ j, j < i → spI s.data.toList j = false) (h47 : s[i] = 47) (h1 : 1 ≤ i) (h2 : i ≤ 155) (h3 : i + 2 ≤ s.size) (h4 : s.size ≤ i + 101) :
    splitN s.data.toList = some (s.data.toList.take i, s.data.toList.drop (i + 1)) := by
  have hi0 : spI s.data.toList i = true := by
    unfold spI
    rw [list_size, Bool.and_eq_true, decide_eq_true_iff, List.getElem?_eq_getElem (by rw [list_size]; exact hi)]
    refine ⟨?_, h1, h2, h3, h4⟩
    have e : s.data.toList[i]'(by rw [list_size]; exact hi) = 47 := h47
    rw [e]; rfl
  unfold splitN
  rw [if_neg (by rw [list_size]; omega)]
  have hf : (List.range s.data.toList.length).find? (spI s.data.toList) = some i := by
    rw [List.find?_eq_some_iff_getElem]
    refine ⟨hi0, i, by rw [List.length_range, list_size]; exact hi, by rw [List.getElem_range], fun j hj => ?_⟩
    rw [List.getElem_range, h j hj]; rfl
  rw [hf]
  rfl

set_option maxRecDepth 100000 in
set_option maxHeartbeats 1000000 in
theorem split_long (s : ByteArray) (w : World) (h : 100 < s.size) (h2 : s.size ≤ 100000) :
    Calls Tryz.prog 78 #[.string s] w fun e w' => e = .returned (splitV (splitN s.data.toList)) ∧ Below w.heap.size w w' := by
  have h' : ¬ (s.size : Int) ≤ 100 := by omega
  have hlong := h
  go_enter Tryz.func78, Tryz.ntmps78
  go_wp2_with fail
  go_loopg [13] (s.size) (fun gh iv wr => ∃ i : Nat, iv = .int .i64 i ∧ i ≤ s.size ∧ gh + i = s.size ∧ Below w.heap.size w wr ∧ Hid (∀ j, j < i → spI s.data.toList j = false))
  case atStart => exact ⟨0, rfl, by omega, by omega, Below.refl _ _, Lib.hid (fun j hj => absurd hj (by omega))⟩
  case round =>
    obtain ⟨i, rfl, hi1, hg, hbw, NB⟩ := hrel
    have Hg := Lib.hid hg
    have HW := Lib.hid hbw
    clear hg hbw
    by_cases hi : i < s.size
    · have hi3 : (i : Int) < s.size := by omega
      have hways : ((s[i].toNat : Int) == 47) = false ∨ (((s[i].toNat : Int) == 47) = true ∧ ¬ (1 : Int) ≤ i) ∨ (((s[i].toNat : Int) == 47) = true ∧ (1 : Int) ≤ i ∧ ¬ (i : Int) ≤ 155)
          ∨ (((s[i].toNat : Int) == 47) = true ∧ (1 : Int) ≤ i ∧ (i : Int) ≤ 155 ∧ ¬ (1 : Int) ≤ (s.size : Int) - i - 1) ∨ (((s[i].toNat : Int) == 47) = true ∧ (1 : Int) ≤ i ∧ (i : Int) ≤ 155 ∧ (1 : Int) ≤ (s.size : Int) - i - 1 ∧ ¬ (s.size : Int) - i - 1 ≤ 100)
          ∨ (((s[i].toNat : Int) == 47) = true ∧ (1 : Int) ≤ i ∧ (i : Int) ≤ 155 ∧ (1 : Int) ≤ (s.size : Int) - i - 1 ∧ (s.size : Int) - i - 1 ≤ 100) := by
        cases h0 : ((s[i].toNat : Int) == 47)
        · exact .inl rfl
        · by_cases g1 : (1 : Int) ≤ i
          · by_cases g2 : (i : Int) ≤ 155
            · by_cases g3 : (1 : Int) ≤ (s.size : Int) - i - 1
              · by_cases g4 : (s.size : Int) - i - 1 ≤ 100
                · exact .inr (.inr (.inr (.inr (.inr ⟨rfl, g1, g2, g3, g4⟩))))
                · exact .inr (.inr (.inr (.inr (.inl ⟨rfl, g1, g2, g3, g4⟩))))
              · exact .inr (.inr (.inr (.inl ⟨rfl, g1, g2, g3⟩)))
            · exact .inr (.inr (.inl ⟨rfl, g1, g2⟩))
          · exact .inr (.inl ⟨rfl, g1⟩)
      rcases hways with k1 | ⟨k1, k2⟩ | ⟨k1, k2, k3⟩ | ⟨k1, k2, k3, k4⟩ | ⟨k1, k2, k3, k4, k5⟩ | ⟨k1, k2, k3, k4, k5⟩
      case inr.inr.inr.inr.inr =>
        have hs47 : s[i] = 47 := UInt8.toNat_inj.1 (by have := eq_of_beq k1; have : ((47 : UInt8).toNat : Int) = 47 := rfl; omega)
        have hfound := split_at s i hi (by omega) NB.out hs47 (by omega) (by omega) (by omega) (by omega)
        have e1 : s.extract 0 i = bs (s.data.toList.take i) := ba_ext (by rw [ext_to, bs_list])
        have e2 : s.extract (i + 1) s.size = bs (s.data.toList.drop (i + 1)) := ba_ext (by rw [ext_end, bs_list])
        have E1 := Lib.hid e1
        have E2 := Lib.hid e2
        have PT := Lib.hid hfound
        have hw2 : ((i : Int) + 1).toNat = i + 1 := by omega
        have hn0 : (0 : Int) ≤ (i : Int) + 1 := by omega
        have hn3 : (i : Int) + 1 ≤ s.size := by omega
        have hn4 : (i : Int) ≤ s.size := by omega
        have hn5 : i + 1 ≤ s.size := by omega
        have hw1 : IntKind.i64.wrap ((i : Int) + 1) = (i : Int) + 1 := IntWalk.i64_in _ (by omega)
        clear e1 e2 hfound hs47
        go_wp2_with fail
        go_region
        all_goals go_wp2_with fail
        all_goals go_ret3
        all_goals
          clear hw1 hw2
          rw [PT.out]
          exact ⟨by rw [E1.out, E2.out]; rfl, HW.out.drew⟩
      all_goals
        go_wp2_with fail
        go_roundg (s.size - (i + 1))
        case measure => have := Hg.out; omega
        case rel => exact ⟨i + 1, by go_num, by omega, by omega, HW.out, Lib.hid (split_next s i hi hlong NB.out (by first | exact .inl k1 | exact .inr (by omega)))⟩
    · have hi3 : (s.size : Int) ≤ i := by omega
      go_wp2_with fail
      go_ret3
      rw [split_none s hlong (fun j hj => NB.out j (by omega))]
      exact ⟨rfl, HW.out⟩

theorem split_any (s : ByteArray) (w : World) (h2 : s.size ≤ 100000) :
    Calls Tryz.prog 78 #[.string s] w fun e w' => e = .returned (splitV (splitN s.data.toList)) ∧ Below w.heap.size w w' := by
  by_cases h : s.size ≤ 100
  · exact split_short s w h
  · exact split_long s w (by omega) h2

end Go.Proofs.YtkhkjacnoiopcaaGreatDoor

set_option linter.unusedVariables false
set_option linter.unusedSimpArgs false
namespace Go.Proofs.YtkhkjacnoiopcaaGreatDoor
open Go.RowKit

set_option maxRecDepth 100000 in
set_option maxHeartbeats 2000000 in
theorem named_plain (d : Int) (h2 : (d == 2) = false) (h4 : (d == 4) = false) (name : ByteArray) (n l u g f : ByteArray) (k m1 m2 m3 m4 m5 m6 m7 : Int) (w : World) :
    Calls Tryz.prog 80 #[.agg #[.string n, .string l, .string u, .string g, .string f, .int .u8 k, .int .i64 m1, .int .i64 m2, .int .i64 m3, .int .i64 m4, .int .i64 m5, .int .i64 m6, .int .i64 m7], .int .i64 d, .string name] w fun e w' => e = .returned (.tuple #[.agg #[.string name, .string l, .string u, .string g, .string ⟨#[]⟩, .int .u8 k, .int .i64 m1, .int .i64 m2, .int .i64 m3, .int .i64 m4, .int .i64 m5, .int .i64 m6, .int .i64 m7], .bool (decide ((name.size : Int) ≤ 100))]) ∧ Below w.heap.size w w' := by
  go_enter Tryz.func80, Tryz.ntmps80
  go_wp2_with fail
  refine bodyPost_ret (v := .tuple #[.agg #[.string name, .string l, .string u, .string g, .string ⟨#[]⟩, .int .u8 k, .int .i64 m1, .int .i64 m2, .int .i64 m3, .int .i64 m4, .int .i64 m5, .int .i64 m6, .int .i64 m7], .bool (decide ((name.size : Int) ≤ 100))]) ?_ rfl ?_
  · simp [results, Tryz.results80, go_sem]
  · exact ⟨rfl, ((Below.refl _ _).alloc (Nat.le_refl _) _).alloc (by simp) _⟩

set_option maxRecDepth 100000 in
set_option maxHeartbeats 2000000 in
theorem named_split (d : Int) (h2 : (d == 2) = true ∨ ((d == 2) = false ∧ (d == 4) = true)) (name b a : ByteArray) (ok : Bool) (n l u g f : ByteArray) (k m1 m2 m3 m4 m5 m6 m7 : Int)
    (hsp : ∀ w : World, Calls Tryz.prog 78 #[.string name] w fun e w' => e = .returned (.tuple #[.string b, .string a, .bool ok]) ∧ Below w.heap.size w w') (w : World) :
    Calls Tryz.prog 80 #[.agg #[.string n, .string l, .string u, .string g, .string f, .int .u8 k, .int .i64 m1, .int .i64 m2, .int .i64 m3, .int .i64 m4, .int .i64 m5, .int .i64 m6, .int .i64 m7], .int .i64 d, .string name] w fun e w' => e = .returned (.tuple #[.agg #[.string a, .string l, .string u, .string g, .string b, .int .u8 k, .int .i64 m1, .int .i64 m2, .int .i64 m3, .int .i64 m4, .int .i64 m5, .int .i64 m6, .int .i64 m7], .bool ok]) ∧ Below w.heap.size w w' := by
  have SP := Lib.hid hsp
  clear hsp
  rcases h2 with h2 | ⟨h2, h4⟩
  all_goals
    go_enter Tryz.func80, Tryz.ntmps80
    go_wp2_with fail
    refine (SP.out _).mono ?_
    rintro e w1 ⟨rfl, h1⟩
    have hb0 : Below w.heap.size w ((w.alloc (.cells #[.string n, .string l, .string u, .string g, .string f, .int .u8 k, .int .i64 m1, .int .i64 m2, .int .i64 m3, .int .i64 m4, .int .i64 m5, .int .i64 m6, .int .i64 m7] 72)).alloc (.cells rz 72)) := ((Below.refl _ _).alloc (Nat.le_refl _) _).alloc (by simp) _
    have hB := thenB hb0 h1
    have hR : Blk w1 w.heap.size 72 #[.string n, .string l, .string u, .string g, .string f, .int .u8 k, .int .i64 m1, .int .i64 m2, .int .i64 m3, .int .i64 m4, .int .i64 m5, .int .i64 m6, .int .i64 m7] := ((Blk.new w _ _).alloc _).below h1 (by simp; omega)
    have hZ0 := Blk.new (w.alloc (.cells #[.string n, .string l, .string u, .string g, .string f, .int .u8 k, .int .i64 m1, .int .i64 m2, .int .i64 m3, .int .i64 m4, .int .i64 m5, .int .i64 m6, .int .i64 m7] 72)) 72 rz
    rw [World.size_alloc] at hZ0
    have hZ : Blk w1 (w.heap.size + 1) 72 rz := hZ0.below h1 (by simp)
    obtain ⟨R, hRR⟩ : ∃ R, R = w.heap.size := ⟨_, rfl⟩
    have HRR := Lib.hid hRR
    rw [← hRR] at hB hR hZ ⊢
    clear hRR
    have c0 := hR.cell 0
    have c1 := hR.cell 1
    have c2 := hR.cell 2
    have c3 := hR.cell 3
    have c4 := hR.cell 4
    have c5 := hR.cell 5
    have c6 := hR.cell 6
    have c7 := hR.cell 7
    have c8 := hR.cell 8
    have c9 := hR.cell 9
    have c10 := hR.cell 10
    have c11 := hR.cell 11
    have c12 := hR.cell 12
    have r0 := hR.frozen 0
    have r4 := hR.frozen 4
    have z0 := hZ.cell 0
    have z1 := hZ.cell 1
    have z2 := hZ.cell 2
    have z3 := hZ.cell 3
    have z4 := hZ.cell 4
    have z5 := hZ.cell 5
    have z6 := hZ.cell 6
    have z7 := hZ.cell 7
    have z8 := hZ.cell 8
    have z9 := hZ.cell 9
    have z10 := hZ.cell 10
    have z11 := hZ.cell 11
    have z12 := hZ.cell 12
    have y0 := hZ.frozen 0
    have y1 := hZ.frozen 1
    have y2 := hZ.frozen 2
    have y3 := hZ.frozen 3
    have y4 := hZ.frozen 4
    have y5 := hZ.frozen 5
    have y6 := hZ.frozen 6
    have y7 := hZ.frozen 7
    have y8 := hZ.frozen 8
    have y9 := hZ.frozen 9
    have y10 := hZ.frozen 10
    have y11 := hZ.frozen 11
    have y12 := hZ.frozen 12
    have hZ1 := (hZ.far (p := ⟨R, 4, none⟩) (by show _ ≠ R; omega) (.string b)).far (p := ⟨R, 0, none⟩) (by show _ ≠ R; omega) (.string a)
    have hB1 := (hB.setCell (p := ⟨R, 4, none⟩) (Nat.le_refl _) (.string b)).setCell (p := ⟨R, 0, none⟩) (Nat.le_refl _) (.string a)
    have HZ := Lib.hid hZ1
    have HB := Lib.hid hB1
    have hne1 : ¬ R = R + 1 := by omega
    have hne2 : ¬ R + 1 = R := by omega
    clear h1 hb0 hB hR hZ0 hZ hZ1 hB1
    go_wp2_with fail
    have hX := set13 HZ.out (.string a) (.string l) (.string u) (.string g) (.string b) (.int .u8 k) (.int .i64 m1) (.int .i64 m2) (.int .i64 m3) (.int .i64 m4) (.int .i64 m5) (.int .i64 m6) (.int .i64 m7)
    have hXb := below13 HB.out (by omega : R ≤ R + 1) (.string a) (.string l) (.string u) (.string g) (.string b) (.int .u8 k) (.int .i64 m1) (.int .i64 m2) (.int .i64 m3) (.int .i64 m4) (.int .i64 m5) (.int .i64 m6) (.int .i64 m7)
    generalize hX0 : World.setCell _ ⟨R + 1, 12, none⟩ (.int .i64 m7) = X at hX hXb ⊢
    have e0 := hX.cell 0
    have e1 := hX.cell 1
    have e2 := hX.cell 2
    have e3 := hX.cell 3
    have e4 := hX.cell 4
    have e5 := hX.cell 5
    have e6 := hX.cell 6
    have e7 := hX.cell 7
    have e8 := hX.cell 8
    have e9 := hX.cell 9
    have e10 := hX.cell 10
    have e11 := hX.cell 11
    have e12 := hX.cell 12
    try simp only [Exit.inBlock, Exit.then]
    refine bodyPost_ret (v := .tuple #[.agg #[.string a, .string l, .string u, .string g, .string b, .int .u8 k, .int .i64 m1, .int .i64 m2, .int .i64 m3, .int .i64 m4, .int .i64 m5, .int .i64 m6, .int .i64 m7], .bool ok]) ?_ rfl ?_
    · simp [results, Tryz.results80, go_sem, e0, e1, e2, e3, e4, e5, e6, e7, e8, e9, e10, e11, e12]
    · exact ⟨rfl, by rw [← HRR.out]; exact hXb⟩

/-- Named, exactly: the header with another name, or that there is no room. -/
theorem named_any (d : Nat) (r : HRaw) (name : Bl) (hn : name.length ≤ 100000) (w : World) :
    Calls Tryz.prog 80 #[rv r, .int .i64 d, .string (bs name)] w fun e w' => ((∃ r', namedR d r name = some r' ∧ e = .returned (.tuple #[rv r', .bool true])) ∨ (namedR d r name = none ∧ ∃ r', e = .returned (.tuple #[rv r', .bool false]))) ∧ Below w.heap.size w w' := by
  obtain ⟨n, l, u, g, f, k, m1, m2, m3, m4, m5, m6, m7⟩ := r
  by_cases h24 : d = 2 ∨ d = 4
  · have hd : ((d : Int) == 2) = true ∨ (((d : Int) == 2) = false ∧ ((d : Int) == 4) = true) := by
      rcases h24 with rfl | rfl
      · exact .inl rfl
      · exact .inr ⟨rfl, rfl⟩
    have hs := fun w => split_any (bs name) w (by rw [bs_size]; exact hn)
    rw [bs_list] at hs
    unfold namedR
    rw [if_pos h24]
    cases hp : splitN name with
    | none =>
      rw [hp] at hs
      refine (named_split d hd (bs name) _ _ false (bs n) (bs l) (bs u) (bs g) (bs f) k.toNat m1 m2 m3 m4 m5 m6 m7 hs w).mono ?_
      rintro e w' ⟨rfl, hb⟩
      exact ⟨.inr ⟨rfl, ⟨[], l, u, g, [], k, m1, m2, m3, m4, m5, m6, m7⟩, rfl⟩, hb⟩
    | some p =>
      rw [hp] at hs
      refine (named_split d hd (bs name) (bs p.1) (bs p.2) true (bs n) (bs l) (bs u) (bs g) (bs f) k.toNat m1 m2 m3 m4 m5 m6 m7 hs w).mono ?_
      rintro e w' ⟨rfl, hb⟩
      exact ⟨.inl ⟨_, rfl, rfl⟩, hb⟩
  · have h2 : ((d : Int) == 2) = false := by rw [beq_eq_false_iff_ne]; omega
    have h4 : ((d : Int) == 4) = false := by rw [beq_eq_false_iff_ne]; omega
    refine (named_plain d h2 h4 (bs name) (bs n) (bs l) (bs u) (bs g) (bs f) k.toNat m1 m2 m3 m4 m5 m6 m7 w).mono ?_
    rintro e w' ⟨rfl, hb⟩
    refine ⟨?_, hb⟩
    unfold namedR
    rw [if_neg h24]
    have hz : ((bs name).size : Int) = name.length := by rw [bs_size]
    by_cases h100 : name.length ≤ 100
    · rw [if_pos h100]
      refine .inl ⟨_, rfl, ?_⟩
      rw [decide_eq_true (show ((bs name).size : Int) ≤ 100 by omega)]
      rfl
    · rw [if_neg h100]
      refine .inr ⟨rfl, ⟨name, l, u, g, [], k, m1, m2, m3, m4, m5, m6, m7⟩, ?_⟩
      rw [decide_eq_false (show ¬ ((bs name).size : Int) ≤ 100 by omega)]
      rfl

end Go.Proofs.YtkhkjacnoiopcaaGreatDoor

set_option linter.unusedVariables false
set_option linter.unusedSimpArgs false
namespace Go.Proofs.YtkhkjacnoiopcaaGreatDoor
open Go.RowKit Tre Pk

/-- What a writing call hands back. -/
def WPost (o : Option Bl) (w : World) (e : Ending) (w' : World) : Prop :=
  Below w.heap.size w w' ∧ ((∃ m, o = some m ∧ e = .returned (.tuple #[.string (bs m), .nilIface])) ∨ (o = none ∧ ∃ (s : ByteArray) (x : Int), e = .returned (.tuple #[.string s, .iface 63 (.int .i64 x)])))

set_option maxRecDepth 100000 in
set_option maxHeartbeats 8000000 in
theorem written_any (d : Nat) (hd1 : 1 ≤ d) (hd4 : d ≤ 4) (r : HRaw) (name link bytes : Bl) (hw : r.wf) (hn : name.length ≤ 100000) (hy : bytes.length ≤ 900000) (w : World) :
    Calls Tryz.prog 40 #[.int .i64 d, rv r, .string (bs name), .string (bs link), .string (bs bytes)] w (WPost (writtenM d r name link bytes) w) := by
  obtain ⟨n, l, u, g, f, k, m1, m2, m3, m4, m5, m6, m7⟩ := r
  have NM := Lib.hid (fun w => named_any d ⟨n, link, u, g, f, k, m1, m2, m3, m4, m5, m6, m7⟩ name hn w)
  have HW := Lib.hid hw
  have FI := Lib.hid (fun w => fill_any (bs bytes) (by rw [bs_size]; omega) w)
  obtain ⟨O, hO⟩ : ∃ O, O = writtenM d ⟨n, l, u, g, f, k, m1, m2, m3, m4, m5, m6, m7⟩ name link bytes := ⟨_, rfl⟩
  rw [← hO]
  have HO := Lib.hid hO
  have HY := Lib.hid hy
  have HD1 := Lib.hid hd1
  have HD4 := Lib.hid hd4
  clear hO hw hn hy hd1 hd4
  go_enter Tryz.func40, Tryz.ntmps40
  go_wp2_with fail
  refine (NM.out _).mono ?_
  rintro e w1 ⟨hres, hb1⟩
  obtain ⟨W0, hW0⟩ : ∃ W0, W0 = w.alloc (.cells #[.string (bs n), .string (bs link), .string (bs u), .string (bs g), .string (bs f), .int .u8 k.toNat, .int .i64 m1, .int .i64 m2, .int .i64 m3, .int .i64 m4, .int .i64 m5, .int .i64 m6, .int .i64 m7] 72) := ⟨_, rfl⟩
  have hK0 : Blk W0 w.heap.size 72 #[.string (bs n), .string (bs link), .string (bs u), .string (bs g), .string (bs f), .int .u8 k.toNat, .int .i64 m1, .int .i64 m2, .int .i64 m3, .int .i64 m4, .int .i64 m5, .int .i64 m6, .int .i64 m7] := by rw [hW0]; exact Blk.new w 72 _
  have hB0 : Below w.heap.size w W0 := by rw [hW0]; exact (Below.refl _ _).alloc (Nat.le_refl _) _
  rw [← hW0] at hb1
  have hK1 := hK0.below hb1 hK0.lt
  have hB1 := thenB hB0 hb1
  obtain ⟨R, hRR⟩ : ∃ R, R = w.heap.size := ⟨_, rfl⟩
  have HRR := Lib.hid hRR
  rw [← hRR] at hK1 hB1 ⊢
  have HK := Lib.hid hK1
  have HB := Lib.hid hB1
  clear hW0 hK0 hB0 hb1 hK1 hB1 W0 hRR
  rcases hres with ⟨⟨a0, a1, a2, a3, a4, a5, a6, a7, a8, a9, a10, a11, a12⟩, hr', rfl⟩ | ⟨hr', ⟨a0, a1, a2, a3, a4, a5, a6, a7, a8, a9, a10, a11, a12⟩, rfl⟩
  case inr =>
    have HR := Lib.hid hr'
    clear hr'
    have c0 := HK.out.cell 0
    have c1 := HK.out.cell 1
    have c2 := HK.out.cell 2
    have c3 := HK.out.cell 3
    have c4 := HK.out.cell 4
    have c5 := HK.out.cell 5
    have c6 := HK.out.cell 6
    have c7 := HK.out.cell 7
    have c8 := HK.out.cell 8
    have c9 := HK.out.cell 9
    have c10 := HK.out.cell 10
    have c11 := HK.out.cell 11
    have c12 := HK.out.cell 12
    have f0 := HK.out.frozen 0
    have f1 := HK.out.frozen 1
    have f2 := HK.out.frozen 2
    have f3 := HK.out.frozen 3
    have f4 := HK.out.frozen 4
    have f5 := HK.out.frozen 5
    have f6 := HK.out.frozen 6
    have f7 := HK.out.frozen 7
    have f8 := HK.out.frozen 8
    have f9 := HK.out.frozen 9
    have f10 := HK.out.frozen 10
    have f11 := HK.out.frozen 11
    have f12 := HK.out.frozen 12
    go_wp2_with fail
    have hXb := below13 HB.out (Nat.le_refl R) (.string (bs a0)) (.string (bs a1)) (.string (bs a2)) (.string (bs a3)) (.string (bs a4)) (.int .u8 a5.toNat) (.int .i64 a6) (.int .i64 a7) (.int .i64 a8) (.int .i64 a9) (.int .i64 a10) (.int .i64 a11) (.int .i64 a12)
    generalize hX0 : World.setCell _ ⟨R, 12, none⟩ (.int .i64 a12) = X at hXb ⊢
    have HX := Lib.hid hXb
    clear hX0 hXb
    go_wp2_with fail
    go_ret2
    refine ⟨by rw [← HRR.out]; exact HX.out, .inr ⟨?_, _, _, rfl⟩⟩
    rw [HO.out]
    unfold writtenM
    rw [HR.out]
    rfl
  case inl =>
    have HR := Lib.hid hr'
    clear hr'
    have c0 := HK.out.cell 0
    have c1 := HK.out.cell 1
    have c2 := HK.out.cell 2
    have c3 := HK.out.cell 3
    have c4 := HK.out.cell 4
    have c5 := HK.out.cell 5
    have c6 := HK.out.cell 6
    have c7 := HK.out.cell 7
    have c8 := HK.out.cell 8
    have c9 := HK.out.cell 9
    have c10 := HK.out.cell 10
    have c11 := HK.out.cell 11
    have c12 := HK.out.cell 12
    have f0 := HK.out.frozen 0
    have f1 := HK.out.frozen 1
    have f2 := HK.out.frozen 2
    have f3 := HK.out.frozen 3
    have f4 := HK.out.frozen 4
    have f5 := HK.out.frozen 5
    have f6 := HK.out.frozen 6
    have f7 := HK.out.frozen 7
    have f8 := HK.out.frozen 8
    have f9 := HK.out.frozen 9
    have f10 := HK.out.frozen 10
    have f11 := HK.out.frozen 11
    have f12 := HK.out.frozen 12
    go_wp2_with fail
    have hX := set13 HK.out (.string (bs a0)) (.string (bs a1)) (.string (bs a2)) (.string (bs a3)) (.string (bs a4)) (.int .u8 a5.toNat) (.int .i64 a6) (.int .i64 a7) (.int .i64 a8) (.int .i64 a9) (.int .i64 a10) (.int .i64 a11) (.int .i64 a12)
    have hXb := below13 HB.out (Nat.le_refl R) (.string (bs a0)) (.string (bs a1)) (.string (bs a2)) (.string (bs a3)) (.string (bs a4)) (.int .u8 a5.toNat) (.int .i64 a6) (.int .i64 a7) (.int .i64 a8) (.int .i64 a9) (.int .i64 a10) (.int .i64 a11) (.int .i64 a12)
    generalize hX0 : World.setCell _ ⟨R, 12, none⟩ (.int .i64 a12) = X at hX hXb ⊢
    have HX := Lib.hid hXb
    have HXK := Lib.hid hX
    clear hX0 hXb hX c0 f0 c1 f1 c2 f2 c3 f3 c4 f4 c5 f5 c6 f6 c7 f7 c8 f8 c9 f9 c10 f10 c11 f11 c12 f12
    have c0 := HXK.out.cell 0
    have c1 := HXK.out.cell 1
    have c2 := HXK.out.cell 2
    have c3 := HXK.out.cell 3
    have c4 := HXK.out.cell 4
    have c5 := HXK.out.cell 5
    have c6 := HXK.out.cell 6
    have c7 := HXK.out.cell 7
    have c8 := HXK.out.cell 8
    have c9 := HXK.out.cell 9
    have c10 := HXK.out.cell 10
    have c11 := HXK.out.cell 11
    have c12 := HXK.out.cell 12
    have HWr := Lib.hid (fun w => hwrite_any d ⟨a0, a1, a2, a3, a4, a5, a6, a7, a8, a9, a10, a11, a12⟩ HD1.out HD4.out (by
      obtain ⟨fr, b, e, _⟩ := named_is HR.out
      have hw := HW.out
      injection e with e0 e1 e2 e3 e4 e5 e6 e7 e8 e9 e10 e11 e12
      unfold HRaw.wf at hw ⊢
      simp only at hw e6 e7 e8 e9 e10 e11 e12 ⊢
      rw [e6, e7, e8, e9, e10, e11, e12]
      exact hw) w)
    go_wp2_with fail
    refine (HWr.out _).mono ?_
    rintro e w2 ⟨hb2, ⟨s, rfl, hs⟩ | ⟨s, x, rfl, hno⟩⟩
    case inr =>
      have B2 := Lib.hid (HX.out.trans (hb2.mono (by have := HXK.out.lt; omega)))
      have HN := Lib.hid hno
      clear hb2 hno
      go_wp2_with fail
      go_ret2
      refine ⟨by rw [← HRR.out]; exact B2.out, .inr ⟨?_, _, _, rfl⟩⟩
      rw [HO.out]
      unfold writtenM
      rw [HR.out, Option.bind_some, headB_none.2 HN.out]
      rfl
    case inl =>
      have B2 := Lib.hid (HX.out.trans (hb2.mono (by have := HXK.out.lt; omega)))
      have hsl := write_len hs
      have hsz : s.size = 512 := by rw [← list_size]; exact hsl
      have HS := Lib.hid hs
      have lt2 : R < w2.heap.size := Nat.lt_of_lt_of_le HXK.out.lt hb2.size
      clear hb2 hs hsl
      go_wp2_with fail
      refine (FI.out _).mono ?_
      rintro e w3 ⟨rfl, hb3⟩
      have B3 := Lib.hid (B2.out.trans (hb3.mono (by omega)))
      have c1 := fun w => run_string_add_sum (P := Tryz.prog) w s (fillB (bs bytes)) (by rw [fillB_size, bs_size]; have := Bk.pad_lt bytes.length; have := HY.out; omega)
      clear hb3
      go_wp2_with fail
      go_ret2
      refine ⟨by rw [← HRR.out]; exact B3.out, .inl ⟨s.data.toList ++ Bk.fill bytes, ?_, ?_⟩⟩
      · rw [HO.out]
        unfold writtenM
        rw [HR.out, Option.bind_some, headB_some.2 HS.out]
        rfl
      · have : s ++ fillB (bs bytes) = bs (s.data.toList ++ Bk.fill bytes) := ba_ext (by rw [cat_list, fillB_list, bs_list, bs_list])
        rw [← this]
        rfl

end Go.Proofs.YtkhkjacnoiopcaaGreatDoor

set_option linter.unusedVariables false
set_option linter.unusedSimpArgs false
namespace Go.Proofs.YtkhkjacnoiopcaaGreatDoor
open Go.RowKit Tre Pk

/-- Too large to be looked at. -/
def largeE (e : Ent) : Bool := decide (700 < e.name.length + e.link.length + e.user.length + e.group.length) || decide (900 < e.data.length) || decide (30 < e.map.length)
/-- What a member that is looked at measures. -/
theorem large_no {e : Ent} (h : largeE e = false) : e.name.length ≤ 700 ∧ e.link.length ≤ 700 ∧ e.data.length ≤ 900 ∧ e.map.length ≤ 30 := by
  unfold largeE at h
  simp only [Bool.or_eq_false_iff, decide_eq_false_iff_not] at h
  omega
theorem Came.below {W W' : World} {e : Ent} {mv : Value} (h : Came W e mv) (hb : Below W.heap.size W W') : Came W' e mv :=
  ⟨h.kind, h.size, h.name, h.link, h.user, h.group, h.data, h.map, h.pcs.below hb⟩

set_option maxRecDepth 100000 in
set_option maxHeartbeats 4000000 in
theorem large_any (e : Ent) (mv : Value) (w : World) (hc : Came w e mv) : Calls Tryz.prog 16 #[ev e mv] w fun r w' => r = .returned (.bool (largeE e)) ∧ Below w.heap.size w w' := by
  obtain ⟨h1, h2, h3, h4, h5, h6, h7, h8, hp⟩ := hc
  obtain ⟨A, cap, rfl, hq⟩ := hp
  clear hq
  obtain ⟨n, k, m1, m2, m3, z, sc, na, l, u, gr, mj, mn, d, mp⟩ := e
  unfold ev evc largeE
  simp only at h1 h2 h3 h4 h5 h6 h7 h8 ⊢
  have s1 : (bs n).size = n.length := rfl
  have s2 : (bs l).size = l.length := rfl
  have s3 : (bs u).size = u.length := rfl
  have s4 : (bs gr).size = gr.length := rfl
  have s5 : (bs d).size = d.length := rfl
  rw [← s1, ← s2, ← s3, ← s4, ← s5]
  rw [← s1] at h3
  rw [← s2] at h4
  rw [← s3] at h5
  rw [← s4] at h6
  rw [← s5] at h7
  generalize bs n = N at *
  generalize bs l = L at *
  generalize bs u = U at *
  generalize bs gr = G at *
  generalize bs d = D at *
  generalize mp.length = M at *
  have HB := Lib.hid (show Below w.heap.size w (w.alloc (.cells #[.string N, .int .u8 k, .int .i64 m1, .int .i64 m2, .int .i64 m3, .int .i64 z, .int .i64 sc, .int .i64 na, .string L, .string U, .string G, .int .i64 mj, .int .i64 mn, .string D, .slice A M cap] 26)) from (Below.refl _ _).alloc (Nat.le_refl _) _)
  clear s1 s2 s3 s4 s5 h1 h2
  by_cases g1 : 700 < N.size + L.size + U.size + G.size
  · have k1 : (700 : Int) < (N.size : Int) + L.size + U.size + G.size := by omega
    have e : (decide (700 < N.size + L.size + U.size + G.size) || decide (900 < D.size) || decide (30 < M)) = true := by simp [g1]
    rw [e]
    clear e g1
    go_enter Tryz.func16, Tryz.ntmps16
    go_wp2_with fail
    go_ret
    exact ⟨rfl, HB.out⟩
  have k1 : ¬ (700 : Int) < (N.size : Int) + L.size + U.size + G.size := by omega
  by_cases g2 : 900 < D.size
  · have k2 : (900 : Int) < D.size := by omega
    have e : (decide (700 < N.size + L.size + U.size + G.size) || decide (900 < D.size) || decide (30 < M)) = true := by simp [g2]
    rw [e]
    clear e g1 g2
    go_enter Tryz.func16, Tryz.ntmps16
    go_wp2_with fail
    go_ret
    exact ⟨rfl, HB.out⟩
  have k2 : ¬ (900 : Int) < D.size := by omega
  by_cases g3 : 30 < M
  · have k3 : (30 : Int) < M := by omega
    have e : (decide (700 < N.size + L.size + U.size + G.size) || decide (900 < D.size) || decide (30 < M)) = true := by simp [g3]
    rw [e]
    clear e g1 g2 g3
    go_enter Tryz.func16, Tryz.ntmps16
    go_wp2_with fail
    go_ret
    exact ⟨rfl, HB.out⟩
  have k3 : ¬ (30 : Int) < M := by omega
  have e : (decide (700 < N.size + L.size + U.size + G.size) || decide (900 < D.size) || decide (30 < M)) = false := by simp [g2, g3]; omega
  rw [e]
  clear e g1 g2 g3
  go_enter Tryz.func16, Tryz.ntmps16
  go_wp2_with fail
  go_ret
  exact ⟨rfl, HB.out⟩

end Go.Proofs.YtkhkjacnoiopcaaGreatDoor
