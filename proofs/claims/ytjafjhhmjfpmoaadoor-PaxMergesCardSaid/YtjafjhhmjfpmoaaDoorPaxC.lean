/-
  pax.first.
-/
import Derived.Test.YtjafjhhmjfpmoaaDoorPaxB
import Derived.BigQuiet
import Derived.Deep.RegionWith
import Derived.Deep.QuietTactic
namespace Go.Proofs.YtjafjhhmjfpmoaaDoor
open Go.RowKit

/-- What first answers. -/
def firstOf : Option (Px.Rec × Nat) → Value
  | none => .tuple #[.agg #[.string ⟨#[]⟩, .string ⟨#[]⟩], .int .i64 0, .bool false]
  | some (r, n) => .tuple #[.agg #[.string (bs r.1), .string (bs r.2)], .int .i64 (n : Int), .bool true]
def firstV (s : List UInt8) : Value := firstOf (Px.first s)

theorem results_cell_tmp2 {fn : Func} {p u v : Tmp} {ty : TypeId} (h : fn.results = #[.cell p ty, .tmp u, .tmp v]) (tmps : Array Value) (P : Program) (w : World) :
    (results fn tmps).run P w =
      ((asAddr (tmps.getD p undef)).run P w).andThen fun a w₁ => ((loadVar ty a).run P w₁).andThen fun x w₂ => .ok (.tuple #[x, tmps.getD u undef, tmps.getD v undef]) w₂ := by
  simp only [results, h]
  simp [Sem.run_bind, Result.andThen]
theorem infoPr : (Tryd.prog.info? 32).map (·.size) = some 2 := by kernel_rfl
theorem results_pair {fn : Func} {p u v : Tmp} (h : fn.results = #[.cell p 32, .tmp u, .tmp v]) (tmps : Array Value) (w : World) (g : Nat) (a b : Value)
    (hp : tmps.getD p undef = .pointer (some ⟨g, 0, none⟩)) (hb : Blk w g 32 #[a, b]) : (results fn tmps).run Tryd.prog w = .ok (.tuple #[.agg #[a, b], tmps.getD u undef, tmps.getD v undef]) w := by
  rw [results_cell_tmp2 h, hp]
  simp only [asAddr, Sem.run_pure, Result.andThen_ok]
  rw [run_loadVar_row w g _ _ _ _ _ hb Tryd.underlying32 rfl infoPr]
  rfl

theorem atoi_bad (s : ByteArray) (hl : s.size ≤ 18) (h : Lib.atoi s.data.toList = none) (w : World) (hE : Env w) :
    Calls Tryd.prog 43 #[.string s] w fun e w' => ∃ t N, e = .returned (.tuple #[.int .i64 0, .iface t (.pointer (some ⟨N, 0, none⟩))]) ∧ Below w.heap.size w w' := by
  obtain ⟨ev, h1, h2⟩ := hE.2.1
  exact (Tryd.strconv_Atoi_err s hl h ev w h1 h2).mono fun e w' ⟨N, he, _, _, hb⟩ => ⟨_, N, he, hb⟩
theorem atoi_good (s : ByteArray) (hl : s.size ≤ 18) (n : Int) (h : Lib.atoi s.data.toList = some n) (w : World) :
    Calls Tryd.prog 43 #[.string s] w fun e w' => e = .returned (.tuple #[.int .i64 n, .nilIface]) ∧ Below w.heap.size w w' :=
  (Tryd.strconv_Atoi s n hl h w).mono fun e w' ⟨he, t, hw⟩ => ⟨he, hw ▸ ⟨rfl, rfl, rfl, by rw [Lib.bytesWorld_size]; omega, fun j hj => Lib.bytesWorld_at_old w _ t j hj⟩⟩

set_option maxRecDepth 100000 in
set_option maxHeartbeats 2000000 in
theorem first_any (s : ByteArray) (hs : s.size ≤ 100000) (w : World) (hE : Env w) :
    Calls Tryd.prog 28 #[.string s] w fun e w' => e = .returned (firstV s.data.toList) ∧ Below w.heap.size w w' := by
  obtain ⟨M, hM⟩ : ∃ M, M = min s.size 6 := ⟨_, rfl⟩
  have hMi : min (s.size : Int) 6 = M := by omega
  have hMs : (M : Int) ≤ s.size := by omega
  have hx : (s.extract 0 M).data.toList = s.data.toList.take 6 := by
    rw [ext_to, hM]
    by_cases h : s.size ≤ 6
    · rw [Nat.min_eq_left h, List.take_of_length_le (by rw [list_size]; exact Nat.le_refl _), List.take_of_length_le (by rw [list_size]; exact h)]
    · rw [Nat.min_eq_right (by omega)]
  have cu := fun w' (h : Below w.heap.size w w') => cut_any (s.extract 0 M) 32 (by rw [ext_size _ _ _ (by omega)]; omega) w' (hE.below h)
  rw [hx] at cu
  obtain ⟨F, hF⟩ : ∃ F, F = Px.first s.data.toList := ⟨_, rfl⟩
  have hFV : firstV s.data.toList = firstOf F := by rw [hF]; rfl
  have hlen := Px.cut1_len 32 (s.data.toList.take 6)
  unfold Px.first at hF
  obtain ⟨C, hC⟩ : ∃ C, C = Px.cut1 32 (s.data.toList.take 6) := ⟨_, rfl⟩
  rw [← hC] at cu hF hlen
  rw [List.length_take] at hlen
  obtain ⟨c1, c2, c3⟩ := C
  simp only at cu hF hlen
  rw [hFV]
  have CU := Lib.hid cu
  have hb1 : (bs c1).size ≤ 6 := by rw [bs_size]; omega
  have hb1i : ((bs c1).size : Int) ≤ 6 := by omega
  have hb2 : (bs c1).size = c1.length := bs_size c1
  have B0 := Lib.hid ((Below.refl _ w).alloc (Nat.le_refl _) (.cells #[.string ⟨#[]⟩, .string ⟨#[]⟩] 32))
  have Y0 := Lib.hid (Blk.new w 32 #[.string ⟨#[]⟩, .string ⟨#[]⟩])
  have lt0 : w.heap.size < (w.alloc (.cells #[.string ⟨#[]⟩, .string ⟨#[]⟩] 32)).heap.size := by simp
  clear cu hx hC hFV
  cases ha : Lib.atoi c1 with
  | none =>
    rw [ha] at hF
    simp only at hF
    subst hF
    have A1 := Lib.hid (fun w' (h : Below w.heap.size w w') => atoi_bad (bs c1) (by omega) ha w' (hE.below h))
    clear hM ha hlen hE
    cases c3
    all_goals
      go_enter Tryd.func28, Tryd.ntmps28
      go_wp2_with fail
      refine (CU.out _ B0.out).mono ?_
      rintro e w1 ⟨rfl, h1⟩
      have B1 := Lib.hid (thenB B0.out h1)
      have Y1 := Lib.hid (Y0.out.below h1 lt0)
      have lt1 := Nat.lt_of_lt_of_le lt0 h1.size
      clear h1
      go_wp2_with fail
      refine (A1.out _ B1.out).mono ?_
      rintro e w2 ⟨t, N, rfl, h2⟩
      have B2 := Lib.hid (thenB B1.out h2)
      have y2 := Y1.out.below h2 lt1
      have m0 := y2.cell 0
      have mf0 := y2.frozen 0
      have m1 := y2.cell 1
      have mf1 := y2.frozen 1
      have Y2 := Lib.hid y2
      clear y2
      clear h2
      go_wp2_with fail
      refine bodyPost_ret (results_pair (p := 2) (u := 3) (v := 4) rfl _ _ w.heap.size _ _ rfl ((Y2.out.set_ 0 _).set_ 1 _)) rfl ?_
      exact ⟨rfl, (B2.out.setCell (Nat.le_refl _) _).setCell (Nat.le_refl _) _⟩
  | some n =>
    rw [ha] at hF
    simp only at hF
    have A1 := Lib.hid (fun w' (h : Below w.heap.size w w') => atoi_good (bs c1) (by omega) n ha w')
    clear hM ha hlen
    by_cases hbad : c3 = false ∨ n < 1 ∨ (s.size : Int) < n ∨ n < ((bs c1).size : Int) + 4
    · rw [if_pos (by rw [list_size, ← hb2]; exact hbad)] at hF
      subst hF
      have hways : c3 = false ∨ (c3 = true ∧ n < 1) ∨ (c3 = true ∧ ¬ n < 1 ∧ (s.size : Int) < n) ∨ (c3 = true ∧ ¬ n < 1 ∧ ¬ (s.size : Int) < n ∧ n < ((bs c1).size : Int) + 4) := by
        cases c3
        · exact .inl rfl
        · right
          by_cases k1 : n < 1
          · exact .inl ⟨rfl, k1⟩
          by_cases k2 : (s.size : Int) < n
          · exact .inr (.inl ⟨rfl, k1, k2⟩)
          exact .inr (.inr ⟨rfl, k1, k2, by rcases hbad with h | h | h | h <;> first | (exact absurd h k1) | (exact absurd h k2) | (exact h) | (cases h)⟩)
      clear hbad
      rcases hways with rfl | ⟨rfl, k1⟩ | ⟨rfl, k1, k2⟩ | ⟨rfl, k1, k2, k3⟩
      all_goals
        go_enter Tryd.func28, Tryd.ntmps28
        go_wp2_with fail
        refine (CU.out _ B0.out).mono ?_
        rintro e w1 ⟨rfl, h1⟩
        have B1 := Lib.hid (thenB B0.out h1)
        have Y1 := Lib.hid (Y0.out.below h1 lt0)
        have lt1 := Nat.lt_of_lt_of_le lt0 h1.size
        clear h1
        go_wp2_with fail
        refine (A1.out _ B1.out).mono ?_
        rintro e w2 ⟨rfl, h2⟩
        have B2 := Lib.hid (thenB B1.out h2)
        have y2 := Y1.out.below h2 lt1
        have m0 := y2.cell 0
        have mf0 := y2.frozen 0
        have m1 := y2.cell 1
        have mf1 := y2.frozen 1
        have Y2 := Lib.hid y2
        clear y2
        clear h2
        go_wp2_with fail
        refine bodyPost_ret (results_pair (p := 2) (u := 3) (v := 4) rfl _ _ w.heap.size _ _ rfl ((Y2.out.set_ 0 _).set_ 1 _)) rfl ?_
        exact ⟨rfl, (B2.out.setCell (Nat.le_refl _) _).setCell (Nat.le_refl _) _⟩
    · rw [if_neg (by rw [list_size, ← hb2]; exact hbad)] at hF
      simp only [not_or, Bool.not_eq_false] at hbad
      obtain ⟨rfl, k1, k2, k3⟩ := hbad
      obtain ⟨N, rfl⟩ : ∃ N : Nat, n = (N : Int) := ⟨n.toNat, by omega⟩
      simp only [Int.toNat_natCast] at hF
      obtain ⟨L, hL⟩ : ∃ L, L = c1.length := ⟨_, rfl⟩
      rw [← hL] at hF hb2
      have hb2i : ((bs c1).size : Int) = L := by omega
      have hL6 : (L : Int) ≤ 6 := by omega
      have hLN : (L : Int) + 4 ≤ N := by omega
      have hNs : (N : Int) ≤ s.size := by omega
      have hs5 : (s.size : Int) ≤ 100000 := by omega
      have n1 : ¬ ((N : Int) < 1) := by omega
      have n2 : ¬ ((s.size : Int) < N) := by omega
      have n3 : ¬ ((N : Int) < L + 4) := by omega
      have e1 : ((L : Int) + 1).toNat = L + 1 := by omega
      have e2 : ((N : Int) - 1).toNat = N - 1 := by omega
      have e3 : (L : Int) + 1 ≤ N - 1 := by omega
      have e4 : (N : Int) - 1 ≤ s.size := by omega
      have e5 : (0 : Int) ≤ (L : Int) + 1 := by omega
      have hx2 : (s.extract (L + 1) (N - 1)).data.toList = (s.data.toList.take (N - 1)).drop (L + 1) := ext_list _ _ _
      have cu2 := fun w' (h : Below w.heap.size w w') => cut_any (s.extract (L + 1) (N - 1)) 61 (by rw [ext_size _ _ _ (by omega)]; omega) w' (hE.below h)
      rw [hx2] at cu2
      have hgl := Px.cut1_len 61 ((s.data.toList.take (N - 1)).drop (L + 1))
      have hgb : ((s.data.toList.take (N - 1)).drop (L + 1)).length ≤ 100000 := by rw [List.length_drop, List.length_take, list_size]; omega
      obtain ⟨G, hG⟩ : ∃ G, G = Px.cut1 61 ((s.data.toList.take (N - 1)).drop (L + 1)) := ⟨_, rfl⟩
      rw [← hG] at hF cu2 hgl
      obtain ⟨g1, g2, g3⟩ := G
      simp only at hF cu2 hgl
      have CU2 := Lib.hid cu2
      clear k1 k2 k3 hs hb1 hb1i hb2 hx2 cu2 hG hL
      have rr := fun w' => right_any (bs g1) (bs g2) (by rw [bs_size]; omega) (by rw [bs_size]; omega) w'
      unfold prv at rr
      simp only [bs_list] at rr
      cases g3
      · simp only [if_true] at hF
        subst hF
        have RR := Lib.hid rr
        clear rr
        go_enter Tryd.func28, Tryd.ntmps28
        go_wp2_with fail
        refine (CU.out _ B0.out).mono ?_
        rintro e w1 ⟨rfl, h1⟩
        have B1 := Lib.hid (thenB B0.out h1)
        have Y1 := Lib.hid (Y0.out.below h1 lt0)
        have lt1 := Nat.lt_of_lt_of_le lt0 h1.size
        clear h1
        go_wp2_with fail
        refine (A1.out _ B1.out).mono ?_
        rintro e w2 ⟨rfl, h2⟩
        have B2 := Lib.hid (thenB B1.out h2)
        have Y2 := Lib.hid (Y1.out.below h2 lt1)
        have lt2 := Nat.lt_of_lt_of_le lt1 h2.size
        clear h2
        go_wp2_with fail
        refine (CU2.out _ B2.out).mono ?_
        rintro e w3 ⟨rfl, h3⟩
        have B3 := Lib.hid (thenB B2.out h3)
        have Y3 := Lib.hid (Y2.out.below h3 lt2)
        have lt3 := Nat.lt_of_lt_of_le lt2 h3.size
        clear h3
        go_wp2_with fail
        have z := Blk.new w3 32 #[.string (bs g1), .string (bs g2)]
        have b4 := B3.out.alloc B3.out.size (.cells #[.string (bs g1), .string (bs g2)] 32)
        have y4 := Y3.out.alloc (.cells #[.string (bs g1), .string (bs g2)] 32)
        have lt4 : w.heap.size < (w3.alloc (.cells #[.string (bs g1), .string (bs g2)] 32)).heap.size := by simp; omega
        have lq : w3.heap.size < (w3.alloc (.cells #[.string (bs g1), .string (bs g2)] 32)).heap.size := by simp
        have hne : w.heap.size ≠ w3.heap.size := by omega
        generalize (w3.alloc (.cells #[.string (bs g1), .string (bs g2)] 32)) = w4 at z b4 y4 lt4 lq ⊢
        generalize w3.heap.size = q at z lq hne ⊢
        have c0 := z.cell 0
        have c1' := z.cell 1
        have Z4 := Lib.hid z
        have B4 := Lib.hid b4
        have Y4 := Lib.hid y4
        clear z b4 y4 lt3 Y3 B3 Y2 lt2 B2 Y1 lt1 B1 CU CU2 A1
        go_quiet (fail)
        have m0 := Y4.out.cell 0
        have mf0 := Y4.out.frozen 0
        have m1 := Y4.out.cell 1
        have mf1 := Y4.out.frozen 1
        go_wp2_with fail
        refine bodyPost_ret (results_pair (p := 2) (u := 3) (v := 4) rfl _ _ w.heap.size _ _ rfl ((Blk.set_ (w := w4.drewN nq) Y4.out 0 _).set_ 1 _)) rfl ?_
        exact ⟨rfl, Below.setCell (p := ⟨w.heap.size, 1, none⟩) (Below.setCell (w := w4.drewN nq) (p := ⟨w.heap.size, 0, none⟩) (below_drewN B4.out nq) (Nat.le_refl _) _) (Nat.le_refl _) _⟩
      · simp only [Bool.true_eq_false, if_false] at hF
        obtain ⟨R, hR⟩ : ∃ R, R = Px.right (g1, g2) := ⟨_, rfl⟩
        rw [← hR] at hF rr
        have RR := Lib.hid rr
        have hBr : R = true → ∀ w', Below w.heap.size w w' → Calls Tryd.prog 30 #[.agg #[.string (bs g1), .string (bs g2)]] w' fun e w'' => e = .returned (.string (bs (Px.text (g1, g2)))) ∧ Below w'.heap.size w' w'' := fun h w' hb => text_any (bs g1) (bs g2) (by rw [bs_list, bs_list, ← hR]; exact h) w' (hE.below hb)
        clear rr hR
        cases R
        · simp only [if_true] at hF
          subst hF
          clear hBr
          go_enter Tryd.func28, Tryd.ntmps28
          go_wp2_with fail
          refine (CU.out _ B0.out).mono ?_
          rintro e w1 ⟨rfl, h1⟩
          have B1 := Lib.hid (thenB B0.out h1)
          have Y1 := Lib.hid (Y0.out.below h1 lt0)
          have lt1 := Nat.lt_of_lt_of_le lt0 h1.size
          clear h1
          go_wp2_with fail
          refine (A1.out _ B1.out).mono ?_
          rintro e w2 ⟨rfl, h2⟩
          have B2 := Lib.hid (thenB B1.out h2)
          have Y2 := Lib.hid (Y1.out.below h2 lt1)
          have lt2 := Nat.lt_of_lt_of_le lt1 h2.size
          clear h2
          go_wp2_with fail
          refine (CU2.out _ B2.out).mono ?_
          rintro e w3 ⟨rfl, h3⟩
          have B3 := Lib.hid (thenB B2.out h3)
          have Y3 := Lib.hid (Y2.out.below h3 lt2)
          have lt3 := Nat.lt_of_lt_of_le lt2 h3.size
          clear h3
          go_wp2_with fail
          have z := Blk.new w3 32 #[.string (bs g1), .string (bs g2)]
          have b4 := B3.out.alloc B3.out.size (.cells #[.string (bs g1), .string (bs g2)] 32)
          have y4 := Y3.out.alloc (.cells #[.string (bs g1), .string (bs g2)] 32)
          have lt4 : w.heap.size < (w3.alloc (.cells #[.string (bs g1), .string (bs g2)] 32)).heap.size := by simp; omega
          have lq : w3.heap.size < (w3.alloc (.cells #[.string (bs g1), .string (bs g2)] 32)).heap.size := by simp
          have hne : w.heap.size ≠ w3.heap.size := by omega
          generalize (w3.alloc (.cells #[.string (bs g1), .string (bs g2)] 32)) = w4 at z b4 y4 lt4 lq ⊢
          generalize w3.heap.size = q at z lq hne ⊢
          have c0 := z.cell 0
          have c1' := z.cell 1
          have Z4 := Lib.hid z
          have B4 := Lib.hid b4
          have Y4 := Lib.hid y4
          clear z b4 y4 lt3 Y3 B3 Y2 lt2 B2 Y1 lt1 B1 CU CU2 A1
          first | (go_region_with (first
            | (go_at_call 29; refine (RR.out _).mono ?_; rintro e wt ⟨rfl, TT⟩; have k0 := (Z4.out.drew.below TT lq).cell 0; have k1 := (Z4.out.drew.below TT lq).cell 1; have TB := Lib.hid TT; clear TT))) | fail
          all_goals
            have y5 := Y4.out.drew.below TB.out lt4
            have m0 := y5.cell 0
            have mf0 := y5.frozen 0
            have m1 := y5.cell 1
            have mf1 := y5.frozen 1
            have Y5 := Lib.hid y5
            clear y5 k0 k1
            go_wp2_with fail
            refine bodyPost_ret (results_pair (p := 2) (u := 3) (v := 4) rfl _ _ w.heap.size _ _ rfl ((Y5.out.set_ 0 _).set_ 1 _)) rfl ?_
            exact ⟨rfl, Below.setCell (p := ⟨w.heap.size, 1, none⟩) (Below.setCell (p := ⟨w.heap.size, 0, none⟩) (thenB B4.out.drew TB.out) (Nat.le_refl _) _) (Nat.le_refl _) _⟩
        · simp only [Bool.true_eq_false, if_false] at hF
          have TX := Lib.hid (hBr rfl)
          clear hBr
          obtain ⟨bq, hbq⟩ : ∃ b, b = ((bs (Px.text (g1, g2))).toList == (s.extract 0 N).toList) := ⟨_, rfl⟩
          have hF2 : F = if bq = true then some ((g1, g2), N) else none := by
            rw [hF, hbq, Lib.toList_data, Lib.toList_data, bs_list, ext_to]
            by_cases h : Px.text (g1, g2) = s.data.toList.take N
            · rw [if_pos h, h, if_pos (beq_self_eq_true _)]
            · rw [if_neg h, if_neg (by simpa using h)]
          have hq1 : ((bs (Px.text (g1, g2))).toList != (s.extract 0 N).toList) = !bq := by rw [hbq]; rfl
          have hq0 := hbq.symm
          obtain ⟨T, hT⟩ : ∃ T, T = bs (Px.text (g1, g2)) := ⟨_, rfl⟩
          rw [← hT] at hq1 hq0 TX
          clear hF hbq hT
          subst hF2
          have en : (N : Int) ≤ s.size := hNs
          have en2 : ((N : Int)).toNat = N := by simp
          cases bq
          · go_enter Tryd.func28, Tryd.ntmps28
            go_wp2_with fail
            refine (CU.out _ B0.out).mono ?_
            rintro e w1 ⟨rfl, h1⟩
            have B1 := Lib.hid (thenB B0.out h1)
            have Y1 := Lib.hid (Y0.out.below h1 lt0)
            have lt1 := Nat.lt_of_lt_of_le lt0 h1.size
            clear h1
            go_wp2_with fail
            refine (A1.out _ B1.out).mono ?_
            rintro e w2 ⟨rfl, h2⟩
            have B2 := Lib.hid (thenB B1.out h2)
            have Y2 := Lib.hid (Y1.out.below h2 lt1)
            have lt2 := Nat.lt_of_lt_of_le lt1 h2.size
            clear h2
            go_wp2_with fail
            refine (CU2.out _ B2.out).mono ?_
            rintro e w3 ⟨rfl, h3⟩
            have B3 := Lib.hid (thenB B2.out h3)
            have Y3 := Lib.hid (Y2.out.below h3 lt2)
            have lt3 := Nat.lt_of_lt_of_le lt2 h3.size
            clear h3
            go_wp2_with fail
            have z := Blk.new w3 32 #[.string (bs g1), .string (bs g2)]
            have b4 := B3.out.alloc B3.out.size (.cells #[.string (bs g1), .string (bs g2)] 32)
            have y4 := Y3.out.alloc (.cells #[.string (bs g1), .string (bs g2)] 32)
            have lt4 : w.heap.size < (w3.alloc (.cells #[.string (bs g1), .string (bs g2)] 32)).heap.size := by simp; omega
            have lq : w3.heap.size < (w3.alloc (.cells #[.string (bs g1), .string (bs g2)] 32)).heap.size := by simp
            have hne : w.heap.size ≠ w3.heap.size := by omega
            generalize (w3.alloc (.cells #[.string (bs g1), .string (bs g2)] 32)) = w4 at z b4 y4 lt4 lq ⊢
            generalize w3.heap.size = q at z lq hne ⊢
            have c0 := z.cell 0
            have c1' := z.cell 1
            have Z4 := Lib.hid z
            have B4 := Lib.hid b4
            have Y4 := Lib.hid y4
            clear z b4 y4 lt3 Y3 B3 Y2 lt2 B2 Y1 lt1 B1 CU CU2 A1
            first | (go_region_with (first
              | (go_at_call 29; refine (RR.out _).mono ?_; rintro e wt ⟨rfl, TT⟩; have k0 := (Z4.out.drew.below TT lq).cell 0; have k1 := (Z4.out.drew.below TT lq).cell 1; have ltt := Nat.lt_of_lt_of_le lq TT.size; have TB := Lib.hid TT; clear TT)
              | (go_at_call 30; refine (TX.out _ (thenB B4.out.drew TB.out)).mono ?_; rintro e wu ⟨rfl, TT⟩; have kk0 := ((Z4.out.drew.below TB.out lq).below TT ltt).cell 0; have kk1 := ((Z4.out.drew.below TB.out lq).below TT ltt).cell 1; have TB2 := Lib.hid TT; clear TT))) | fail
            all_goals
              have y6 := (Y4.out.drew.below TB.out lt4).below TB2.out (Nat.lt_of_lt_of_le lt4 TB.out.size)
              have m0 := y6.cell 0
              have mf0 := y6.frozen 0
              have m1 := y6.cell 1
              have mf1 := y6.frozen 1
              have Y6 := Lib.hid y6
              clear y6 k0 k1
              go_wp2_with fail
              refine bodyPost_ret (results_pair (p := 2) (u := 3) (v := 4) rfl _ _ w.heap.size _ _ rfl ((Y6.out.set_ 0 _).set_ 1 _)) rfl ?_
              exact ⟨rfl, Below.setCell (p := ⟨w.heap.size, 1, none⟩) (Below.setCell (p := ⟨w.heap.size, 0, none⟩) (thenB (thenB B4.out.drew TB.out) TB2.out) (Nat.le_refl _) _) (Nat.le_refl _) _⟩
          · go_enter Tryd.func28, Tryd.ntmps28
            go_wp2_with fail
            refine (CU.out _ B0.out).mono ?_
            rintro e w1 ⟨rfl, h1⟩
            have B1 := Lib.hid (thenB B0.out h1)
            have Y1 := Lib.hid (Y0.out.below h1 lt0)
            have lt1 := Nat.lt_of_lt_of_le lt0 h1.size
            clear h1
            go_wp2_with fail
            refine (A1.out _ B1.out).mono ?_
            rintro e w2 ⟨rfl, h2⟩
            have B2 := Lib.hid (thenB B1.out h2)
            have Y2 := Lib.hid (Y1.out.below h2 lt1)
            have lt2 := Nat.lt_of_lt_of_le lt1 h2.size
            clear h2
            go_wp2_with fail
            refine (CU2.out _ B2.out).mono ?_
            rintro e w3 ⟨rfl, h3⟩
            have B3 := Lib.hid (thenB B2.out h3)
            have Y3 := Lib.hid (Y2.out.below h3 lt2)
            have lt3 := Nat.lt_of_lt_of_le lt2 h3.size
            clear h3
            go_wp2_with fail
            have z := Blk.new w3 32 #[.string (bs g1), .string (bs g2)]
            have b4 := B3.out.alloc B3.out.size (.cells #[.string (bs g1), .string (bs g2)] 32)
            have y4 := Y3.out.alloc (.cells #[.string (bs g1), .string (bs g2)] 32)
            have lt4 : w.heap.size < (w3.alloc (.cells #[.string (bs g1), .string (bs g2)] 32)).heap.size := by simp; omega
            have lq : w3.heap.size < (w3.alloc (.cells #[.string (bs g1), .string (bs g2)] 32)).heap.size := by simp
            have hne : w.heap.size ≠ w3.heap.size := by omega
            generalize (w3.alloc (.cells #[.string (bs g1), .string (bs g2)] 32)) = w4 at z b4 y4 lt4 lq ⊢
            generalize w3.heap.size = q at z lq hne ⊢
            have c0 := z.cell 0
            have c1' := z.cell 1
            have Z4 := Lib.hid z
            have B4 := Lib.hid b4
            have Y4 := Lib.hid y4
            clear z b4 y4 lt3 Y3 B3 Y2 lt2 B2 Y1 lt1 B1 CU CU2 A1
            first | (go_region_with (first
              | (go_at_call 29; refine (RR.out _).mono ?_; rintro e wt ⟨rfl, TT⟩; have k0 := (Z4.out.drew.below TT lq).cell 0; have k1 := (Z4.out.drew.below TT lq).cell 1; have ltt := Nat.lt_of_lt_of_le lq TT.size; have TB := Lib.hid TT; clear TT)
              | (go_at_call 30; refine (TX.out _ (thenB B4.out.drew TB.out)).mono ?_; rintro e wu ⟨rfl, TT⟩; have kk0 := ((Z4.out.drew.below TB.out lq).below TT ltt).cell 0; have kk1 := ((Z4.out.drew.below TB.out lq).below TT ltt).cell 1; have TB2 := Lib.hid TT; clear TT))) | fail
            all_goals
              have y6 := (Y4.out.drew.below TB.out lt4).below TB2.out (Nat.lt_of_lt_of_le lt4 TB.out.size)
              have m0 := y6.cell 0
              have mf0 := y6.frozen 0
              have m1 := y6.cell 1
              have mf1 := y6.frozen 1
              have Y6 := Lib.hid y6
              clear y6 k0 k1
              go_wp2_with fail
              refine bodyPost_ret (results_pair (p := 2) (u := 3) (v := 4) rfl _ _ w.heap.size _ _ rfl ((Y6.out.set_ 0 _).set_ 1 _)) rfl ?_
              exact ⟨rfl, Below.setCell (p := ⟨w.heap.size, 1, none⟩) (Below.setCell (p := ⟨w.heap.size, 0, none⟩) (thenB (thenB B4.out.drew TB.out) TB2.out) (Nat.le_refl _) _) (Nat.le_refl _) _⟩

end Go.Proofs.YtjafjhhmjfpmoaaDoor
