/-
  since.Changed where the old tree has none of the new one's names.
-/
import Derived.Test.YtipajekehbpghaaGreatDoorZu
import Derived.Test.YtipajekehbpghaaGreatDoorZi
import Derived.Laws.EntriesVeiled
set_option linter.unusedVariables false
set_option linter.unusedSimpArgs false

namespace Go.Proofs.YtipajekehbpghaaGreatDoor
open Go.RowKit Go.Maps Tre Pk

theorem below_setS {B g : Nat} {a w : World} (h : Below B a w) (hg : B ≤ g) (u : Value) : Below B a (w.setCell ⟨g, 0, none⟩ u) := h.setCell (p := ⟨g, 0, none⟩) hg u

set_option maxRecDepth 100000 in
set_option maxHeartbeats 8000000 in
theorem changedN_any {w : World} {g1 : Nat} {on1 of1 : Option Nat} {old : T} {g2 : Nat} {on2 of2 : Option Nat} {now : T} (hm : ML w) (h1 : TreeAt w g1 on1 of1 old) (h2 : TreeAt w g2 on2 of2 now) (ht1 : Std old) (ht2 : Std now) (hx2 : now.nx ≤ 100000) (holes : Bool)
    (h0 : ∀ e ∈ list now holes, Tre.look old.ents e.name = none) (hnl : ∀ e ∈ list now holes, e.name.length ≤ 1000) :
    Calls Tryz.prog 35 #[.pointer (some ⟨g1, 0, none⟩), .pointer (some ⟨g2, 0, none⟩), .bool holes] w (ListPost w (list now holes)) := by
  obtain ⟨W, hW⟩ : ∃ W, W = (w.alloc (.cells #[.pointer (some ⟨g1, 0, none⟩)] 24)).alloc (.cells #[.pointer (some ⟨g2, 0, none⟩)] 24) := ⟨_, rfl⟩
  have HB0 := Lib.hid (show Below w.heap.size w W by rw [hW]; exact ((Below.refl _ _).alloc (Nat.le_refl _) _).alloc (by simp) _)
  have hWs : W.heap.size = w.heap.size + 2 := by rw [hW]; simp
  have K1 := Lib.hid (show Blk W w.heap.size 24 #[.pointer (some ⟨g1, 0, none⟩)] by rw [hW]; exact (Blk.new w 24 _).alloc _)
  have K2 := Lib.hid (show Blk W (w.heap.size + 1) 24 #[.pointer (some ⟨g2, 0, none⟩)] by
    have := Blk.new (w.alloc (.cells #[.pointer (some ⟨g1, 0, none⟩)] 24)) 24 #[.pointer (some ⟨g2, 0, none⟩)]
    rw [show (w.alloc (.cells #[.pointer (some ⟨g1, 0, none⟩)] 24)).heap.size = w.heap.size + 1 by simp] at this
    rw [hW]; exact this)
  have T1 := Lib.hid (h1.below HB0.out)
  have T2 := Lib.hid (h2.below HB0.out)
  have HM := Lib.hid (hm.below HB0.out)
  have HW := Lib.hid hW
  have HS1 := Lib.hid ht1
  have HS2 := Lib.hid ht2
  have H0 := Lib.hid h0
  have HNL := Lib.hid hnl
  have hln : old.names.length ≤ 60 := by rw [names_len]; exact ht1.cn
  have hlm : now.names.length ≤ 60 := by rw [names_len]; exact ht2.cn
  have hll := list_len now holes
  have NA := Lib.hid (fun w' (hb : Below W.heap.size W w') => names_any (T1.out.below hb) HS1.out (HM.out.below hb))
  have NB := Lib.hid (fun w' (hb : Below W.heap.size W w') => names_any (T2.out.below hb) HS2.out (HM.out.below hb))
  have LI := Lib.hid (fun w' (hb : Below W.heap.size W w') => list_any (T2.out.below hb) HS2.out hx2 (HM.out.below hb) holes)
  have KC := Lib.hid (fun w' (hb : Below W.heap.size W w') => (show w'.cell? ⟨w.heap.size, 0, none⟩ = some (.pointer (some ⟨g1, 0, none⟩)) ∧ w'.cell? ⟨w.heap.size + 1, 0, none⟩ = some (.pointer (some ⟨g2, 0, none⟩)) ∧ Below W.heap.size W w' from ⟨(K1.out.below hb (by omega)).cell 0, (K2.out.below hb (by omega)).cell 0, hb⟩))
  have bw := Below.refl W.heap.size W
  clear hm h1 h2 ht1 ht2 h0 hnl hW
  obtain ⟨N1, hN1⟩ : ∃ N, N = old.names := ⟨_, rfl⟩
  obtain ⟨N2, hN2⟩ : ∃ N, N = now.names := ⟨_, rfl⟩
  rw [← hN1] at NA hln
  rw [← hN2] at NB hlm hll
  clear hN1 hN2
  go_enter Tryz.func35, Tryz.ntmps35
  repeat' ((fail_if_success (with_reducible refine halt_at 1 ?_)); first | go_values | go_skip | go_guarded | go_step | go_upon | go_back | (simp only [Int.not_lt, Int.not_le] at *; go_simp) | (go_values <;> (try go_simp)) | (go_ite <;> go_prune <;> (try go_simp)) | (split <;> (first | (rename_i hx; exact (hx _ rfl).elim) | go_prune)))
  rw [← HW.out]
  clear HW
  go_cut [7] (fun s7 wx => ∃ pb x, s7 = .pointer (some ⟨pb, 0, none⟩) ∧ x = wx ∧ W.heap.size ≤ pb ∧ Hid (Below W.heap.size W x))
  case first =>
    refine wp_region_held_drew (S := fun w' => w'.cell? ⟨w.heap.size, 0, none⟩ = some (.pointer (some ⟨g1, 0, none⟩)) ∧ w'.cell? ⟨w.heap.size + 1, 0, none⟩ = some (.pointer (some ⟨g2, 0, none⟩)) ∧ Below W.heap.size W w') (by kernel_rfl) (KC.out _ (Below.drew bw)) (fun hHeld => ?_)
    refine wpAnyH_takeD (i := 0) (d := 9) (listed' := #[true, false, false, false, false, false, false, false]) (v := ?_) rfl (by kernel_rfl) (by kernel_rfl) (by kernel_rfl) (by kernel_rfl) (by kernel_rfl) (fun _ _ _ h => h) (Or.inl ⟨by kernel_rfl, ?_⟩) (by assumption) ?_; rotate_left; (focus (intro w hSw; (try dsimp only at hSw); go_simp; (try with_reducible rfl))); (try simp only [List.foldl_cons, List.foldl_nil, Act.put, List.setIfInBounds_toArray, List.set_cons_zero, List.set_cons_succ])
    refine wpAnyH_takeD (i := 2) (d := 11) (listed' := #[true, false, true, false, false, false, false, false]) (v := ?_) rfl (by kernel_rfl) (by kernel_rfl) (by kernel_rfl) (by kernel_rfl) (by kernel_rfl) (fun _ _ _ h => h) (Or.inl ⟨by kernel_rfl, ?_⟩) (by assumption) ?_; rotate_left; (focus (intro w hSw; (try dsimp only at hSw); go_simp; (try with_reducible rfl))); (try simp only [List.foldl_cons, List.foldl_nil, Act.put, List.setIfInBounds_toArray, List.set_cons_zero, List.set_cons_succ])
    obtain ⟨x0, hx0⟩ : ∃ x, x = W.drew := ⟨_, rfl⟩
    have BD := Lib.hid (show Below W.heap.size W x0 by rw [hx0]; exact Below.drew bw)
    rw [← hx0]
    clear hx0 hHeld
    refine wpAnyH_ready (rs := [1, 6]) (by kernel_rfl) (by simp) ?_
    refine AllReadyH.cons rfl (fun K hK => ?_) (AllReadyH.cons rfl (fun K hK => ?_) AllReadyH.nil)
    · go_simp
      refine (NA.out _ BD.out).mono ?_
      rintro e x1 ⟨v, rfl, hv, hx⟩
      obtain ⟨X1, c1, rfl, _⟩ := hv.form
      have V11 := Lib.hid (hv.mono (B' := W.heap.size) BD.out.size)
      have B1 := Lib.hid (thenB BD.out hx)
      clear hv hx
      refine hK.out _ _ (KC.out _ B1.out) (fun hHeld1 => ?_)
      clear hK K
      (try simp only [List.foldl_cons, List.foldl_nil, Act.put, List.setIfInBounds_toArray, List.set_cons_zero, List.set_cons_succ])
      refine wpAnyH_ready (rs := [3, 6]) (by kernel_rfl) (by simp) ?_
      refine AllReadyH.cons rfl (fun K hK => ?_) (AllReadyH.cons rfl (fun K hK => ?_) AllReadyH.nil)
      · go_simp
        refine (NB.out _ B1.out).mono ?_
        rintro e x2 ⟨v, rfl, hv, hx⟩
        obtain ⟨X2, c2, rfl, _⟩ := hv.form
        have V22 := Lib.hid (hv.mono (B' := W.heap.size) B1.out.size)
        have V12 := Lib.hid (V11.out.later hx)
        have B2 := Lib.hid (thenB B1.out hx)
        clear hv hx
        refine hK.out _ _ (KC.out _ B2.out) (fun hHeld2 => ?_)
        clear hK K
        (try simp only [List.foldl_cons, List.foldl_nil, Act.put, List.setIfInBounds_toArray, List.set_cons_zero, List.set_cons_succ])
        refine wpAnyH_ready (rs := [4, 6]) (by kernel_rfl) (by simp) ?_
        refine AllReadyH.cons rfl (fun K hK => ?_) (AllReadyH.cons rfl (fun K hK => ?_) AllReadyH.nil)
        · go_simp
          obtain ⟨x3, hx3⟩ : ∃ x, x = x2.alloc (.cells #[.slice X1 N1.length c1, .slice X2 N2.length c2] 28) := ⟨_, rfl⟩
          have hx : Below x2.heap.size x2 x3 := by rw [hx3]; exact (Below.refl _ _).alloc (Nat.le_refl _) _
          have G3 := Lib.hid (show Blk x3 x2.heap.size 28 #[.slice X1 N1.length c1, .slice X2 N2.length c2] by rw [hx3]; exact Blk.new x2 28 _)
          have V13 := Lib.hid (V12.out.later hx)
          have V23 := Lib.hid (V22.out.later hx)
          have B3 := Lib.hid (thenB B2.out hx)
          rw [← hx3]
          obtain ⟨gb, hgb⟩ : ∃ gb, gb = x2.heap.size := ⟨_, rfl⟩
          rw [← hgb] at G3 ⊢
          clear hx hx3 hgb
          refine hK.out _ _ (KC.out _ B3.out) (fun hHeld3 => ?_)
          clear hK K
          (try simp only [List.foldl_cons, List.foldl_nil, Act.put, List.setIfInBounds_toArray, List.set_cons_zero, List.set_cons_succ])
          refine wpAnyH_ready (rs := [5, 6]) (by kernel_rfl) (by simp) ?_
          refine AllReadyH.cons rfl (fun K hK => ?_) (AllReadyH.cons rfl (fun K hK => ?_) AllReadyH.nil)
          · go_simp
            refine (concat_anyT (w0 := W) (by omega) (by omega) (G3.out.cell 0) (G3.out.cell 1) V13.out V23.out).mono ?_
            rintro e x4 ⟨v, rfl, hv, hx⟩
            obtain ⟨X3, c3, rfl, _⟩ := hv.form
            have V34 := Lib.hid (hv.mono (B' := W.heap.size) B3.out.size)
            have V14 := Lib.hid (V13.out.later hx)
            have V24 := Lib.hid (V23.out.later hx)
            have G4 := Lib.hid (G3.out.below hx G3.out.lt)
            have B4 := Lib.hid (thenB B3.out hx)
            clear hv hx
            refine hK.out _ _ (KC.out _ B4.out) (fun hHeld4 => ?_)
            clear hK K
            (try simp only [List.foldl_cons, List.foldl_nil, Act.put, List.setIfInBounds_toArray, List.set_cons_zero, List.set_cons_succ])
            refine wpAnyH_ready (rs := [6]) (by kernel_rfl) (by simp) ?_
            refine AllReadyH.cons rfl (fun K hK => ?_) AllReadyH.nil
            · go_simp
              obtain ⟨x5, hx5⟩ : ∃ x, x = x4.alloc (.cells #[.slice none 0 0] 28) := ⟨_, rfl⟩
              have hx : Below x4.heap.size x4 x5 := by rw [hx5]; exact (Below.refl _ _).alloc (Nat.le_refl _) _
              have P5 := Lib.hid (show Blk x5 x4.heap.size 28 #[.slice none 0 0] by rw [hx5]; exact Blk.new x4 28 _)
              have V15 := Lib.hid (V14.out.later hx)
              have V25 := Lib.hid (V24.out.later hx)
              have G5 := Lib.hid (G4.out.below hx G4.out.lt)
              have V35 := Lib.hid (V34.out.later hx)
              have B5 := Lib.hid (thenB B4.out hx)
              rw [← hx5]
              obtain ⟨pb, hpb⟩ : ∃ pb, pb = x4.heap.size := ⟨_, rfl⟩
              have hpz : W.heap.size ≤ pb := by rw [hpb]; exact B4.out.size
              rw [← hpb] at P5 ⊢
              clear hx hx5 hpb
              refine hK.out _ _ (KC.out _ B5.out) (fun hHeld5 => ?_)
              clear hK K
              (try simp only [List.foldl_cons, List.foldl_nil, Act.put, List.setIfInBounds_toArray, List.set_cons_zero, List.set_cons_succ])
              refine wpAnyH_ready (rs := [7]) (by kernel_rfl) (by simp) ?_
              refine AllReadyH.cons rfl (fun K hK => ?_) AllReadyH.nil
              · have cp : x5.cell? ⟨pb, 0, none⟩ = some (.slice none 0 0) := P5.out.cell 0
                have fp := P5.out.frozen 0
                have lp := P5.out.lt
                go_simp
                refine hK.out _ _ (KC.out _ (below_setS B5.out hpz _)) (fun hHeldZ => ?_)
                clear hK K
                (try simp only [List.foldl_cons, List.foldl_nil, Act.put, List.setIfInBounds_toArray, List.set_cons_zero, List.set_cons_succ])
                refine wpAnyH_done (by kernel_rfl) ?_ _
                go_wp2_with fail
                go_meet
                exact ⟨pb, _, rfl, rfl, hpz, Lib.hid (below_setS B5.out hpz _)⟩
          · go_simp
            obtain ⟨x7, hx7⟩ : ∃ x, x = x3.alloc (.cells #[.slice none 0 0] 28) := ⟨_, rfl⟩
            have hx : Below x3.heap.size x3 x7 := by rw [hx7]; exact (Below.refl _ _).alloc (Nat.le_refl _) _
            have P7 := Lib.hid (show Blk x7 x3.heap.size 28 #[.slice none 0 0] by rw [hx7]; exact Blk.new x3 28 _)
            have V17 := Lib.hid (V13.out.later hx)
            have V27 := Lib.hid (V23.out.later hx)
            have G7 := Lib.hid (G3.out.below hx G3.out.lt)
            have B7 := Lib.hid (thenB B3.out hx)
            rw [← hx7]
            obtain ⟨pb, hpb⟩ : ∃ pb, pb = x3.heap.size := ⟨_, rfl⟩
            have hpz : W.heap.size ≤ pb := by rw [hpb]; exact B3.out.size
            rw [← hpb] at P7 ⊢
            clear hx hx7 hpb
            refine hK.out _ _ (KC.out _ B7.out) (fun hHeld7 => ?_)
            clear hK K
            (try simp only [List.foldl_cons, List.foldl_nil, Act.put, List.setIfInBounds_toArray, List.set_cons_zero, List.set_cons_succ])
            refine wpAnyH_ready (rs := [5]) (by kernel_rfl) (by simp) ?_
            refine AllReadyH.cons rfl (fun K hK => ?_) AllReadyH.nil
            · go_simp
              refine (concat_anyT (w0 := W) (by omega) (by omega) (G7.out.cell 0) (G7.out.cell 1) V17.out V27.out).mono ?_
              rintro e x8 ⟨v, rfl, hv, hx⟩
              obtain ⟨X3, c3, rfl, _⟩ := hv.form
              have V38 := Lib.hid (hv.mono (B' := W.heap.size) B7.out.size)
              have V18 := Lib.hid (V17.out.later hx)
              have V28 := Lib.hid (V27.out.later hx)
              have G8 := Lib.hid (G7.out.below hx G7.out.lt)
              have P8 := Lib.hid (P7.out.below hx P7.out.lt)
              have B8 := Lib.hid (thenB B7.out hx)
              clear hv hx
              refine hK.out _ _ (KC.out _ B8.out) (fun hHeld8 => ?_)
              clear hK K
              (try simp only [List.foldl_cons, List.foldl_nil, Act.put, List.setIfInBounds_toArray, List.set_cons_zero, List.set_cons_succ])
              refine wpAnyH_ready (rs := [7]) (by kernel_rfl) (by simp) ?_
              refine AllReadyH.cons rfl (fun K hK => ?_) AllReadyH.nil
              · have cp : x8.cell? ⟨pb, 0, none⟩ = some (.slice none 0 0) := P8.out.cell 0
                have fp := P8.out.frozen 0
                have lp := P8.out.lt
                go_simp
                refine hK.out _ _ (KC.out _ (below_setS B8.out hpz _)) (fun hHeldZ => ?_)
                clear hK K
                (try simp only [List.foldl_cons, List.foldl_nil, Act.put, List.setIfInBounds_toArray, List.set_cons_zero, List.set_cons_succ])
                refine wpAnyH_done (by kernel_rfl) ?_ _
                go_wp2_with fail
                go_meet
                exact ⟨pb, _, rfl, rfl, hpz, Lib.hid (below_setS B8.out hpz _)⟩
        · go_simp
          obtain ⟨x10, hx10⟩ : ∃ x, x = x2.alloc (.cells #[.slice none 0 0] 28) := ⟨_, rfl⟩
          have hx : Below x2.heap.size x2 x10 := by rw [hx10]; exact (Below.refl _ _).alloc (Nat.le_refl _) _
          have P10 := Lib.hid (show Blk x10 x2.heap.size 28 #[.slice none 0 0] by rw [hx10]; exact Blk.new x2 28 _)
          have V110 := Lib.hid (V12.out.later hx)
          have V210 := Lib.hid (V22.out.later hx)
          have B10 := Lib.hid (thenB B2.out hx)
          rw [← hx10]
          obtain ⟨pb, hpb⟩ : ∃ pb, pb = x2.heap.size := ⟨_, rfl⟩
          have hpz : W.heap.size ≤ pb := by rw [hpb]; exact B2.out.size
          rw [← hpb] at P10 ⊢
          clear hx hx10 hpb
          refine hK.out _ _ (KC.out _ B10.out) (fun hHeld10 => ?_)
          clear hK K
          (try simp only [List.foldl_cons, List.foldl_nil, Act.put, List.setIfInBounds_toArray, List.set_cons_zero, List.set_cons_succ])
          refine wpAnyH_ready (rs := [4]) (by kernel_rfl) (by simp) ?_
          refine AllReadyH.cons rfl (fun K hK => ?_) AllReadyH.nil
          · go_simp
            obtain ⟨x11, hx11⟩ : ∃ x, x = x10.alloc (.cells #[.slice X1 N1.length c1, .slice X2 N2.length c2] 28) := ⟨_, rfl⟩
            have hx : Below x10.heap.size x10 x11 := by rw [hx11]; exact (Below.refl _ _).alloc (Nat.le_refl _) _
            have G11 := Lib.hid (show Blk x11 x10.heap.size 28 #[.slice X1 N1.length c1, .slice X2 N2.length c2] by rw [hx11]; exact Blk.new x10 28 _)
            have V111 := Lib.hid (V110.out.later hx)
            have V211 := Lib.hid (V210.out.later hx)
            have P11 := Lib.hid (P10.out.below hx P10.out.lt)
            have B11 := Lib.hid (thenB B10.out hx)
            rw [← hx11]
            obtain ⟨gb, hgb⟩ : ∃ gb, gb = x10.heap.size := ⟨_, rfl⟩
            rw [← hgb] at G11 ⊢
            clear hx hx11 hgb
            refine hK.out _ _ (KC.out _ B11.out) (fun hHeld11 => ?_)
            clear hK K
            (try simp only [List.foldl_cons, List.foldl_nil, Act.put, List.setIfInBounds_toArray, List.set_cons_zero, List.set_cons_succ])
            refine wpAnyH_ready (rs := [5]) (by kernel_rfl) (by simp) ?_
            refine AllReadyH.cons rfl (fun K hK => ?_) AllReadyH.nil
            · go_simp
              refine (concat_anyT (w0 := W) (by omega) (by omega) (G11.out.cell 0) (G11.out.cell 1) V111.out V211.out).mono ?_
              rintro e x12 ⟨v, rfl, hv, hx⟩
              obtain ⟨X3, c3, rfl, _⟩ := hv.form
              have V312 := Lib.hid (hv.mono (B' := W.heap.size) B11.out.size)
              have V112 := Lib.hid (V111.out.later hx)
              have V212 := Lib.hid (V211.out.later hx)
              have P12 := Lib.hid (P11.out.below hx P11.out.lt)
              have G12 := Lib.hid (G11.out.below hx G11.out.lt)
              have B12 := Lib.hid (thenB B11.out hx)
              clear hv hx
              refine hK.out _ _ (KC.out _ B12.out) (fun hHeld12 => ?_)
              clear hK K
              (try simp only [List.foldl_cons, List.foldl_nil, Act.put, List.setIfInBounds_toArray, List.set_cons_zero, List.set_cons_succ])
              refine wpAnyH_ready (rs := [7]) (by kernel_rfl) (by simp) ?_
              refine AllReadyH.cons rfl (fun K hK => ?_) AllReadyH.nil
              · have cp : x12.cell? ⟨pb, 0, none⟩ = some (.slice none 0 0) := P12.out.cell 0
                have fp := P12.out.frozen 0
                have lp := P12.out.lt
                go_simp
                refine hK.out _ _ (KC.out _ (below_setS B12.out hpz _)) (fun hHeldZ => ?_)
                clear hK K
                (try simp only [List.foldl_cons, List.foldl_nil, Act.put, List.setIfInBounds_toArray, List.set_cons_zero, List.set_cons_succ])
                refine wpAnyH_done (by kernel_rfl) ?_ _
                go_wp2_with fail
                go_meet
                exact ⟨pb, _, rfl, rfl, hpz, Lib.hid (below_setS B12.out hpz _)⟩
      · go_simp
        obtain ⟨x14, hx14⟩ : ∃ x, x = x1.alloc (.cells #[.slice none 0 0] 28) := ⟨_, rfl⟩
        have hx : Below x1.heap.size x1 x14 := by rw [hx14]; exact (Below.refl _ _).alloc (Nat.le_refl _) _
        have P14 := Lib.hid (show Blk x14 x1.heap.size 28 #[.slice none 0 0] by rw [hx14]; exact Blk.new x1 28 _)
        have V114 := Lib.hid (V11.out.later hx)
        have B14 := Lib.hid (thenB B1.out hx)
        rw [← hx14]
        obtain ⟨pb, hpb⟩ : ∃ pb, pb = x1.heap.size := ⟨_, rfl⟩
        have hpz : W.heap.size ≤ pb := by rw [hpb]; exact B1.out.size
        rw [← hpb] at P14 ⊢
        clear hx hx14 hpb
        refine hK.out _ _ (KC.out _ B14.out) (fun hHeld14 => ?_)
        clear hK K
        (try simp only [List.foldl_cons, List.foldl_nil, Act.put, List.setIfInBounds_toArray, List.set_cons_zero, List.set_cons_succ])
        refine wpAnyH_ready (rs := [3]) (by kernel_rfl) (by simp) ?_
        refine AllReadyH.cons rfl (fun K hK => ?_) AllReadyH.nil
        · go_simp
          refine (NB.out _ B14.out).mono ?_
          rintro e x15 ⟨v, rfl, hv, hx⟩
          obtain ⟨X2, c2, rfl, _⟩ := hv.form
          have V215 := Lib.hid (hv.mono (B' := W.heap.size) B14.out.size)
          have V115 := Lib.hid (V114.out.later hx)
          have P15 := Lib.hid (P14.out.below hx P14.out.lt)
          have B15 := Lib.hid (thenB B14.out hx)
          clear hv hx
          refine hK.out _ _ (KC.out _ B15.out) (fun hHeld15 => ?_)
          clear hK K
          (try simp only [List.foldl_cons, List.foldl_nil, Act.put, List.setIfInBounds_toArray, List.set_cons_zero, List.set_cons_succ])
          refine wpAnyH_ready (rs := [4]) (by kernel_rfl) (by simp) ?_
          refine AllReadyH.cons rfl (fun K hK => ?_) AllReadyH.nil
          · go_simp
            obtain ⟨x16, hx16⟩ : ∃ x, x = x15.alloc (.cells #[.slice X1 N1.length c1, .slice X2 N2.length c2] 28) := ⟨_, rfl⟩
            have hx : Below x15.heap.size x15 x16 := by rw [hx16]; exact (Below.refl _ _).alloc (Nat.le_refl _) _
            have G16 := Lib.hid (show Blk x16 x15.heap.size 28 #[.slice X1 N1.length c1, .slice X2 N2.length c2] by rw [hx16]; exact Blk.new x15 28 _)
            have V116 := Lib.hid (V115.out.later hx)
            have P16 := Lib.hid (P15.out.below hx P15.out.lt)
            have V216 := Lib.hid (V215.out.later hx)
            have B16 := Lib.hid (thenB B15.out hx)
            rw [← hx16]
            obtain ⟨gb, hgb⟩ : ∃ gb, gb = x15.heap.size := ⟨_, rfl⟩
            rw [← hgb] at G16 ⊢
            clear hx hx16 hgb
            refine hK.out _ _ (KC.out _ B16.out) (fun hHeld16 => ?_)
            clear hK K
            (try simp only [List.foldl_cons, List.foldl_nil, Act.put, List.setIfInBounds_toArray, List.set_cons_zero, List.set_cons_succ])
            refine wpAnyH_ready (rs := [5]) (by kernel_rfl) (by simp) ?_
            refine AllReadyH.cons rfl (fun K hK => ?_) AllReadyH.nil
            · go_simp
              refine (concat_anyT (w0 := W) (by omega) (by omega) (G16.out.cell 0) (G16.out.cell 1) V116.out V216.out).mono ?_
              rintro e x17 ⟨v, rfl, hv, hx⟩
              obtain ⟨X3, c3, rfl, _⟩ := hv.form
              have V317 := Lib.hid (hv.mono (B' := W.heap.size) B16.out.size)
              have V117 := Lib.hid (V116.out.later hx)
              have P17 := Lib.hid (P16.out.below hx P16.out.lt)
              have V217 := Lib.hid (V216.out.later hx)
              have G17 := Lib.hid (G16.out.below hx G16.out.lt)
              have B17 := Lib.hid (thenB B16.out hx)
              clear hv hx
              refine hK.out _ _ (KC.out _ B17.out) (fun hHeld17 => ?_)
              clear hK K
              (try simp only [List.foldl_cons, List.foldl_nil, Act.put, List.setIfInBounds_toArray, List.set_cons_zero, List.set_cons_succ])
              refine wpAnyH_ready (rs := [7]) (by kernel_rfl) (by simp) ?_
              refine AllReadyH.cons rfl (fun K hK => ?_) AllReadyH.nil
              · have cp : x17.cell? ⟨pb, 0, none⟩ = some (.slice none 0 0) := P17.out.cell 0
                have fp := P17.out.frozen 0
                have lp := P17.out.lt
                go_simp
                refine hK.out _ _ (KC.out _ (below_setS B17.out hpz _)) (fun hHeldZ => ?_)
                clear hK K
                (try simp only [List.foldl_cons, List.foldl_nil, Act.put, List.setIfInBounds_toArray, List.set_cons_zero, List.set_cons_succ])
                refine wpAnyH_done (by kernel_rfl) ?_ _
                go_wp2_with fail
                go_meet
                exact ⟨pb, _, rfl, rfl, hpz, Lib.hid (below_setS B17.out hpz _)⟩
    · go_simp
      obtain ⟨x19, hx19⟩ : ∃ x, x = x0.alloc (.cells #[.slice none 0 0] 28) := ⟨_, rfl⟩
      have hx : Below x0.heap.size x0 x19 := by rw [hx19]; exact (Below.refl _ _).alloc (Nat.le_refl _) _
      have P19 := Lib.hid (show Blk x19 x0.heap.size 28 #[.slice none 0 0] by rw [hx19]; exact Blk.new x0 28 _)
      have B19 := Lib.hid (thenB BD.out hx)
      rw [← hx19]
      obtain ⟨pb, hpb⟩ : ∃ pb, pb = x0.heap.size := ⟨_, rfl⟩
      have hpz : W.heap.size ≤ pb := by rw [hpb]; exact BD.out.size
      rw [← hpb] at P19 ⊢
      clear hx hx19 hpb
      refine hK.out _ _ (KC.out _ B19.out) (fun hHeld19 => ?_)
      clear hK K
      (try simp only [List.foldl_cons, List.foldl_nil, Act.put, List.setIfInBounds_toArray, List.set_cons_zero, List.set_cons_succ])
      refine wpAnyH_ready (rs := [1]) (by kernel_rfl) (by simp) ?_
      refine AllReadyH.cons rfl (fun K hK => ?_) AllReadyH.nil
      · go_simp
        refine (NA.out _ B19.out).mono ?_
        rintro e x20 ⟨v, rfl, hv, hx⟩
        obtain ⟨X1, c1, rfl, _⟩ := hv.form
        have V120 := Lib.hid (hv.mono (B' := W.heap.size) B19.out.size)
        have P20 := Lib.hid (P19.out.below hx P19.out.lt)
        have B20 := Lib.hid (thenB B19.out hx)
        clear hv hx
        refine hK.out _ _ (KC.out _ B20.out) (fun hHeld20 => ?_)
        clear hK K
        (try simp only [List.foldl_cons, List.foldl_nil, Act.put, List.setIfInBounds_toArray, List.set_cons_zero, List.set_cons_succ])
        refine wpAnyH_ready (rs := [3]) (by kernel_rfl) (by simp) ?_
        refine AllReadyH.cons rfl (fun K hK => ?_) AllReadyH.nil
        · go_simp
          refine (NB.out _ B20.out).mono ?_
          rintro e x21 ⟨v, rfl, hv, hx⟩
          obtain ⟨X2, c2, rfl, _⟩ := hv.form
          have V221 := Lib.hid (hv.mono (B' := W.heap.size) B20.out.size)
          have P21 := Lib.hid (P20.out.below hx P20.out.lt)
          have V121 := Lib.hid (V120.out.later hx)
          have B21 := Lib.hid (thenB B20.out hx)
          clear hv hx
          refine hK.out _ _ (KC.out _ B21.out) (fun hHeld21 => ?_)
          clear hK K
          (try simp only [List.foldl_cons, List.foldl_nil, Act.put, List.setIfInBounds_toArray, List.set_cons_zero, List.set_cons_succ])
          refine wpAnyH_ready (rs := [4]) (by kernel_rfl) (by simp) ?_
          refine AllReadyH.cons rfl (fun K hK => ?_) AllReadyH.nil
          · go_simp
            obtain ⟨x22, hx22⟩ : ∃ x, x = x21.alloc (.cells #[.slice X1 N1.length c1, .slice X2 N2.length c2] 28) := ⟨_, rfl⟩
            have hx : Below x21.heap.size x21 x22 := by rw [hx22]; exact (Below.refl _ _).alloc (Nat.le_refl _) _
            have G22 := Lib.hid (show Blk x22 x21.heap.size 28 #[.slice X1 N1.length c1, .slice X2 N2.length c2] by rw [hx22]; exact Blk.new x21 28 _)
            have P22 := Lib.hid (P21.out.below hx P21.out.lt)
            have V122 := Lib.hid (V121.out.later hx)
            have V222 := Lib.hid (V221.out.later hx)
            have B22 := Lib.hid (thenB B21.out hx)
            rw [← hx22]
            obtain ⟨gb, hgb⟩ : ∃ gb, gb = x21.heap.size := ⟨_, rfl⟩
            rw [← hgb] at G22 ⊢
            clear hx hx22 hgb
            refine hK.out _ _ (KC.out _ B22.out) (fun hHeld22 => ?_)
            clear hK K
            (try simp only [List.foldl_cons, List.foldl_nil, Act.put, List.setIfInBounds_toArray, List.set_cons_zero, List.set_cons_succ])
            refine wpAnyH_ready (rs := [5]) (by kernel_rfl) (by simp) ?_
            refine AllReadyH.cons rfl (fun K hK => ?_) AllReadyH.nil
            · go_simp
              refine (concat_anyT (w0 := W) (by omega) (by omega) (G22.out.cell 0) (G22.out.cell 1) V122.out V222.out).mono ?_
              rintro e x23 ⟨v, rfl, hv, hx⟩
              obtain ⟨X3, c3, rfl, _⟩ := hv.form
              have V323 := Lib.hid (hv.mono (B' := W.heap.size) B22.out.size)
              have P23 := Lib.hid (P22.out.below hx P22.out.lt)
              have V123 := Lib.hid (V122.out.later hx)
              have V223 := Lib.hid (V222.out.later hx)
              have G23 := Lib.hid (G22.out.below hx G22.out.lt)
              have B23 := Lib.hid (thenB B22.out hx)
              clear hv hx
              refine hK.out _ _ (KC.out _ B23.out) (fun hHeld23 => ?_)
              clear hK K
              (try simp only [List.foldl_cons, List.foldl_nil, Act.put, List.setIfInBounds_toArray, List.set_cons_zero, List.set_cons_succ])
              refine wpAnyH_ready (rs := [7]) (by kernel_rfl) (by simp) ?_
              refine AllReadyH.cons rfl (fun K hK => ?_) AllReadyH.nil
              · have cp : x23.cell? ⟨pb, 0, none⟩ = some (.slice none 0 0) := P23.out.cell 0
                have fp := P23.out.frozen 0
                have lp := P23.out.lt
                go_simp
                refine hK.out _ _ (KC.out _ (below_setS B23.out hpz _)) (fun hHeldZ => ?_)
                clear hK K
                (try simp only [List.foldl_cons, List.foldl_nil, Act.put, List.setIfInBounds_toArray, List.set_cons_zero, List.set_cons_succ])
                refine wpAnyH_done (by kernel_rfl) ?_ _
                go_wp2_with fail
                go_meet
                exact ⟨pb, _, rfl, rfl, hpz, Lib.hid (below_setS B23.out hpz _)⟩
  case rest =>
  obtain ⟨pb, x, rfl, rfl, hpz, BX⟩ := hcut
  repeat' ((fail_if_success (with_reducible refine halt_at 3 ?_)); first | go_values | go_skip | go_guarded | go_step | go_upon | go_back | (simp only [Int.not_lt, Int.not_le] at *; go_simp) | (go_values <;> (try go_simp)) | (go_ite <;> go_prune <;> (try go_simp)) | (split <;> (first | (rename_i hx; exact (hx _ rfl).elim) | go_prune)))
  obtain ⟨y, hy⟩ : ∃ y, y = x.alloc (.cells #[.func (.func 76) #[] #[.pointer (some ⟨pb, 0, none⟩), .pointer (some ⟨w.heap.size, 0, none⟩), .pointer (some ⟨w.heap.size + 1, 0, none⟩)]] 57) := ⟨_, rfl⟩
  rw [← hy]
  have BY := Lib.hid (show Below W.heap.size W y by rw [hy]; exact BX.out.alloc BX.out.size _)
  have hkc := KC.out _ BY.out
  obtain ⟨_, cn, _⟩ := hkc
  have lcn := World.block_lt_of_cell? y ⟨w.heap.size + 1, 0, none⟩ cn
  simp only at lcn
  clear hy BX
  go_wp2_with fail
  refine (LI.out _ BY.out).mono ?_
  rintro e y2 ⟨v2, ps, rfl, hps, hen, h2⟩
  have B2 := Lib.hid (thenB BY.out h2)
  have E2 := Lib.hid hen.at_
  have EI := Lib.hid hen
  have HPS := Lib.hid hps
  have hpl : ps.length ≤ 60 := by
    have : (ps.map Prod.fst).length = (list now holes).length := by rw [hps]
    rw [List.length_map] at this
    omega
  have DE := Lib.hid (deleteE_none E2.out (by omega) 80 #[.pointer (some ⟨w.heap.size, 0, none⟩), .pointer (some ⟨w.heap.size + 1, 0, none⟩), .pointer (some ⟨x.heap.size, 0, none⟩)] (fun args w => by go_simp) (fun p hp w' hb' => by
    have hb2 := thenB B2.out hb'
    have hin : p.1 ∈ list now holes := by rw [← HPS.out]; exact List.mem_map_of_mem hp
    exact changedC_none (T1.out.below hb2) (T2.out.below hb2) HS2.out hx2 p.1 p.2 (HNL.out _ hin) (H0.out _ hin) _ _ _ (KC.out _ hb2).1 (KC.out _ hb2).2.1))
  obtain ⟨XA, xc, rfl, _⟩ := E2.out.row
  clear hps hen h2 cn lcn LI
  go_wp2_with fail
  refine DE.out.mono ?_
  rintro e y3 ⟨rfl, h3⟩
  have B3 := Lib.hid (thenB B2.out h3)
  have E3 := Lib.hid ((EI.out.below h3).mono (B' := w.heap.size) (by have := (thenB HB0.out BY.out).size; omega))
  clear h3 DE
  go_wp2_with fail
  go_ret
  exact ⟨_, ps, rfl, HPS.out, E3.out, thenB HB0.out B3.out⟩

end Go.Proofs.YtipajekehbpghaaGreatDoor
