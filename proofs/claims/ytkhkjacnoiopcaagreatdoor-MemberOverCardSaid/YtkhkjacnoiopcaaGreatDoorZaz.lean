/-
  isFilled: whether size, data and map of a member are valid.
-/
import Derived.Test.YtkhkjacnoiopcaaGreatDoorZam
import Derived.Test.YtkhkjacnoiopcaaGreatDoorZay
import Derived.Deep.RegionHeld3
import Derived.Deep.RegionWith
set_option linter.unusedVariables false
set_option linter.unusedSimpArgs false

set_option linter.unusedVariables false
set_option linter.unusedSimpArgs false
namespace Go.Proofs.YtkhkjacnoiopcaaGreatDoor
open Go.RowKit Go.Maps Tre Pk

theorem sizeI_right {ps : List (Int × Int)} {z : Int} (h : Hol.rightI ps z = true) : ∃ qs : List Hol.Pc, ps = qs.map Hol.castP ∧ Hol.Asc z.toNat 0 qs ∧ qs.length ≤ 20 ∧ sizeI ps = (Hol.size qs : Int) := by
  unfold Hol.rightI at h
  simp only [Bool.and_eq_true, decide_eq_true_eq] at h
  obtain ⟨⟨h0, h20⟩, hg⟩ := h
  have hz : z = ((z.toNat : Nat) : Int) := by omega
  rw [hz] at hg
  obtain ⟨qs, e, ha⟩ := Hol.right_asc z.toNat ps 0 hg
  refine ⟨qs, e, ha, ?_, ?_⟩
  · rw [e, List.length_map] at h20; exact h20
  · rw [e]; exact castP_size qs

set_option maxRecDepth 100000 in
set_option maxHeartbeats 8000000 in
theorem isFilled_any (e : Ent) (mv : Value) (w : World) (hp : Pcs w mv e.map) (hk : e.kind ≤ 255) (hd : e.data.length ≤ 140737488351232) (hl : e.map.length ≤ 1000000000000) (hz : e.size ≤ 9223372036854775807) :
    Calls Tryz.prog 52 #[ev e mv] w fun en w' => en = .returned (.bool (filled e)) ∧ Below w.heap.size w w' := by
  have B1 := Lib.hid ((Below.refl w.heap.size w).alloc (Nat.le_refl _) (.cells (evc e mv) 26))
  have SP0 := Lib.hid (fun w' (hb : Below w.heap.size w w') => sparse_any e mv w' (hp.below hb) hd hl)
  have HR0 := Lib.hid (fun w' (hb : Below w.heap.size w w') => hright_any mv e.map e.size w' (hp.below hb) hz)
  have SZ0 := Lib.hid (fun w' (hb : Below w.heap.size w w') (qs : List Hol.Pc) (h1 : e.map = qs.map Hol.castP) (h2 : qs.length ≤ 1000) (h3 : Hol.size qs ≤ 9223372036854775807) => size_any mv qs w' (by rw [← h1]; exact hp.below hb) h2 h3)
  have KB := Lib.hid (Blk.new w 26 (evc e mv))
  have hf : filled e = if e.kind = 48 then inR e.size 0 4000 && (!(sparse e) || (Hol.rightI e.map e.size && ((e.data.length : Int) == sizeI e.map))) else (e.size == 0) && (e.data == []) && e.map.isEmpty := rfl
  obtain ⟨r, hr⟩ : ∃ r, r = filled e := ⟨_, rfl⟩
  obtain ⟨sp, hsp⟩ : ∃ sp, sp = sparse e := ⟨_, rfl⟩
  rw [← hsp] at hf SP0
  rw [← hr] at hf ⊢
  obtain ⟨A, cap, rfl, _⟩ := hp
  obtain ⟨n, k, m1, m2, m3, z, s, na, l, u, g, mj, mn, d, mp⟩ := e
  unfold ev evc at SP0
  unfold evc at B1 KB
  unfold ev evc
  simp only at hf hk hd hl hz SP0 HR0 SZ0 KB B1 ⊢
  obtain ⟨len, hlen⟩ : ∃ len, len = mp.length := ⟨_, rfl⟩
  have hli : (mp.length : Int) ≤ 1000000000000 := by omega
  have hdi : ((bs d).size : Int) ≤ 140737488351232 := by rw [bs_size]; omega
  rw [← hlen] at hli SP0 HR0 SZ0 KB B1 ⊢
  have HF := Lib.hid hf
  have HLEN := Lib.hid hlen
  clear hf hr hsp hlen hl
  by_cases h48 : k = 48
  rotate_left
  · have e0 : ((k : Int) != 48) = true := by rw [bne_iff_ne]; omega
    have hf := HF.out
    rw [if_neg h48] at hf
    clear SP0 HR0 SZ0
    by_cases z0 : z = 0
    · by_cases d0 : d = []
      · have hde : (bs d).toList.isEmpty = true := by rw [List.isEmpty_iff]; exact (str_nil d).2 d0
        by_cases p0 : mp = []
        · have l0 : len = 0 := by rw [HLEN.out, p0]; rfl
          have er : r = true := by rw [hf, z0, d0, p0]; rfl
          subst er l0 z0
          clear hf HF p0 h48 d0
          go_enter Tryz.func52, Tryz.ntmps52
          go_wp2_with fail
          go_ret
          exact ⟨by first | rfl | (simp <;> omega), B1.out⟩
        · have l0 : ¬ (len : Int) = 0 := by have := List.length_pos_iff.2 p0; have := HLEN.out; omega
          have er : r = false := by rw [hf, z0, d0]; cases mp with | nil => exact absurd rfl p0 | cons => rfl
          subst er z0
          clear hf HF p0 h48 d0
          go_enter Tryz.func52, Tryz.ntmps52
          go_wp2_with fail
          go_ret
          exact ⟨by first | rfl | (simp <;> omega), B1.out⟩
      · have hde : (bs d).toList.isEmpty = false := by rw [← Bool.not_eq_true, List.isEmpty_iff]; exact fun e => d0 ((str_nil d).1 e)
        have er : r = false := by rw [hf, z0]; simp [d0]
        subst er z0
        clear hf HF h48 d0
        go_enter Tryz.func52, Tryz.ntmps52
        go_wp2_with fail
        go_ret
        exact ⟨by first | rfl | (simp <;> omega), B1.out⟩
    · have er : r = false := by rw [hf]; simp [z0]
      have zb : (z == 0) = false := beq_eq_false_iff_ne.2 z0
      subst er
      clear hf HF h48
      go_enter Tryz.func52, Tryz.ntmps52
      go_wp2_with fail
      go_ret
      exact ⟨by first | rfl | (simp <;> omega), B1.out⟩
  · have e0 : ((k : Int) != 48) = false := by rw [bne_eq_false_iff_eq]; omega
    have hf := HF.out
    rw [if_pos h48] at hf
    obtain ⟨bz, hbz⟩ : ∃ bz, bz = inR z 0 4000 := ⟨_, rfl⟩
    have MW := Lib.hid (fun w => mwithin_any z 0 4000 w)
    rw [← hbz] at hf MW
    have HBZ := Lib.hid hbz
    have HFF := Lib.hid hf
    obtain ⟨W, hW⟩ : ∃ W, W = w.alloc (.cells #[.string (bs n), .int .u8 k, .int .i64 m1, .int .i64 m2, .int .i64 m3, .int .i64 z, .int .i64 s, .int .i64 na, .string (bs l), .string (bs u), .string (bs g), .int .i64 mj, .int .i64 mn, .string (bs d), .slice A len cap] 26) := ⟨_, rfl⟩
    rw [← hW] at KB B1
    have HB1 := B1
    have k1 := KB.out.lt
    have bw := Below.refl W.heap.size W
    have KC := Lib.hid (fun w' (h : Below W.heap.size W w') => (show w'.cell? ⟨w.heap.size, 0, none⟩ = some (.string (bs n)) ∧ w'.cell? ⟨w.heap.size, 1, none⟩ = some (.int .u8 k) ∧ w'.cell? ⟨w.heap.size, 2, none⟩ = some (.int .i64 m1) ∧ w'.cell? ⟨w.heap.size, 3, none⟩ = some (.int .i64 m2) ∧ w'.cell? ⟨w.heap.size, 4, none⟩ = some (.int .i64 m3) ∧ w'.cell? ⟨w.heap.size, 5, none⟩ = some (.int .i64 z) ∧ w'.cell? ⟨w.heap.size, 6, none⟩ = some (.int .i64 s) ∧ w'.cell? ⟨w.heap.size, 7, none⟩ = some (.int .i64 na) ∧ w'.cell? ⟨w.heap.size, 8, none⟩ = some (.string (bs l)) ∧ w'.cell? ⟨w.heap.size, 9, none⟩ = some (.string (bs u)) ∧ w'.cell? ⟨w.heap.size, 10, none⟩ = some (.string (bs g)) ∧ w'.cell? ⟨w.heap.size, 11, none⟩ = some (.int .i64 mj) ∧ w'.cell? ⟨w.heap.size, 12, none⟩ = some (.int .i64 mn) ∧ w'.cell? ⟨w.heap.size, 13, none⟩ = some (.string (bs d)) ∧ w'.cell? ⟨w.heap.size, 14, none⟩ = some (.slice A len cap) ∧ Below W.heap.size W w' from ⟨(KB.out.below h k1).cell 0, (KB.out.below h k1).cell 1, (KB.out.below h k1).cell 2, (KB.out.below h k1).cell 3, (KB.out.below h k1).cell 4, (KB.out.below h k1).cell 5, (KB.out.below h k1).cell 6, (KB.out.below h k1).cell 7, (KB.out.below h k1).cell 8, (KB.out.below h k1).cell 9, (KB.out.below h k1).cell 10, (KB.out.below h k1).cell 11, (KB.out.below h k1).cell 12, (KB.out.below h k1).cell 13, (KB.out.below h k1).cell 14, h⟩))
    have kc := KC.out W bw
    obtain ⟨q0, q1, q2, q3, q4, q5, q6, q7, q8, q9, q10, q11, q12, q13, q14, _⟩ := kc
    have SPC := Lib.hid (fun w' (hb : Below W.heap.size W w') => SP0.out w' (thenB B1.out hb))
    have HW := Lib.hid hW
    clear hf HF h48 hbz SP0 hW
    go_enter Tryz.func52, Tryz.ntmps52
    go_wp2_with fail
    rw [← HW.out]
    refine (MW.out _).mono ?_
    rintro e w' ⟨rfl, hw⟩
    subst w'
    cases bz with
    | false =>
      have er : r = false := by rw [HFF.out]; rfl
      subst er
      go_wp2_with fail
      go_ret
      exact ⟨by first | rfl | (simp <;> omega), HB1.out⟩
    | true =>
      cases sp with
      | false =>
        have er : r = true := by rw [HFF.out]; rfl
        subst er
        repeat' ((fail_if_success (with_reducible refine halt_at 5 ?_)); first | go_values | go_skip | go_guarded | go_step | go_upon | go_back | (simp only [Int.not_lt, Int.not_le] at *; go_simp) | (go_values <;> (try go_simp)) | (go_ite <;> go_prune <;> (try go_simp)) | (split <;> (first | (rename_i hx; exact (hx _ rfl).elim) | go_prune)))
        refine wp_region_any (by kernel_rfl) ?_
        change wpAny _ _ _ _ _ _ _ (World.drew _)
        refine wpAny_ready (rs := [0]) (by kernel_rfl) (by simp) ?_; refine AllReady.cons rfl (fun K hK => ?_) AllReady.nil; go_simp; refine hK _ _ ?_; clear hK K; (try simp only [Act.put, List.setIfInBounds_toArray, List.set_cons_zero, List.set_cons_succ])
        refine wpAny_ready (rs := [1]) (by kernel_rfl) (by simp) ?_
        refine AllReady.cons rfl (fun K hK => ?_) AllReady.nil
        go_simp
        refine (SPC.out _ (Below.drew bw)).mono ?_
        rintro e wt ⟨rfl, TT⟩
        have TB : Below W.heap.size W wt := (thenB (Below.drew bw) TT)
        refine hK _ _ ?_
        clear hK K
        refine wpAny_ready (rs := [2]) (by kernel_rfl) (by simp) ?_; refine AllReady.cons rfl (fun K hK => ?_) AllReady.nil; go_simp; refine hK _ _ ?_; clear hK K; (try simp only [Act.put, List.setIfInBounds_toArray, List.set_cons_zero, List.set_cons_succ])
        refine wpAny_ready (rs := [3]) (by kernel_rfl) (by simp) ?_; refine AllReady.cons rfl (fun K hK => ?_) AllReady.nil; go_simp; refine hK _ _ ?_; clear hK K; (try simp only [Act.put, List.setIfInBounds_toArray, List.set_cons_zero, List.set_cons_succ])
        refine wpAny_skips_of (ds := [some 28, some 29, some 30, some 31, some 32, some 33, some 34, some 35, some 36, some 37, some 38, some 39, some 40, some 41]) (listed' := #[true, true, true, true, true, true, true, true, true, true, true, true, true, true, true, true, true, true, false, false]) (fuel := 2) [4, 5, 6, 7, 8, 9, 10, 11, 12, 13, 14, 15, 16, 17] [(3, some true)] (by kernel_rfl) (by kernel_rfl) (by kernel_rfl) (by kernel_rfl) (by kernel_rfl) (by intro c a d v w h; cases d <;> exact h) (by intro p hp; rcases List.mem_singleton.1 hp with rfl; rfl) ?_; (try simp only [List.foldl_cons, List.foldl_nil, Act.put, List.setIfInBounds_toArray, List.set_cons_zero, List.set_cons_succ])
        refine wpAny_ready (rs := [18]) (by kernel_rfl) (by simp) ?_; refine AllReady.cons rfl (fun K hK => ?_) AllReady.nil; go_simp; refine hK _ _ ?_; clear hK K; (try simp only [Act.put, List.setIfInBounds_toArray, List.set_cons_zero, List.set_cons_succ])
        refine wpAny_ready (rs := [19]) (by kernel_rfl) (by simp) ?_; refine AllReady.cons rfl (fun K hK => ?_) AllReady.nil; go_simp; refine hK _ _ ?_; clear hK K; (try simp only [Act.put, List.setIfInBounds_toArray, List.set_cons_zero, List.set_cons_succ])
        refine wpAny_done (by kernel_rfl) ?_ _
        go_wp2_with fail
        go_ret
        exact ⟨by first | rfl | (simp <;> omega), thenB HB1.out TB⟩
      | true =>
        obtain ⟨q, hq⟩ : ∃ q, q = Hol.rightI mp z := ⟨_, rfl⟩
        have HRC := Lib.hid (fun w' (hb : Below W.heap.size W w') => HR0.out w' (thenB B1.out hb))
        rw [← hq] at HRC
        have HQ := Lib.hid hq
        clear hq
        cases q with
        | false =>
          have er : r = false := by rw [HFF.out, ← HQ.out]; rfl
          subst er
          repeat' ((fail_if_success (with_reducible refine halt_at 5 ?_)); first | go_values | go_skip | go_guarded | go_step | go_upon | go_back | (simp only [Int.not_lt, Int.not_le] at *; go_simp) | (go_values <;> (try go_simp)) | (go_ite <;> go_prune <;> (try go_simp)) | (split <;> (first | (rename_i hx; exact (hx _ rfl).elim) | go_prune)))
          refine wp_region_any (by kernel_rfl) ?_
          change wpAny _ _ _ _ _ _ _ (World.drew _)
          refine wpAny_ready (rs := [0]) (by kernel_rfl) (by simp) ?_; refine AllReady.cons rfl (fun K hK => ?_) AllReady.nil; go_simp; refine hK _ _ ?_; clear hK K; (try simp only [Act.put, List.setIfInBounds_toArray, List.set_cons_zero, List.set_cons_succ])
          refine wpAny_ready (rs := [1]) (by kernel_rfl) (by simp) ?_
          refine AllReady.cons rfl (fun K hK => ?_) AllReady.nil
          go_simp
          refine (SPC.out _ (Below.drew bw)).mono ?_
          rintro e wt ⟨rfl, TT⟩
          have TB : Below W.heap.size W wt := (thenB (Below.drew bw) TT)
          have kt := KC.out _ TB
          obtain ⟨x0, x1, x2, x3, x4, x5, x6, x7, x8, x9, x10, x11, x12, x13, x14, _⟩ := kt
          refine hK _ _ ?_
          clear hK K
          refine wpAny_ready (rs := [2]) (by kernel_rfl) (by simp) ?_; refine AllReady.cons rfl (fun K hK => ?_) AllReady.nil; go_simp; refine hK _ _ ?_; clear hK K; (try simp only [Act.put, List.setIfInBounds_toArray, List.set_cons_zero, List.set_cons_succ])
          refine wpAny_ready (rs := [3]) (by kernel_rfl) (by simp) ?_; refine AllReady.cons rfl (fun K hK => ?_) AllReady.nil; go_simp; refine hK _ _ ?_; clear hK K; (try simp only [Act.put, List.setIfInBounds_toArray, List.set_cons_zero, List.set_cons_succ])
          refine wpAny_take (i := 4) (v := .pointer <| some ⟨w.heap.size, 14, none⟩) rfl (by kernel_rfl) (by kernel_rfl) (by kernel_rfl) (fun _ _ _ h => h) (Or.inl ⟨by rfl, by intro w; go_simp⟩) ?_; (try simp only [Act.put, List.setIfInBounds_toArray, List.set_cons_zero, List.set_cons_succ])
          refine wpAny_take (i := 6) (v := .pointer <| some ⟨w.heap.size, 5, none⟩) rfl (by kernel_rfl) (by kernel_rfl) (by kernel_rfl) (fun _ _ _ h => h) (Or.inl ⟨by rfl, by intro w; go_simp⟩) ?_; (try simp only [Act.put, List.setIfInBounds_toArray, List.set_cons_zero, List.set_cons_succ])
          refine wpAny_ready (rs := [5, 7]) (by kernel_rfl) (by simp) ?_
          refine AllReady.cons rfl (fun K hK => ?_) (AllReady.cons rfl (fun K hK => ?_) AllReady.nil)
          focus
            go_simp
            refine hK _ _ ?_
            clear hK K
            (try simp only [Act.put, List.setIfInBounds_toArray, List.set_cons_zero, List.set_cons_succ])
            refine wpAny_ready (rs := [7]) (by kernel_rfl) (by simp) ?_; refine AllReady.cons rfl (fun K hK => ?_) AllReady.nil; go_simp; refine hK _ _ ?_; clear hK K; (try simp only [Act.put, List.setIfInBounds_toArray, List.set_cons_zero, List.set_cons_succ])
          rotate_left
          focus
            go_simp
            refine hK _ _ ?_
            clear hK K
            (try simp only [Act.put, List.setIfInBounds_toArray, List.set_cons_zero, List.set_cons_succ])
            refine wpAny_ready (rs := [5]) (by kernel_rfl) (by simp) ?_; refine AllReady.cons rfl (fun K hK => ?_) AllReady.nil; go_simp; refine hK _ _ ?_; clear hK K; (try simp only [Act.put, List.setIfInBounds_toArray, List.set_cons_zero, List.set_cons_succ])
          all_goals
            refine wpAny_ready (rs := [8]) (by kernel_rfl) (by simp) ?_
            refine AllReady.cons rfl (fun K hK => ?_) AllReady.nil
            go_simp
            refine (HRC.out _ TB).mono ?_
            rintro e wu ⟨rfl, TU⟩
            have TB2 : Below W.heap.size W wu := (thenB TB TU)
            refine hK _ _ ?_
            clear hK K
            refine wpAny_ready (rs := [9]) (by kernel_rfl) (by simp) ?_; refine AllReady.cons rfl (fun K hK => ?_) AllReady.nil; go_simp; refine hK _ _ ?_; clear hK K; (try simp only [Act.put, List.setIfInBounds_toArray, List.set_cons_zero, List.set_cons_succ])
            refine wpAny_skips_of (ds := [some 34, some 35, some 36, some 37, some 38, some 39, some 40]) (listed' := #[true, true, true, true, true, true, true, true, true, true, true, true, true, true, true, true, true, false, false, false]) (fuel := 3) [10, 11, 12, 13, 14, 15, 16] [(9, some false)] (by kernel_rfl) (by kernel_rfl) (by kernel_rfl) (by kernel_rfl) (by kernel_rfl) (by intro c a d v w h; cases d <;> exact h) (by intro p hp; rcases List.mem_singleton.1 hp with rfl; rfl) ?_; (try simp only [List.foldl_cons, List.foldl_nil, Act.put, List.setIfInBounds_toArray, List.set_cons_zero, List.set_cons_succ])
            refine wpAny_ready (rs := [17]) (by kernel_rfl) (by simp) ?_; refine AllReady.cons rfl (fun K hK => ?_) AllReady.nil; go_simp; refine hK _ _ ?_; clear hK K; (try simp only [Act.put, List.setIfInBounds_toArray, List.set_cons_zero, List.set_cons_succ])
            refine wpAny_ready (rs := [18]) (by kernel_rfl) (by simp) ?_; refine AllReady.cons rfl (fun K hK => ?_) AllReady.nil; go_simp; refine hK _ _ ?_; clear hK K; (try simp only [Act.put, List.setIfInBounds_toArray, List.set_cons_zero, List.set_cons_succ])
            refine wpAny_ready (rs := [19]) (by kernel_rfl) (by simp) ?_; refine AllReady.cons rfl (fun K hK => ?_) AllReady.nil; go_simp; refine hK _ _ ?_; clear hK K; (try simp only [Act.put, List.setIfInBounds_toArray, List.set_cons_zero, List.set_cons_succ])
            refine wpAny_done (by kernel_rfl) ?_ _
            go_wp2_with fail
            go_ret
            exact ⟨by first | rfl | (simp <;> omega), thenB HB1.out TB2⟩
        | true =>
          obtain ⟨qs, c1, c2, c3, c4⟩ := sizeI_right HQ.out.symm
          have hzb : z ≤ 4000 := by
            have := HBZ.out
            unfold inR at this
            simp at this
            exact this.2
          have c5 := Hol.asc_size z.toNat qs 0 c2 (by omega)
          have SZC := Lib.hid (fun w' (hb : Below W.heap.size W w') => SZ0.out w' (thenB B1.out hb) qs c1 (by omega) (by omega))
          obtain ⟨y, hy⟩ : ∃ y, y = Hol.size qs := ⟨_, rfl⟩
          rw [← hy] at SZC c4 c5
          have hyi : (y : Int) ≤ 4001 := by omega
          have HC4 := Lib.hid c4
          clear c1 c2 c3 c4 c5 hy
          by_cases hdy : d.length = y
          · have er : r = true := by rw [HFF.out, ← HQ.out, HC4.out, hdy]; simp
            have e1 : ((bs d).size : Int) = y := by rw [bs_size]; omega
            have e2 : (((bs d).size : Int) == (y : Int)) = true := beq_iff_eq.2 e1
            subst er
            clear hdy
            repeat' ((fail_if_success (with_reducible refine halt_at 5 ?_)); first | go_values | go_skip | go_guarded | go_step | go_upon | go_back | (simp only [Int.not_lt, Int.not_le] at *; go_simp) | (go_values <;> (try go_simp)) | (go_ite <;> go_prune <;> (try go_simp)) | (split <;> (first | (rename_i hx; exact (hx _ rfl).elim) | go_prune)))
            go_region_held3 (fun w' => w'.cell? ⟨w.heap.size, 0, none⟩ = some (.string (bs n)) ∧ w'.cell? ⟨w.heap.size, 1, none⟩ = some (.int .u8 k) ∧ w'.cell? ⟨w.heap.size, 2, none⟩ = some (.int .i64 m1) ∧ w'.cell? ⟨w.heap.size, 3, none⟩ = some (.int .i64 m2) ∧ w'.cell? ⟨w.heap.size, 4, none⟩ = some (.int .i64 m3) ∧ w'.cell? ⟨w.heap.size, 5, none⟩ = some (.int .i64 z) ∧ w'.cell? ⟨w.heap.size, 6, none⟩ = some (.int .i64 s) ∧ w'.cell? ⟨w.heap.size, 7, none⟩ = some (.int .i64 na) ∧ w'.cell? ⟨w.heap.size, 8, none⟩ = some (.string (bs l)) ∧ w'.cell? ⟨w.heap.size, 9, none⟩ = some (.string (bs u)) ∧ w'.cell? ⟨w.heap.size, 10, none⟩ = some (.string (bs g)) ∧ w'.cell? ⟨w.heap.size, 11, none⟩ = some (.int .i64 mj) ∧ w'.cell? ⟨w.heap.size, 12, none⟩ = some (.int .i64 mn) ∧ w'.cell? ⟨w.heap.size, 13, none⟩ = some (.string (bs d)) ∧ w'.cell? ⟨w.heap.size, 14, none⟩ = some (.slice A len cap) ∧ Below W.heap.size W w') (first | (go_split_ands; refine KC.out _ ?_; first | with_reducible assumption | with_reducible exact Below.drew bw)) (first | (go_at_call 38; go_split_ands; refine (SPC.out _ (by with_reducible assumption)).mono ?_; rintro e wt ⟨rfl, TT⟩; have TB : Below W.heap.size W wt := (by with_reducible exact thenB (by assumption) TT)) | (go_at_call 96; go_split_ands; refine (HRC.out _ (by with_reducible assumption)).mono ?_; rintro e wu ⟨rfl, TU⟩; have TB2 : Below W.heap.size W wu := (by with_reducible exact thenB (by assumption) TU)) | (go_at_call 97; go_split_ands; refine (SZC.out _ (by with_reducible assumption)).mono ?_; rintro e wv ⟨rfl, TV⟩; have TB3 : Below W.heap.size W wv := (by with_reducible exact thenB (by assumption) TV)) | fail)
            all_goals go_wp2_with fail
            all_goals go_ret
            all_goals exact ⟨by first | rfl | (simp <;> omega), by first | exact thenB HB1.out TB3 | exact thenB HB1.out TB2 | exact thenB HB1.out TB⟩
          · have er : r = false := by rw [HFF.out, ← HQ.out, HC4.out]; simp; omega
            have e1 : ¬ ((bs d).size : Int) = y := by rw [bs_size]; omega
            have e2 : (((bs d).size : Int) == (y : Int)) = false := beq_eq_false_iff_ne.2 e1
            subst er
            clear hdy
            repeat' ((fail_if_success (with_reducible refine halt_at 5 ?_)); first | go_values | go_skip | go_guarded | go_step | go_upon | go_back | (simp only [Int.not_lt, Int.not_le] at *; go_simp) | (go_values <;> (try go_simp)) | (go_ite <;> go_prune <;> (try go_simp)) | (split <;> (first | (rename_i hx; exact (hx _ rfl).elim) | go_prune)))
            go_region_held3 (fun w' => w'.cell? ⟨w.heap.size, 0, none⟩ = some (.string (bs n)) ∧ w'.cell? ⟨w.heap.size, 1, none⟩ = some (.int .u8 k) ∧ w'.cell? ⟨w.heap.size, 2, none⟩ = some (.int .i64 m1) ∧ w'.cell? ⟨w.heap.size, 3, none⟩ = some (.int .i64 m2) ∧ w'.cell? ⟨w.heap.size, 4, none⟩ = some (.int .i64 m3) ∧ w'.cell? ⟨w.heap.size, 5, none⟩ = some (.int .i64 z) ∧ w'.cell? ⟨w.heap.size, 6, none⟩ = some (.int .i64 s) ∧ w'.cell? ⟨w.heap.size, 7, none⟩ = some (.int .i64 na) ∧ w'.cell? ⟨w.heap.size, 8, none⟩ = some (.string (bs l)) ∧ w'.cell? ⟨w.heap.size, 9, none⟩ = some (.string (bs u)) ∧ w'.cell? ⟨w.heap.size, 10, none⟩ = some (.string (bs g)) ∧ w'.cell? ⟨w.heap.size, 11, none⟩ = some (.int .i64 mj) ∧ w'.cell? ⟨w.heap.size, 12, none⟩ = some (.int .i64 mn) ∧ w'.cell? ⟨w.heap.size, 13, none⟩ = some (.string (bs d)) ∧ w'.cell? ⟨w.heap.size, 14, none⟩ = some (.slice A len cap) ∧ Below W.heap.size W w') (first | (go_split_ands; refine KC.out _ ?_; first | with_reducible assumption | with_reducible exact Below.drew bw)) (first | (go_at_call 38; go_split_ands; refine (SPC.out _ (by with_reducible assumption)).mono ?_; rintro e wt ⟨rfl, TT⟩; have TB : Below W.heap.size W wt := (by with_reducible exact thenB (by assumption) TT)) | (go_at_call 96; go_split_ands; refine (HRC.out _ (by with_reducible assumption)).mono ?_; rintro e wu ⟨rfl, TU⟩; have TB2 : Below W.heap.size W wu := (by with_reducible exact thenB (by assumption) TU)) | (go_at_call 97; go_split_ands; refine (SZC.out _ (by with_reducible assumption)).mono ?_; rintro e wv ⟨rfl, TV⟩; have TB3 : Below W.heap.size W wv := (by with_reducible exact thenB (by assumption) TV)) | fail)
            all_goals go_wp2_with fail
            all_goals go_ret
            all_goals exact ⟨by first | rfl | (simp <;> omega), by first | exact thenB HB1.out TB3 | exact thenB HB1.out TB2 | exact thenB HB1.out TB⟩

end Go.Proofs.YtkhkjacnoiopcaaGreatDoor
