/-
  member.Read at a member of Ustar; the fact told.
-/
import Derived.Test.YtkhkjacnoiopcaaGreatDoorZbh
import Derived.Test.YtkhkjacnoiopcaaGreatDoorZbj
import Derived.Test.YtkhkjacnoiopcaaGreatDoorZbk
import Derived.Test.YtkhkjacnoiopcaaGreatDoorZbm
set_option linter.unusedVariables false
set_option linter.unusedSimpArgs false

set_option linter.unusedVariables false
set_option linter.unusedSimpArgs false
namespace Go.Proofs.YtkhkjacnoiopcaaGreatDoor
open Go.RowKit Tre Pk

/-- Read at a member of Ustar, whatever records count for all. -/
theorem read_ustar {W : World} {s : Bl} {off : Nat} {gv : Value} {g : List Px.Rec} {e : Ent} {m : Bl} (hg : PairsIn W gv g) (hgn : g = [] → ∃ n c, gv = .slice none n c) (hEnv : PxEnv W) (hEr : ErrT W) (hs : s.length ≤ 100000000) (hgl : g.length ≤ 1000)
    (hr : rightE e = true) (hm : oldM 2 e = some m) (hh : Here s off m)
    {e1 : Ent} (hap : applyP (recsP ⟨off, none, none, [], g⟩) { e with name := nameM e, data := [], map := [] } = some e1) (hk : e1.kind = e.kind) (hmap : e1.map = []) (hnl : e1.name.length ≤ 1000000) (hsz : e1.size = e.size) (hno : (Px.getV (recsP ⟨off, none, none, [], g⟩) kMajor).1 ≠ [49]) :
    Calls Tryz.prog 20 #[.string (bs s), .int .i64 (off : Nat), gv] W fun x w' => ((rightE (settledP { e1 with data := e.data }) = true ∧ ∃ v', HasR w' W.heap.size v' g ∧ x = .returned (.tuple #[ev (settledP { e1 with data := e.data }) (.slice none 0 0), .int .i64 ((off + m.length : Nat) : Int), v', .nilIface])) ∨
      (rightE (settledP { e1 with data := e.data }) = false ∧ ∃ p, x = .returned (.tuple #[.agg #[.string ⟨#[]⟩, .int .u8 0, .int .i64 0, .int .i64 0, .int .i64 0, .int .i64 0, .int .i64 0, .int .i64 0, .string ⟨#[]⟩, .string ⟨#[]⟩, .string ⟨#[]⟩, .int .i64 0, .int .i64 0, .string ⟨#[]⟩, .slice none 0 0], .int .i64 0, .slice none 0 0, .iface 106 (.pointer (some ⟨p, 0, none⟩))]))) ∧ Below W.heap.size W w' := by
  obtain ⟨r, h1, h2, h3, h4, h5, h6, h7, h8, h9, h10, h11⟩ := old_facts g hr hm hh
  have hd := right_data hr
  have hkk := (right_facts hr).1
  rw [← h8]
  exact read_own hg hgn hEnv hEr hs hgl r h1 h2 h3 h4 (by rw [h7]; exact hap) (by omega) hmap hnl (by omega) h6 (fun h => hno h.2) (by omega) (by omega)

theorem pcs_none0 (w : World) : Pcs w (.slice none 0 0) [] := ⟨none, 0, rfl, fun j hj => absurd hj (by simp)⟩
theorem pairs_none0 (w : World) : PairsIn w (.slice none 0 0) [] := ⟨none, 0, rfl, Nat.le_refl _, Nat.zero_le _, fun _ h => absurd h (by simp), .inl rfl⟩
theorem told_came (w : World) : Came w toldE (.slice none 0 0) := ⟨by decide, by decide, by decide, by decide, by decide, by decide, by decide, by decide, pcs_none0 w⟩
theorem two_old {e : Ent} {m : Bl} (h : memM 2 e = some m) : rightE e = true ∧ oldM 2 e = some m := by
  unfold memM at h
  split at h
  · cases h
  rename_i hr
  rw [if_neg (by decide), if_neg (by decide)] at h
  exact ⟨by cases hx : rightE e <;> simp_all, h⟩
theorem told_same : settledP { ({ toldE with name := nameM toldE, data := [], map := [] } : Ent) with data := toldE.data } = toldE := by decide

set_option maxRecDepth 100000 in
set_option maxHeartbeats 8000000 in
theorem told_any (w : World) (hEnv : PxEnv w) (hEr : ErrT w) : Calls Tryz.prog 15 #[] w fun r w' => r = .returned (.bool true) ∧ Below w.heap.size w w' := by
  obtain ⟨m, hm, hml⟩ := told_some
  obtain ⟨hr, hm2⟩ := two_old hm
  have WT := Lib.hid (show ∀ w', Calls Tryz.prog 18 #[.int .i64 2, .agg #[.string ⟨#[97]⟩, .int .u8 48, .int .i64 420, .int .i64 0, .int .i64 0, .int .i64 2, .int .i64 5, .int .i64 0, .string ⟨#[]⟩, .string ⟨#[]⟩, .string ⟨#[]⟩, .int .i64 0, .int .i64 0, .string ⟨#[104, 105]⟩, .slice none 0 0]] w' (WPost (some m) w') from fun w' => by rw [← hm]; exact write_two toldE (.slice none 0 0) w' (told_came w') (by decide))
  have RDT := Lib.hid (show ∀ w', Below w.heap.size w w' → Calls Tryz.prog 20 #[.string (bs m), .int .i64 0, .slice none 0 0] w' fun x w'' => (∃ v', x = .returned (.tuple #[.agg #[.string ⟨#[97]⟩, .int .u8 48, .int .i64 420, .int .i64 0, .int .i64 0, .int .i64 2, .int .i64 5, .int .i64 0, .string ⟨#[]⟩, .string ⟨#[]⟩, .string ⟨#[]⟩, .int .i64 0, .int .i64 0, .string ⟨#[104, 105]⟩, .slice none 0 0], .int .i64 1024, v', .nilIface])) ∧ Below w'.heap.size w' w'' from fun w' hb => by
    have h := read_ustar (pairs_none0 w') (fun _ => ⟨0, 0, rfl⟩) (EnvB.px (E := w.heap.size) ⟨w, hEnv, hb, Nat.le_refl _⟩) (hEr.below hb) (by omega) (by simp) hr hm2 (off := 0) (s := m) ⟨by unfold fld; simp, by omega⟩ (e1 := { toldE with name := nameM toldE, data := [], map := [] }) (by rw [recs_none]; rfl) rfl rfl (by decide) rfl (by rw [recs_none]; decide)
    rw [told_same, told_right, Nat.zero_add, hml] at h
    refine h.mono ?_
    rintro x w'' ⟨⟨_, v', _, rfl⟩ | ⟨h, _⟩, hb⟩
    · exact ⟨⟨v', rfl⟩, hb⟩
    · cases h)
  have SAM := Lib.hid (show ∀ w', Calls Tryz.prog 19 #[.agg #[.string ⟨#[97]⟩, .int .u8 48, .int .i64 420, .int .i64 0, .int .i64 0, .int .i64 2, .int .i64 5, .int .i64 0, .string ⟨#[]⟩, .string ⟨#[]⟩, .string ⟨#[]⟩, .int .i64 0, .int .i64 0, .string ⟨#[104, 105]⟩, .slice none 0 0], .agg #[.string ⟨#[97]⟩, .int .u8 48, .int .i64 420, .int .i64 0, .int .i64 0, .int .i64 2, .int .i64 5, .int .i64 0, .string ⟨#[]⟩, .string ⟨#[]⟩, .string ⟨#[]⟩, .int .i64 0, .int .i64 0, .string ⟨#[104, 105]⟩, .slice none 0 0]] w' fun r w'' => r = .returned (.bool true) ∧ Below w'.heap.size w' w'' from fun w' => sameF_any toldE toldE (.slice none 0 0) (.slice none 0 0) w' (pcs_none0 w') (pcs_none0 w') (by decide) (by decide))
  have R1 := Lib.hid (show ∀ w', Calls Tryz.prog 21 #[.agg #[.string ⟨#[97]⟩, .int .u8 48, .int .i64 420, .int .i64 0, .int .i64 0, .int .i64 2, .int .i64 5, .int .i64 0, .string ⟨#[]⟩, .string ⟨#[]⟩, .string ⟨#[]⟩, .int .i64 0, .int .i64 0, .string ⟨#[104, 105]⟩, .slice none 0 0]] w' fun r w'' => r = .returned (.bool true) ∧ Below w'.heap.size w' w'' from fun w' => memRight_any toldE (.slice none 0 0) w' (pcs_none0 w') (by decide) (by decide) (by decide) (by decide) (by decide))
  have R0 := Lib.hid (show ∀ w', Calls Tryz.prog 21 #[.agg #[.string ⟨#[]⟩, .int .u8 0, .int .i64 0, .int .i64 0, .int .i64 0, .int .i64 0, .int .i64 0, .int .i64 0, .string ⟨#[]⟩, .string ⟨#[]⟩, .string ⟨#[]⟩, .int .i64 0, .int .i64 0, .string ⟨#[]⟩, .slice none 0 0]] w' fun r w'' => r = .returned (.bool false) ∧ Below w'.heap.size w' w'' from fun w' => memRight_any zeroE (.slice none 0 0) w' (pcs_none0 w') (by decide) (by decide) (by decide) (by decide) (by decide))
  have hz : ((bs m).size : Int) = 1024 := by rw [bs_size, hml]; rfl
  obtain ⟨S, hS⟩ : ∃ S, S = bs m := ⟨_, rfl⟩
  rw [← hS] at hz RDT
  have HS := Lib.hid hS
  clear hm hml hr hm2 hEnv hEr hS
  obtain ⟨W0, hW0⟩ : ∃ W0, W0 = w.alloc (.cells #[.string ⟨#[97]⟩, .int .u8 48, .int .i64 420, .int .i64 0, .int .i64 0, .int .i64 2, .int .i64 5, .int .i64 0, .string ⟨#[]⟩, .string ⟨#[]⟩, .string ⟨#[]⟩, .int .i64 0, .int .i64 0, .string ⟨#[104, 105]⟩, .slice none 0 0] 26) := ⟨_, rfl⟩
  have HB0 := Lib.hid (show Below w.heap.size w W0 by rw [hW0]; exact (Below.refl _ _).alloc (Nat.le_refl _) _)
  have KE0 := Lib.hid (show Blk W0 w.heap.size 26 #[.string ⟨#[97]⟩, .int .u8 48, .int .i64 420, .int .i64 0, .int .i64 0, .int .i64 2, .int .i64 5, .int .i64 0, .string ⟨#[]⟩, .string ⟨#[]⟩, .string ⟨#[]⟩, .int .i64 0, .int .i64 0, .string ⟨#[104, 105]⟩, .slice none 0 0] by rw [hW0]; exact Blk.new w 26 _)
  have HW0 := Lib.hid hW0
  obtain ⟨E, hE⟩ : ∃ E, E = w.heap.size := ⟨_, rfl⟩
  have HE := Lib.hid hE
  rw [← hE] at KE0
  clear hW0 hE
  have c0 : W0.cell? ⟨E, 0, none⟩ = some (.string ⟨#[97]⟩) := KE0.out.cell 0
  have c1 : W0.cell? ⟨E, 1, none⟩ = some (.int .u8 48) := KE0.out.cell 1
  have c2 : W0.cell? ⟨E, 2, none⟩ = some (.int .i64 420) := KE0.out.cell 2
  have c3 : W0.cell? ⟨E, 3, none⟩ = some (.int .i64 0) := KE0.out.cell 3
  have c4 : W0.cell? ⟨E, 4, none⟩ = some (.int .i64 0) := KE0.out.cell 4
  have c5 : W0.cell? ⟨E, 5, none⟩ = some (.int .i64 2) := KE0.out.cell 5
  have c6 : W0.cell? ⟨E, 6, none⟩ = some (.int .i64 5) := KE0.out.cell 6
  have c7 : W0.cell? ⟨E, 7, none⟩ = some (.int .i64 0) := KE0.out.cell 7
  have c8 : W0.cell? ⟨E, 8, none⟩ = some (.string ⟨#[]⟩) := KE0.out.cell 8
  have c9 : W0.cell? ⟨E, 9, none⟩ = some (.string ⟨#[]⟩) := KE0.out.cell 9
  have c10 : W0.cell? ⟨E, 10, none⟩ = some (.string ⟨#[]⟩) := KE0.out.cell 10
  have c11 : W0.cell? ⟨E, 11, none⟩ = some (.int .i64 0) := KE0.out.cell 11
  have c12 : W0.cell? ⟨E, 12, none⟩ = some (.int .i64 0) := KE0.out.cell 12
  have c13 : W0.cell? ⟨E, 13, none⟩ = some (.string ⟨#[104, 105]⟩) := KE0.out.cell 13
  have c14 : W0.cell? ⟨E, 14, none⟩ = some (.slice none 0 0) := KE0.out.cell 14
  have lE := KE0.out.lt
  go_enter Tryz.func15, Tryz.ntmps15
  repeat' ((fail_if_success (with_reducible refine halt_at 2 ?_)); first | go_values | go_skip | go_guarded | go_step | go_upon | go_back | (simp only [Int.not_lt, Int.not_le] at *; go_simp) | (go_values <;> (try go_simp)) | (go_ite <;> go_prune <;> (try go_simp)) | (split <;> (first | (rename_i hx; exact (hx _ rfl).elim) | go_prune)))
  rw [← HW0.out, ← HE.out]
  clear HW0
  go_wp2_with fail
  refine (WT.out _).mono ?_
  rintro r w1 ⟨h1, ⟨m', hm', rfl⟩ | ⟨hn, _⟩⟩
  case inr => cases hn
  obtain rfl : m = m' := Option.some.inj hm'
  rw [← HS.out]
  have B1 := Lib.hid (thenB HB0.out h1)
  have KE1 := Lib.hid (KE0.out.below h1 KE0.out.lt)
  clear h1 hm' WT KE0 HB0 lE c0 c1 c2 c3 c4 c5 c6 c7 c8 c9 c10 c11 c12 c13 c14
  go_wp2_with fail
  refine (RDT.out _ B1.out).mono ?_
  rintro r w2 ⟨⟨v', rfl⟩, h2⟩
  have B2 := Lib.hid (thenB B1.out h2)
  have KE2 := Lib.hid (KE1.out.below h2 KE1.out.lt)
  clear h2 RDT KE1 B1
  obtain ⟨w3, hw3⟩ : ∃ w3, w3 = w2.alloc (.cells #[.string ⟨#[97]⟩, .int .u8 48, .int .i64 420, .int .i64 0, .int .i64 0, .int .i64 2, .int .i64 5, .int .i64 0, .string ⟨#[]⟩, .string ⟨#[]⟩, .string ⟨#[]⟩, .int .i64 0, .int .i64 0, .string ⟨#[104, 105]⟩, .slice none 0 0] 26) := ⟨_, rfl⟩
  have hb3 : Below w2.heap.size w2 w3 := by rw [hw3]; exact (Below.refl _ _).alloc (Nat.le_refl _) _
  have B3 := Lib.hid (thenB B2.out hb3)
  have KE3 := Lib.hid (KE2.out.below hb3 KE2.out.lt)
  have KF3 := Lib.hid (show Blk w3 w2.heap.size 26 #[.string ⟨#[97]⟩, .int .u8 48, .int .i64 420, .int .i64 0, .int .i64 0, .int .i64 2, .int .i64 5, .int .i64 0, .string ⟨#[]⟩, .string ⟨#[]⟩, .string ⟨#[]⟩, .int .i64 0, .int .i64 0, .string ⟨#[104, 105]⟩, .slice none 0 0] by rw [hw3]; exact Blk.new w2 26 _)
  have HW3 := Lib.hid hw3
  obtain ⟨F, hF⟩ : ∃ F, F = w2.heap.size := ⟨_, rfl⟩
  have HF := Lib.hid hF
  rw [← hF] at KF3
  clear hw3 hF hb3 KE2 B2
  have c0 : w3.cell? ⟨E, 0, none⟩ = some (.string ⟨#[97]⟩) := KE3.out.cell 0
  have c1 : w3.cell? ⟨E, 1, none⟩ = some (.int .u8 48) := KE3.out.cell 1
  have c2 : w3.cell? ⟨E, 2, none⟩ = some (.int .i64 420) := KE3.out.cell 2
  have c3 : w3.cell? ⟨E, 3, none⟩ = some (.int .i64 0) := KE3.out.cell 3
  have c4 : w3.cell? ⟨E, 4, none⟩ = some (.int .i64 0) := KE3.out.cell 4
  have c5 : w3.cell? ⟨E, 5, none⟩ = some (.int .i64 2) := KE3.out.cell 5
  have c6 : w3.cell? ⟨E, 6, none⟩ = some (.int .i64 5) := KE3.out.cell 6
  have c7 : w3.cell? ⟨E, 7, none⟩ = some (.int .i64 0) := KE3.out.cell 7
  have c8 : w3.cell? ⟨E, 8, none⟩ = some (.string ⟨#[]⟩) := KE3.out.cell 8
  have c9 : w3.cell? ⟨E, 9, none⟩ = some (.string ⟨#[]⟩) := KE3.out.cell 9
  have c10 : w3.cell? ⟨E, 10, none⟩ = some (.string ⟨#[]⟩) := KE3.out.cell 10
  have c11 : w3.cell? ⟨E, 11, none⟩ = some (.int .i64 0) := KE3.out.cell 11
  have c12 : w3.cell? ⟨E, 12, none⟩ = some (.int .i64 0) := KE3.out.cell 12
  have c13 : w3.cell? ⟨E, 13, none⟩ = some (.string ⟨#[104, 105]⟩) := KE3.out.cell 13
  have c14 : w3.cell? ⟨E, 14, none⟩ = some (.slice none 0 0) := KE3.out.cell 14
  have d0 : w3.cell? ⟨F, 0, none⟩ = some (.string ⟨#[97]⟩) := KF3.out.cell 0
  have d1 : w3.cell? ⟨F, 1, none⟩ = some (.int .u8 48) := KF3.out.cell 1
  have d2 : w3.cell? ⟨F, 2, none⟩ = some (.int .i64 420) := KF3.out.cell 2
  have d3 : w3.cell? ⟨F, 3, none⟩ = some (.int .i64 0) := KF3.out.cell 3
  have d4 : w3.cell? ⟨F, 4, none⟩ = some (.int .i64 0) := KF3.out.cell 4
  have d5 : w3.cell? ⟨F, 5, none⟩ = some (.int .i64 2) := KF3.out.cell 5
  have d6 : w3.cell? ⟨F, 6, none⟩ = some (.int .i64 5) := KF3.out.cell 6
  have d7 : w3.cell? ⟨F, 7, none⟩ = some (.int .i64 0) := KF3.out.cell 7
  have d8 : w3.cell? ⟨F, 8, none⟩ = some (.string ⟨#[]⟩) := KF3.out.cell 8
  have d9 : w3.cell? ⟨F, 9, none⟩ = some (.string ⟨#[]⟩) := KF3.out.cell 9
  have d10 : w3.cell? ⟨F, 10, none⟩ = some (.string ⟨#[]⟩) := KF3.out.cell 10
  have d11 : w3.cell? ⟨F, 11, none⟩ = some (.int .i64 0) := KF3.out.cell 11
  have d12 : w3.cell? ⟨F, 12, none⟩ = some (.int .i64 0) := KF3.out.cell 12
  have d13 : w3.cell? ⟨F, 13, none⟩ = some (.string ⟨#[104, 105]⟩) := KF3.out.cell 13
  have d14 : w3.cell? ⟨F, 14, none⟩ = some (.slice none 0 0) := KF3.out.cell 14
  have lE := KE3.out.lt
  have lF := KF3.out.lt
  repeat' ((fail_if_success (with_reducible refine halt_at 4 ?_)); first | go_values | go_skip | go_guarded | go_step | go_upon | go_back | (simp only [Int.not_lt, Int.not_le] at *; go_simp) | (go_values <;> (try go_simp)) | (go_ite <;> go_prune <;> (try go_simp)) | (split <;> (first | (rename_i hx; exact (hx _ rfl).elim) | go_prune)))
  rw [← HW3.out, ← HF.out]
  clear HW3
  go_wp2_with fail
  refine (SAM.out _).mono ?_
  rintro r w4 ⟨rfl, h4⟩
  have B4 := Lib.hid (thenB B3.out h4)
  have KE4 := Lib.hid (KE3.out.below h4 KE3.out.lt)
  clear h4 SAM KE3 KF3 B3 lE lF c0 c1 c2 c3 c4 c5 c6 c7 c8 c9 c10 c11 c12 c13 c14 d0 d1 d2 d3 d4 d5 d6 d7 d8 d9 d10 d11 d12 d13 d14
  have c0 : w4.cell? ⟨E, 0, none⟩ = some (.string ⟨#[97]⟩) := KE4.out.cell 0
  have c1 : w4.cell? ⟨E, 1, none⟩ = some (.int .u8 48) := KE4.out.cell 1
  have c2 : w4.cell? ⟨E, 2, none⟩ = some (.int .i64 420) := KE4.out.cell 2
  have c3 : w4.cell? ⟨E, 3, none⟩ = some (.int .i64 0) := KE4.out.cell 3
  have c4 : w4.cell? ⟨E, 4, none⟩ = some (.int .i64 0) := KE4.out.cell 4
  have c5 : w4.cell? ⟨E, 5, none⟩ = some (.int .i64 2) := KE4.out.cell 5
  have c6 : w4.cell? ⟨E, 6, none⟩ = some (.int .i64 5) := KE4.out.cell 6
  have c7 : w4.cell? ⟨E, 7, none⟩ = some (.int .i64 0) := KE4.out.cell 7
  have c8 : w4.cell? ⟨E, 8, none⟩ = some (.string ⟨#[]⟩) := KE4.out.cell 8
  have c9 : w4.cell? ⟨E, 9, none⟩ = some (.string ⟨#[]⟩) := KE4.out.cell 9
  have c10 : w4.cell? ⟨E, 10, none⟩ = some (.string ⟨#[]⟩) := KE4.out.cell 10
  have c11 : w4.cell? ⟨E, 11, none⟩ = some (.int .i64 0) := KE4.out.cell 11
  have c12 : w4.cell? ⟨E, 12, none⟩ = some (.int .i64 0) := KE4.out.cell 12
  have c13 : w4.cell? ⟨E, 13, none⟩ = some (.string ⟨#[104, 105]⟩) := KE4.out.cell 13
  have c14 : w4.cell? ⟨E, 14, none⟩ = some (.slice none 0 0) := KE4.out.cell 14
  have lE := KE4.out.lt
  go_wp2_with fail
  refine (R1.out _).mono ?_
  rintro r w5 ⟨rfl, h5⟩
  have B5 := Lib.hid (thenB B4.out h5)
  clear h5 R1 KE4 B4 lE c0 c1 c2 c3 c4 c5 c6 c7 c8 c9 c10 c11 c12 c13 c14
  go_wp2_with fail
  refine (R0.out _).mono ?_
  rintro r w6 ⟨rfl, h6⟩
  have B6 := Lib.hid (thenB B5.out h6)
  clear h6 R0 B5
  go_wp2_with fail
  go_ret
  exact ⟨rfl, B6.out⟩

end Go.Proofs.YtkhkjacnoiopcaaGreatDoor
