/-
  member.Right: whether a member is valid.
-/
import Derived.Test.YtkhkjacnoiopcaaGreatDoorZaz
set_option linter.unusedVariables false
set_option linter.unusedSimpArgs false

set_option linter.unusedVariables false
set_option linter.unusedSimpArgs false
namespace Go.Proofs.YtkhkjacnoiopcaaGreatDoor
open Go.RowKit Go.Maps Tre Pk

/-- rightE, of its tests' results. -/
def rightEB (kk ne sl t1 t2 t3 t4 m u g st q mj mn dev z8 z9 f : Bool) : Bool :=
  (kk && !ne && !sl) && (t1 && t2 && t3 && t4) && (m && u && g && st) && !q && (mj && mn) && (dev || (z8 && z9)) && f
theorem rightE_eq (e : Ent) : rightE e = rightEB (inR e.kind 48 54) (e.name == []) (e.name.getLast? == some 47) (txt e.name 120) (txt e.link 120) (txt e.user 32) (txt e.group 32)
    (inR e.mode 0 4095) (inR e.uid 0 1099511627775) (inR e.gid 0 1099511627775) (stampR e.sec e.nano) ((!(e.link == [])) != (e.kind == 49 || e.kind == 50)) (inR e.major 0 2097151) (inR e.minor 0 2097151)
    (e.kind == 51 || e.kind == 52) (e.major == 0) (e.minor == 0) (filled e) := by
  unfold rightE rightEB
  simp only [bne, Bool.not_not]
theorem slash_end (l : List UInt8) : Lib.hasSuffix l [47] = (l.getLast? == some 47) := by
  unfold Lib.hasSuffix List.isSuffixOf
  rcases List.eq_nil_or_concat l with rfl | ⟨a, c, rfl⟩
  · rfl
  · rw [List.concat_eq_append, List.getLast?_concat, List.reverse_append]
    by_cases h : c = 47
    · subst h; simp [List.isPrefixOf]
    · simp [List.isPrefixOf, h]; rw [beq_eq_false_iff_ne.2 h, beq_eq_false_iff_ne.2 (fun (e : (47 : UInt8) = c) => h e.symm)]

set_option maxRecDepth 100000 in
set_option maxHeartbeats 8000000 in
theorem memRight_any (e : Ent) (mv : Value) (w : World) (hp : Pcs w mv e.map) (hk : e.kind ≤ 255) (hd : e.data.length ≤ 140737488351232) (hl : e.map.length ≤ 1000000000000) (hz : e.size ≤ 9223372036854775807) (hn : e.name.length ≤ 140737488351232) :
    Calls Tryz.prog 21 #[ev e mv] w fun en w' => en = .returned (.bool (rightE e)) ∧ Below w.heap.size w w' := by
  rw [rightE_eq]
  have FI := Lib.hid (fun w' (hb : Below w.heap.size w w') => isFilled_any e mv w' (hp.below hb) hk hd hl hz)
  have B1 := Lib.hid ((Below.refl w.heap.size w).alloc (Nat.le_refl _) (.cells (evc e mv) 26))
  have KB := Lib.hid (Blk.new w 26 (evc e mv))
  obtain ⟨n, k, m1, m2, m3, z, s, na, l, u, g, mj, mn, d, mp⟩ := e
  unfold ev evc at FI
  unfold evc at B1 KB
  unfold ev evc
  simp only at FI B1 KB hk hn ⊢
  have HS := Lib.hid (fun w => Tryz.strings_HasSuffix (bs n) ⟨#[47]⟩ w (by rw [bs_size]; omega))
  rw [bs_list, show (⟨#[47]⟩ : ByteArray).data.toList = [47] from rfl, slash_end] at HS
  have W1 := Lib.hid (fun w => mwithin_any k 48 54 w)
  have T1 := Lib.hid (fun w => isText_any n 120 w)
  have T2 := Lib.hid (fun w => isText_any l 120 w)
  have T3 := Lib.hid (fun w => isText_any u 32 w)
  have T4 := Lib.hid (fun w => isText_any g 32 w)
  have W2 := Lib.hid (fun w => mwithin_any m1 0 4095 w)
  have W3 := Lib.hid (fun w => mwithin_any m2 0 1099511627775 w)
  have W4 := Lib.hid (fun w => mwithin_any m3 0 1099511627775 w)
  have W5 := Lib.hid (fun w => stampR_any s na w)
  have LK := Lib.hid (fun w => isLink_any k w)
  have DV := Lib.hid (fun w => isDevice_any k w)
  have W6 := Lib.hid (fun w => mwithin_any mj 0 2097151 w)
  have W7 := Lib.hid (fun w => mwithin_any mn 0 2097151 w)
  have qne := empB n
  have qle := empB l
  have k1 : (0 : Int) ≤ k := by omega
  have k2 : (k : Int) ≤ 255 := by omega
  generalize filled ⟨n, k, m1, m2, m3, z, s, na, l, u, g, mj, mn, d, mp⟩ = bf at *
  generalize inR k 48 54 = b1 at *
  generalize inR m1 0 4095 = b2 at *
  generalize inR m2 0 1099511627775 = b3 at *
  generalize inR m3 0 1099511627775 = b4 at *
  generalize stampR s na = b5 at *
  generalize inR mj 0 2097151 = b6 at *
  generalize inR mn 0 2097151 = b7 at *
  generalize txt n 120 = t1 at *
  generalize txt l 120 = t2 at *
  generalize txt u 32 = t3 at *
  generalize txt g 32 = t4 at *
  generalize (n == []) = ne at *
  generalize (l == []) = le at *
  generalize (n.getLast? == some 47) = sl at *
  generalize (k == 49 || k == 50) = lk at *
  generalize (k == 51 || k == 52) = dev at *
  generalize hz8 : (mj == 0) = z8 at *
  generalize hz9 : (mn == 0) = z9 at *
  have p8 : (mj != 0) = !z8 := by rw [← hz8]; rfl
  have p9 : (mn != 0) = !z9 := by rw [← hz9]; rfl
  obtain ⟨q, hq⟩ : ∃ q, q = ((!le) != lk) := ⟨_, rfl⟩
  rw [← hq]
  have HQ := Lib.hid hq
  clear hq hn hk hd hl hz hz8 hz9 hp
  go_enter Tryz.func21, Tryz.ntmps21
  go_wp2_with fail; refine (W1.out _).mono ?_; rintro e w' ⟨rfl, hw⟩; subst hw
  cases b1
  · focus (go_wp2_with fail; go_ret; exact ⟨by first | rfl | (simp [rightEB]), B1.out⟩)
  cases ne
  rotate_left
  · focus (go_wp2_with fail; go_ret; exact ⟨by first | rfl | (simp [rightEB]), B1.out⟩)
  go_wp2_with fail; refine (HS.out _).mono ?_; rintro e w' ⟨rfl, hw⟩; subst hw
  cases sl
  rotate_left
  · focus (go_wp2_with fail; go_ret; exact ⟨by first | rfl | (simp [rightEB]), B1.out⟩)
  go_wp2_with fail; refine (T1.out _).mono ?_; rintro e w' ⟨rfl, hw⟩; subst hw
  cases t1
  · focus (go_wp2_with fail; go_ret; exact ⟨by first | rfl | (simp [rightEB]), B1.out⟩)
  go_wp2_with fail; refine (T2.out _).mono ?_; rintro e w' ⟨rfl, hw⟩; subst hw
  cases t2
  · focus (go_wp2_with fail; go_ret; exact ⟨by first | rfl | (simp [rightEB]), B1.out⟩)
  go_wp2_with fail; refine (T3.out _).mono ?_; rintro e w' ⟨rfl, hw⟩; subst hw
  cases t3
  · focus (go_wp2_with fail; go_ret; exact ⟨by first | rfl | (simp [rightEB]), B1.out⟩)
  go_wp2_with fail; refine (T4.out _).mono ?_; rintro e w' ⟨rfl, hw⟩; subst hw
  cases t4
  · focus (go_wp2_with fail; go_ret; exact ⟨by first | rfl | (simp [rightEB]), B1.out⟩)
  go_wp2_with fail; refine (W2.out _).mono ?_; rintro e w' ⟨rfl, hw⟩; subst hw
  cases b2
  · focus (go_wp2_with fail; go_ret; exact ⟨by first | rfl | (simp [rightEB]), B1.out⟩)
  go_wp2_with fail; refine (W3.out _).mono ?_; rintro e w' ⟨rfl, hw⟩; subst hw
  cases b3
  · focus (go_wp2_with fail; go_ret; exact ⟨by first | rfl | (simp [rightEB]), B1.out⟩)
  go_wp2_with fail; refine (W4.out _).mono ?_; rintro e w' ⟨rfl, hw⟩; subst hw
  cases b4
  · focus (go_wp2_with fail; go_ret; exact ⟨by first | rfl | (simp [rightEB]), B1.out⟩)
  go_wp2_with fail
  refine (W5.out _).mono ?_
  rintro e w1 ⟨rfl, h⟩
  have HB := Lib.hid (thenB B1.out h)
  have KY := Lib.hid (KB.out.below h KB.out.lt)
  clear h KB
  cases b5
  · focus (go_wp2_with fail; go_ret; exact ⟨by first | rfl | (simp [rightEB]), HB.out⟩)
  have c1 := KY.out.cell 1
  have c7 := KY.out.cell 8
  have lz := KY.out.lt
  simp only [List.getElem?_toArray, List.getElem?_cons_zero, List.getElem?_cons_succ] at c1 c7
  repeat' ((fail_if_success (with_reducible refine halt_at 15 ?_)); first | go_values | go_skip | go_guarded | go_step | go_upon | go_back | (simp only [Int.not_lt, Int.not_le] at *; go_simp) | (go_values <;> (try go_simp)) | (go_ite <;> go_prune <;> (try go_simp)) | (split <;> (first | (rename_i hx; exact (hx _ rfl).elim) | go_prune)))
  go_cut [49] (fun s49 wx => s49 = .bool q ∧ ∃ nq, wx = w1.drewN nq)
  case first =>
    cases le
    all_goals
      go_quiet ((go_at_call 51; refine (LK.out _).mono ?_; rintro e w2 ⟨rfl, rfl⟩; exact ⟨rfl, _, rfl⟩))
      cases lk
    all_goals
      go_wp2_with fail
      go_meet
      exact ⟨by rw [HQ.out]; rfl, _, rfl⟩
  case rest =>
  obtain ⟨rfl, nq, rfl⟩ := hcut
  have HB2 := Lib.hid (below_drewN HB.out nq)
  have KZ := Lib.hid (KY.out.drewN nq)
  generalize hw2 : w1.drewN nq = w2 at HB2 KZ ⊢
  clear hw2 HQ HB KY c1 c7 lz
  have c1 := KZ.out.cell 1
  have c10 := KZ.out.cell 11
  have c11 := KZ.out.cell 12
  have lz := KZ.out.lt
  simp only [List.getElem?_toArray, List.getElem?_cons_zero, List.getElem?_cons_succ] at c1 c10 c11
  cases q
  rotate_left
  · focus (go_wp2_with fail; go_ret; exact ⟨by first | rfl | (simp [rightEB]), HB2.out⟩)
  go_wp2_with fail; refine (W6.out _).mono ?_; rintro e w' ⟨rfl, hw⟩; subst hw
  cases b6
  · focus (go_wp2_with fail; go_ret; exact ⟨by first | rfl | (simp [rightEB]), HB2.out⟩)
  go_wp2_with fail; refine (W7.out _).mono ?_; rintro e w' ⟨rfl, hw⟩; subst hw
  cases b7
  · focus (go_wp2_with fail; go_ret; exact ⟨by first | rfl | (simp [rightEB]), HB2.out⟩)
  go_wp2_with fail; refine (DV.out _).mono ?_; rintro e w' ⟨rfl, hw⟩; subst hw
  have FX := Lib.hid (FI.out _ HB2.out)
  have c0 := KZ.out.cell 0
  have c2 := KZ.out.cell 2
  have c3 := KZ.out.cell 3
  have c4 := KZ.out.cell 4
  have c5 := KZ.out.cell 5
  have c6 := KZ.out.cell 6
  have c7 := KZ.out.cell 7
  have c8 := KZ.out.cell 8
  have c9 := KZ.out.cell 9
  have c12 := KZ.out.cell 10
  have c13 := KZ.out.cell 13
  have c14 := KZ.out.cell 14
  simp only [List.getElem?_toArray, List.getElem?_cons_zero, List.getElem?_cons_succ] at c0 c2 c3 c4 c5 c6 c7 c8 c9 c12 c13 c14
  cases dev
  all_goals cases z8
  all_goals cases z9
  all_goals first
    | (focus (go_wp2_with fail; go_ret; exact ⟨by first | rfl | (simp [rightEB]), HB2.out⟩))
    | (go_wp2_with fail
       refine FX.out.mono ?_
       rintro e w3 ⟨rfl, h3⟩
       have HB3 := Lib.hid (thenB HB2.out h3)
       clear h3
       go_wp2_with fail
       go_ret
       exact ⟨by first | rfl | (simp [rightEB]), HB3.out⟩)

end Go.Proofs.YtkhkjacnoiopcaaGreatDoor
