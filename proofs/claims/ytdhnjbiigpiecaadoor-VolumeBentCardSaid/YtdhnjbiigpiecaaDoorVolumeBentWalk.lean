/-
  The walk of VolumeBent.
-/
import Derived.Test.YtdhnjbiigpiecaaDoorVolE
import Derived.Lib.ConvBytes
import Derived.BigRegion
import Derived.OpenShut
namespace Go.Proofs.YtdhnjbiigpiecaaDoor
open Go.RowKit

theorem split_vol (l : List UInt8) (k : Nat) (h : k < l.length) : l = l.take k ++ l[k] :: l.drop (k + 1) := by
  have := List.take_append_drop k l
  rw [List.drop_eq_getElem_cons h] at this
  exact this.symm
theorem convert_byte (d : UInt8) (w : World) : (convert 29 9 (.slice (some ⟨w.heap.size, 0, none⟩) 1 1)).run Tryd.prog (w.alloc (.cells #[.int .u8 (d.toNat : Int)] 5)).drew = .ok (.string ⟨#[d]⟩) (w.alloc (.cells #[.int .u8 (d.toNat : Int)] 5)).drew :=
  convert_row (P := Tryd.prog) _ 29 9 5 5 w.heap.size 1 1 [d] #[.int .u8 (d.toNat : Int)] Tryd.underlying29 Tryd.underlying5 Tryd.underlying9 rfl rfl (Blk.new w _ _).drew

theorem vol_bent {i n : Nat} {p : List UInt8} (hi : i ≤ 1000) (hn : n ≤ 1000) (hp : p.length ≤ 3072) {a : Nat} (ha : a < 512) (ha2 : a < 148 ∨ 156 ≤ a) {c : UInt8} (hl : a < (vol i n p).length) (hc : (vol i n p)[a] ≠ c) :
    rightL (((vol i n p).take a ++ c :: (vol i n p).drop (a + 1)).take 512) = false := by
  have hw := vhdr_ok (i := i) (n := n) (z := p.length) (by omega) (by omega) (by omega)
  have hlen := vhdr_len (i := i) (n := n) (z := p.length) (by omega) (by omega) (by omega)
  obtain ⟨H, hH⟩ : ∃ H, H = vhdr i n p.length := ⟨_, rfl⟩
  rw [← hH] at hw hlen
  have hv : vol i n p = H ++ Bk.fill p := by rw [hH]; rfl
  have hg : (vol i n p)[a] = H[a]'(by omega) := by
    simp only [hv]
    exact List.getElem_append_left (by omega)
  rw [hg] at hc
  have e1 : (vol i n p).take a = H.take a := by rw [hv, List.take_append_of_le_length (by omega)]
  have e2 : (vol i n p).drop (a + 1) = H.drop (a + 1) ++ Bk.fill p := by rw [hv, List.drop_append_of_le_length (by omega)]
  rw [e1, e2]
  have e : H.take a ++ c :: (H.drop (a + 1) ++ Bk.fill p) = (H.take a ++ c :: H.drop (a + 1)) ++ Bk.fill p := by simp
  rw [e, List.take_left' (by simp; omega)]
  obtain ⟨_, _, ht, ls, hnn, he⟩ := hw
  have hdec := split_vol H a (by omega)
  have hta : (H.take a).length = a := by rw [List.length_take]; omega
  rw [right_bent (body (vraw i n p.length) 3 ls) (H.take a) (H.drop (a + 1)) (H[a]'(by omega)) c (body_len hnn ht) (by rw [← he]; exact hdec) (by rw [hta]; exact ha2)]
  exact decide_eq_false fun e => hc e.symm

set_option maxRecDepth 100000 in
set_option maxHeartbeats 4000000 in
theorem volumeBent_main (s : ByteArray) (blocks which at_ : Int) (c : UInt8) (w : World) (hE : ErrT w) :
    Calls Tryd.prog 3 #[.string s, .int .i64 blocks, .int .i64 which, .int .i64 at_, .int .u8 c.toNat] w fun e w' => e = .returned (.bool true) ∧ Below w.heap.size w w' := by
  have PA := Lib.hid (parted_any w hE)
  have HE := Lib.hid hE
  clear hE
  by_cases hs : s.size ≤ 5000
  rotate_left
  · have hsi : (5000 : Int) < s.size := by omega
    go_enter Tryd.func3, Tryd.ntmps3
    go_wp2_with fail
    refine PA.out.mono ?_
    rintro e w1 ⟨rfl, h1⟩
    have B1 := Lib.hid h1
    clear h1
    go_wp2_with fail
    go_ret
    exact ⟨rfl, B1.out⟩
  have hsi : (s.size : Int) ≤ 5000 := by omega
  have p1 := pickN_lo blocks 6 (by omega)
  have p2 := pickN_hi blocks 6 (by omega)
  have PK := Lib.hid (fun w => pick_any blocks 6 w (by omega) (by omega))
  obtain ⟨K0, hK⟩ : ∃ K0, K0 = pickN blocks 6 := ⟨_, rfl⟩
  rw [← hK] at p1 p2 PK
  obtain ⟨K, rfl⟩ := Int.eq_ofNat_of_zero_le p1
  have q1 := pickN_lo at_ 504 (by omega)
  have q2 := pickN_hi at_ 504 (by omega)
  have PA2 := Lib.hid (fun w => pick_any at_ 504 w (by omega) (by omega))
  obtain ⟨A0, hA⟩ : ∃ A0, A0 = pickN at_ 504 := ⟨_, rfl⟩
  rw [← hA] at q1 q2 PA2
  obtain ⟨a0, rfl⟩ := Int.eq_ofNat_of_zero_le q1
  have SP0 := fun w => split_any s (by omega) (K + 1) (by omega) (by omega) w
  rw [show (((K + 1 : Nat) : Int) + 1) = 2 + (K : Int) by omega] at SP0
  obtain ⟨R, hR⟩ : ∃ R, R = (K + 1) * 512 := ⟨_, rfl⟩
  rw [← hR] at SP0
  have hR1 : 512 ≤ R := by omega
  have hR2 : R ≤ 3072 := by omega
  have SP := Lib.hid SP0
  have hN1 : 1 ≤ vmany s.data.toList.length R := by unfold vmany; omega
  have hN2 := vmany_le s.data.toList.length R hR1 (by rw [list_size]; omega)
  have HVL := Lib.hid (vols_len s.data.toList R)
  have HVG := Lib.hid (vols_get s.data.toList R)
  have HPL := Lib.hid (psOf_len s.data.toList R)
  have HPG := Lib.hid (psOf_get s.data.toList R)
  have HPA := Lib.hid (psOf_apart s.data.toList R)
  have HPO := Lib.hid (psOf_ok (s := s.data.toList) hR2)
  have HPT := Lib.hid (fun i => vpart_len s.data.toList R i)
  obtain ⟨N, hN⟩ : ∃ N, N = vmany s.data.toList.length R := ⟨_, rfl⟩
  obtain ⟨VL, hVL⟩ : ∃ VL, VL = vols s.data.toList R := ⟨_, rfl⟩
  obtain ⟨PS, hPS⟩ : ∃ PS, PS = psOf s.data.toList R := ⟨_, rfl⟩
  rw [← hN] at hN1 hN2 HVL HVG HPL HPO
  rw [← hVL] at SP HVL HVG
  rw [← hPS] at HPL HPG HPA HPO
  have r1 := pickN_lo which N (by omega)
  have r2 := pickN_hi which N (by omega)
  have PKN := Lib.hid (fun w => pick_any which N w (by omega) (by omega))
  obtain ⟨k0, hk⟩ : ∃ k0, k0 = pickN which N := ⟨_, rfl⟩
  rw [← hk] at r1 r2 PKN
  obtain ⟨k, rfl⟩ := Int.eq_ofNat_of_zero_le r1
  have hkN : k < N := by omega
  clear hk hK hA hN hVL hPS SP0 hR
  have hNi : (N : Int) ≤ 16 := by omega
  have hNi1 : (1 : Int) ≤ N := by omega
  have hN0 : ((N : Int) == 0) = false := beq_eq_false_iff_ne.2 (by omega)
  go_enter Tryd.func3, Tryd.ntmps3
  go_wp2_with fail
  refine PA.out.mono ?_
  rintro e w1 ⟨rfl, h1⟩
  have B1 := Lib.hid h1
  clear h1
  go_wp2_with fail
  refine (PK.out _).mono ?_
  rintro e w' ⟨rfl, hw⟩
  subst hw
  go_wp2_with fail
  refine (SP.out _).mono ?_
  rintro e w2 ⟨v, rfl, hv, h2⟩
  rcases hv.ways with ⟨_, h0⟩ | ⟨g, cap, cur, rfl, hg1, hg, hcap, hblk, hcs, hcm, hrow⟩
  · have := HVL.out; rw [h0] at this; simp at this; omega
  have B2 := Lib.hid (thenB B1.out h2)
  have HBK := Lib.hid hblk
  have HRW := Lib.hid hrow
  have HG1 := Lib.hid (Nat.le_trans B1.out.size hg1)
  have hcap' : N ≤ cap := by rw [HVL.out] at hcap; exact hcap
  have HCS := Lib.hid hcs
  rw [HVL.out]
  clear h2 hv hblk hrow hcap hcs hcm
  go_wp2_with fail
  refine (PA2.out _).mono ?_
  rintro e w' ⟨rfl, hw⟩
  subst hw
  by_cases hlow : a0 < 148
  · have hd1 : ¬ (148 : Int) ≤ a0 := by omega
    obtain ⟨a, ha⟩ : ∃ a, a = a0 := ⟨_, rfl⟩
    subst ha
    have ha5 : a < 512 := by omega
    have ha6 : a < 148 ∨ 156 ≤ a := by omega
    clear q1 q2 hlow
    repeat' ((fail_if_success (with_reducible refine halt_at 11 ?_)); first | go_values | go_skip | go_guarded | go_step | go_upon | go_back | (simp only [Int.not_lt, Int.not_le] at *; go_simp) | (go_values <;> (try go_simp)) | (go_ite <;> go_prune <;> (try go_simp)) | (split <;> (first | (rename_i hx; exact (hx _ rfl).elim) | go_prune)))
    go_wp2_with fail
    refine (PKN.out _).mono ?_
    rintro e w' ⟨rfl, hw⟩
    subst hw
    have hkV : k < VL.length := by rw [HVL.out]; exact hkN
    have hc0 := HRW.out k hkV
    rw [Nat.zero_add] at hc0
    have hVk := HVG.out k hkV
    have hpl : (vpart s.data.toList R k).length ≤ 3072 := by rw [HPT.out]; omega
    have hvl := vol_len (i := k) (n := N) (p := vpart s.data.toList R k) (by omega) (by omega) hpl
    have hpd := Bk.pad_lt (vpart s.data.toList R k).length
    have hbent := fun h1 h2 => vol_bent (i := k) (n := N) (p := vpart s.data.toList R k) (by omega) (by omega) hpl ha5 ha6 (c := c) h1 h2
    rw [← hVk] at hvl hbent
    have hlV : a < (VL[k]).length := by omega
    have hb2 := hbent hlV
    obtain ⟨V, hV⟩ : ∃ V, V = bs VL[k] := ⟨_, rfl⟩
    have hVl : V.data.toList = VL[k] := by rw [hV]; rfl
    rw [← hV] at hc0
    have hVs1 : 512 ≤ V.size := by rw [← list_size, hVl]; omega
    have hVs2 : V.size ≤ 100000 := by rw [← list_size, hVl]; omega
    have hVi1 : (512 : Int) ≤ V.size := by omega
    have hVi2 : (V.size : Int) ≤ 100000 := by omega
    have hai : (a : Int) < V.size := by omega
    have hki : (k : Int) < N := by omega
    have haV : a < V.size := by omega
    have hget : V[a] = (VL[k])[a] := by
      have e : V[a] = V.data.toList[a]'(by rw [list_size]; exact haV) := rfl
      rw [e]
      simp only [hVl]
    rw [← hget, ← hVl] at hb2
    have HB2 := Lib.hid hb2
    have hfz := HBK.out.frozen k
    clear hpl hvl hpd hbent hb2 hget hVl hVk hlV hV
    repeat' ((fail_if_success (with_reducible refine halt_at 12 ?_)); first | go_values | go_skip | go_guarded | go_step | go_upon | go_back | (simp only [Int.not_lt, Int.not_le] at *; go_simp) | (go_values <;> (try go_simp)) | (go_ite <;> go_prune <;> (try go_simp)) | (split <;> (first | (rename_i hx; exact (hx _ rfl).elim) | go_prune)))
    by_cases hcx : V[a] = c
    · have hcd : ((V[a].toNat : Int) == (c.toNat : Int)) = true := by rw [hcx]; simp
      go_wp2_with fail
      go_ret
      exact ⟨rfl, B2.out⟩
    · have hcd : ((V[a].toNat : Int) == (c.toNat : Int)) = false := by
        rw [beq_eq_false_iff_ne]; intro e
        exact hcx (UInt8.toNat_inj.1 (by omega))
      obtain ⟨T, hT⟩ : ∃ T, T = V.extract 0 a ++ ⟨#[c]⟩ ++ V.extract (a + 1) V.size := ⟨_, rfl⟩
      have hT2 := hT.symm
      have hTl : T.data.toList = V.data.toList.take a ++ c :: V.data.toList.drop (a + 1) := by
        rw [hT, cat_list, cat_list, ext_to, ext_end, List.append_assoc]; rfl
      have hTz : T.data.toList.length = V.size := by
        rw [hTl, List.length_append, List.length_cons, List.length_take, List.length_drop, list_size]; omega
      have hTr : rightL (T.data.toList.take 512) = false := by rw [hTl]; exact HB2.out hcx
      have HTR := Lib.hid (And.intro hTz hTr)
      have HT := Lib.hid hT2
      have c1 := fun w => run_string_add_sum (P := Tryd.prog) w (V.extract 0 a) ⟨#[c]⟩ (by rw [ext_size _ _ _ (by omega)]; show _ + 1 ≤ _; omega)
      have c2 := fun w => run_string_add_sum (P := Tryd.prog) w (V.extract 0 a ++ ⟨#[c]⟩) (V.extract (a + 1) V.size) (by rw [ByteArray.size_append, ext_size _ _ _ (by omega), ext_size _ _ _ (Nat.le_refl _)]; show _ + 1 + _ ≤ _; omega)
      rw [hT2] at c2
      have hcv := convert_byte c
      have ew9 : IntKind.i64.wrap ((a : Int) + 1) = (a : Int) + 1 := IntWalk.i64_in _ (by omega)
      have en : (0 : Int) ≤ (a : Int) + 1 := by omega
      have et : ((a : Int) + 1).toNat = a + 1 := by omega
      have g2 : (a : Int) + 1 ≤ V.size := by omega
      have g3 : (a : Int) ≤ V.size := by omega
      clear hT hT2 hTl hTz hTr
      repeat' ((fail_if_success (with_reducible refine halt_at 14 ?_)); first | go_values | go_skip | go_guarded | go_step | go_upon | go_back | (simp only [Int.not_lt, Int.not_le] at *; go_simp) | (go_values <;> (try go_simp)) | (go_ite <;> go_prune <;> (try go_simp)) | (split <;> (first | (rename_i hx; exact (hx _ rfl).elim) | go_prune)))
      go_cut [] (fun wx => Blk wx g 9 (cur.setIfInBounds k (.string T)) ∧ Below w.heap.size w wx)
      case first =>
        go_region
        all_goals go_wp2_with fail
        all_goals go_meet
        all_goals exact ⟨((HBK.out.set_ k _).alloc _).drew, ((B2.out.setCell (p := ⟨g, k, none⟩) HG1.out _).alloc (B2.out.setCell (p := ⟨g, k, none⟩) HG1.out _).size _).drew⟩
      case rest =>
        obtain ⟨hbk, hbw⟩ := hcut
        obtain ⟨TL, hTL⟩ : ∃ TL, TL = T.data.toList := ⟨_, rfl⟩
        have hTb : T = bs TL := by rw [hTL, bs_of]
        obtain ⟨hTz, hTr⟩ := HTR.out
        rw [← hTL] at hTz hTr
        have hln : (VL.set k TL).length = N := by rw [List.length_set, HVL.out]
        have hrow2 : RowS wc g 0 (VL.set k TL) := fun j hj => by
          have hj2 : j < VL.length := by rw [List.length_set] at hj; exact hj
          rw [Nat.zero_add, hbk.cell, Array.getElem?_setIfInBounds, List.getElem_set]
          by_cases e : k = j
          · subst e
            have hkc : k < cur.size := by have := HCS.out; omega
            rw [if_pos rfl, if_pos rfl, if_pos hkc, hTb]
          · rw [if_neg e, if_neg e]
            have h := HRW.out j hj2
            rw [Nat.zero_add, HBK.out.cell] at h
            exact h
        have hpk : (PS.take k).length = k := by rw [List.length_take, HPL.out]; omega
        have JN := join_run N (by omega) hN1 (PS.take k) (VL.set k TL) g 0 cap wc (by rw [hpk, hln]; omega)
          (fun j hj => by
            have hj1 : j < k := by rw [hpk] at hj; exact hj
            have hj2 : j < VL.length := by rw [HVL.out]; omega
            rw [List.getElem_set, if_neg (by omega), List.getElem_take, HPG.out, HVG.out j hj2])
          (fun q hq => HPO.out q (List.mem_of_mem_take hq)) (HPA.out.sublist (List.take_sublist _ _)) (by rw [hln]; omega) (by rw [hln]; omega) hbk.lt hrow2 (HE.out.below hbw) 15
          (.inr ⟨by rw [hpk, hln]; exact hkN, by
            have e : (VL.set k TL)[(PS.take k).length]'(by rw [hpk, hln]; exact hkN) = TL := by
              simp only [hpk]
              rw [List.getElem_set_self]
            rw [e]
            exact .spoilt (by rw [hTz]; exact hVs1) (by rw [hTz]; exact hVs2) hTr⟩)
        rw [hln, hpk] at JN
        have HJ := Lib.hid JN
        have BW := Lib.hid hbw
        clear JN hbk hbw hrow2 hTL hTb hTz hTr hln hpk c1 c2 hcv
        go_wp2_with fail
        refine HJ.out.mono ?_
        rintro e wj ⟨hbj, h | h | h⟩
        · exact absurd h.1 (by omega)
        · exact absurd h.1 (by omega)
        obtain ⟨_, B, rfl, hcB⟩ := h
        have BJ := Lib.hid (thenB BW.out hbj)
        have TA := Lib.hid (tell_at 15 ⟨B, 0, none⟩ wj (HE.out.below BJ.out) hcB)
        clear hbj hcB
        go_wp2_with fail
        refine TA.out.mono ?_
        rintro e wt ⟨rfl, ht⟩
        have BT := Lib.hid (thenB BJ.out ht)
        clear ht
        go_wp2_with fail
        go_ret
        exact ⟨rfl, BT.out⟩
  · have hd1 : (148 : Int) ≤ a0 := by omega
    obtain ⟨a, ha⟩ : ∃ a, a = a0 + 8 := ⟨_, rfl⟩
    have ha5 : a < 512 := by omega
    have ha6 : a < 148 ∨ 156 ≤ a := by omega
    have ha7 : (a0 : Int) + 8 = a := by omega
    have ha8 : (a : Int) ≤ 1000 := by omega
    clear q1 q2 hlow ha
    repeat' ((fail_if_success (with_reducible refine halt_at 11 ?_)); first | go_values | go_skip | go_guarded | go_step | go_upon | go_back | (simp only [Int.not_lt, Int.not_le] at *; go_simp) | (go_values <;> (try go_simp)) | (go_ite <;> go_prune <;> (try go_simp)) | (split <;> (first | (rename_i hx; exact (hx _ rfl).elim) | go_prune)))
    go_wp2_with fail
    refine (PKN.out _).mono ?_
    rintro e w' ⟨rfl, hw⟩
    subst hw
    have hkV : k < VL.length := by rw [HVL.out]; exact hkN
    have hc0 := HRW.out k hkV
    rw [Nat.zero_add] at hc0
    have hVk := HVG.out k hkV
    have hpl : (vpart s.data.toList R k).length ≤ 3072 := by rw [HPT.out]; omega
    have hvl := vol_len (i := k) (n := N) (p := vpart s.data.toList R k) (by omega) (by omega) hpl
    have hpd := Bk.pad_lt (vpart s.data.toList R k).length
    have hbent := fun h1 h2 => vol_bent (i := k) (n := N) (p := vpart s.data.toList R k) (by omega) (by omega) hpl ha5 ha6 (c := c) h1 h2
    rw [← hVk] at hvl hbent
    have hlV : a < (VL[k]).length := by omega
    have hb2 := hbent hlV
    obtain ⟨V, hV⟩ : ∃ V, V = bs VL[k] := ⟨_, rfl⟩
    have hVl : V.data.toList = VL[k] := by rw [hV]; rfl
    rw [← hV] at hc0
    have hVs1 : 512 ≤ V.size := by rw [← list_size, hVl]; omega
    have hVs2 : V.size ≤ 100000 := by rw [← list_size, hVl]; omega
    have hVi1 : (512 : Int) ≤ V.size := by omega
    have hVi2 : (V.size : Int) ≤ 100000 := by omega
    have hai : (a : Int) < V.size := by omega
    have hki : (k : Int) < N := by omega
    have haV : a < V.size := by omega
    have hget : V[a] = (VL[k])[a] := by
      have e : V[a] = V.data.toList[a]'(by rw [list_size]; exact haV) := rfl
      rw [e]
      simp only [hVl]
    rw [← hget, ← hVl] at hb2
    have HB2 := Lib.hid hb2
    have hfz := HBK.out.frozen k
    clear hpl hvl hpd hbent hb2 hget hVl hVk hlV hV
    repeat' ((fail_if_success (with_reducible refine halt_at 12 ?_)); first | go_values | go_skip | go_guarded | go_step | go_upon | go_back | (simp only [Int.not_lt, Int.not_le] at *; go_simp) | (go_values <;> (try go_simp)) | (go_ite <;> go_prune <;> (try go_simp)) | (split <;> (first | (rename_i hx; exact (hx _ rfl).elim) | go_prune)))
    by_cases hcx : V[a] = c
    · have hcd : ((V[a].toNat : Int) == (c.toNat : Int)) = true := by rw [hcx]; simp
      go_wp2_with fail
      go_ret
      exact ⟨rfl, B2.out⟩
    · have hcd : ((V[a].toNat : Int) == (c.toNat : Int)) = false := by
        rw [beq_eq_false_iff_ne]; intro e
        exact hcx (UInt8.toNat_inj.1 (by omega))
      obtain ⟨T, hT⟩ : ∃ T, T = V.extract 0 a ++ ⟨#[c]⟩ ++ V.extract (a + 1) V.size := ⟨_, rfl⟩
      have hT2 := hT.symm
      have hTl : T.data.toList = V.data.toList.take a ++ c :: V.data.toList.drop (a + 1) := by
        rw [hT, cat_list, cat_list, ext_to, ext_end, List.append_assoc]; rfl
      have hTz : T.data.toList.length = V.size := by
        rw [hTl, List.length_append, List.length_cons, List.length_take, List.length_drop, list_size]; omega
      have hTr : rightL (T.data.toList.take 512) = false := by rw [hTl]; exact HB2.out hcx
      have HTR := Lib.hid (And.intro hTz hTr)
      have HT := Lib.hid hT2
      have c1 := fun w => run_string_add_sum (P := Tryd.prog) w (V.extract 0 a) ⟨#[c]⟩ (by rw [ext_size _ _ _ (by omega)]; show _ + 1 ≤ _; omega)
      have c2 := fun w => run_string_add_sum (P := Tryd.prog) w (V.extract 0 a ++ ⟨#[c]⟩) (V.extract (a + 1) V.size) (by rw [ByteArray.size_append, ext_size _ _ _ (by omega), ext_size _ _ _ (Nat.le_refl _)]; show _ + 1 + _ ≤ _; omega)
      rw [hT2] at c2
      have hcv := convert_byte c
      have ew9 : IntKind.i64.wrap ((a : Int) + 1) = (a : Int) + 1 := IntWalk.i64_in _ (by omega)
      have en : (0 : Int) ≤ (a : Int) + 1 := by omega
      have et : ((a : Int) + 1).toNat = a + 1 := by omega
      have g2 : (a : Int) + 1 ≤ V.size := by omega
      have g3 : (a : Int) ≤ V.size := by omega
      clear hT hT2 hTl hTz hTr
      repeat' ((fail_if_success (with_reducible refine halt_at 14 ?_)); first | go_values | go_skip | go_guarded | go_step | go_upon | go_back | (simp only [Int.not_lt, Int.not_le] at *; go_simp) | (go_values <;> (try go_simp)) | (go_ite <;> go_prune <;> (try go_simp)) | (split <;> (first | (rename_i hx; exact (hx _ rfl).elim) | go_prune)))
      go_cut [] (fun wx => Blk wx g 9 (cur.setIfInBounds k (.string T)) ∧ Below w.heap.size w wx)
      case first =>
        go_region
        all_goals go_wp2_with fail
        all_goals go_meet
        all_goals exact ⟨((HBK.out.set_ k _).alloc _).drew, ((B2.out.setCell (p := ⟨g, k, none⟩) HG1.out _).alloc (B2.out.setCell (p := ⟨g, k, none⟩) HG1.out _).size _).drew⟩
      case rest =>
        obtain ⟨hbk, hbw⟩ := hcut
        obtain ⟨TL, hTL⟩ : ∃ TL, TL = T.data.toList := ⟨_, rfl⟩
        have hTb : T = bs TL := by rw [hTL, bs_of]
        obtain ⟨hTz, hTr⟩ := HTR.out
        rw [← hTL] at hTz hTr
        have hln : (VL.set k TL).length = N := by rw [List.length_set, HVL.out]
        have hrow2 : RowS wc g 0 (VL.set k TL) := fun j hj => by
          have hj2 : j < VL.length := by rw [List.length_set] at hj; exact hj
          rw [Nat.zero_add, hbk.cell, Array.getElem?_setIfInBounds, List.getElem_set]
          by_cases e : k = j
          · subst e
            have hkc : k < cur.size := by have := HCS.out; omega
            rw [if_pos rfl, if_pos rfl, if_pos hkc, hTb]
          · rw [if_neg e, if_neg e]
            have h := HRW.out j hj2
            rw [Nat.zero_add, HBK.out.cell] at h
            exact h
        have hpk : (PS.take k).length = k := by rw [List.length_take, HPL.out]; omega
        have JN := join_run N (by omega) hN1 (PS.take k) (VL.set k TL) g 0 cap wc (by rw [hpk, hln]; omega)
          (fun j hj => by
            have hj1 : j < k := by rw [hpk] at hj; exact hj
            have hj2 : j < VL.length := by rw [HVL.out]; omega
            rw [List.getElem_set, if_neg (by omega), List.getElem_take, HPG.out, HVG.out j hj2])
          (fun q hq => HPO.out q (List.mem_of_mem_take hq)) (HPA.out.sublist (List.take_sublist _ _)) (by rw [hln]; omega) (by rw [hln]; omega) hbk.lt hrow2 (HE.out.below hbw) 15
          (.inr ⟨by rw [hpk, hln]; exact hkN, by
            have e : (VL.set k TL)[(PS.take k).length]'(by rw [hpk, hln]; exact hkN) = TL := by
              simp only [hpk]
              rw [List.getElem_set_self]
            rw [e]
            exact .spoilt (by rw [hTz]; exact hVs1) (by rw [hTz]; exact hVs2) hTr⟩)
        rw [hln, hpk] at JN
        have HJ := Lib.hid JN
        have BW := Lib.hid hbw
        clear JN hbk hbw hrow2 hTL hTb hTz hTr hln hpk c1 c2 hcv
        go_wp2_with fail
        refine HJ.out.mono ?_
        rintro e wj ⟨hbj, h | h | h⟩
        · exact absurd h.1 (by omega)
        · exact absurd h.1 (by omega)
        obtain ⟨_, B, rfl, hcB⟩ := h
        have BJ := Lib.hid (thenB BW.out hbj)
        have TA := Lib.hid (tell_at 15 ⟨B, 0, none⟩ wj (HE.out.below BJ.out) hcB)
        clear hbj hcB
        go_wp2_with fail
        refine TA.out.mono ?_
        rintro e wt ⟨rfl, ht⟩
        have BT := Lib.hid (thenB BJ.out ht)
        clear ht
        go_wp2_with fail
        go_ret
        exact ⟨rfl, BT.out⟩

set_option maxRecDepth 100000 in
theorem volumeBent_walk (s : ByteArray) (_hs : s.size ≤ 140737488351232) (blocks : Int) (_hb : (Lit.int .i64 blocks).wf = true) (which : Int) (_hw : (Lit.int .i64 which).wf = true) (at_ : Int) (_ha : (Lit.int .i64 at_).wf = true) (c : Int) (hc : (Lit.int .u8 c).wf = true) (w : World)
    (hL : laidMetH Tryd.prog Rows.volumeBentRow.laid w) :
    Calls Tryd.prog 3 #[.string s, .int .i64 blocks, .int .i64 which, .int .i64 at_, .int .u8 c] w fun e w' => e = .returned (.bool true) ∧ Below w.heap.size w w' := by
  obtain ⟨c, rfl⟩ : ∃ d : UInt8, c = (d.toNat : Int) := by
    have h : 0 ≤ c ∧ c < 256 := by have := bounds_u8 hc; omega
    exact ⟨UInt8.ofNat c.toNat, by simp [UInt8.toNat_ofNat']; omega⟩
  exact volumeBent_main s blocks which at_ c w (errT_of_laid hL (by simp [Rows.volumeBentRow, Rows.laid_errors_errorType]))
end Go.Proofs.YtdhnjbiigpiecaaDoor
