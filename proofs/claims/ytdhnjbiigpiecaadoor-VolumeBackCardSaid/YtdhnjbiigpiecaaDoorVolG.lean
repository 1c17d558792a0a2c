/-
  VolumeBack: the call, walked.
-/
import Derived.Test.YtdhnjbiigpiecaaDoorVolF
import Derived.BigRegion
import Derived.OpenShut
import Derived.Deep.DeepCutAuto
import Derived.Deep.CutBlock
namespace Go.Proofs.YtdhnjbiigpiecaaDoor
open Go.RowKit

theorem swap_row {w wx : World} {g n k : Nat} {ps : List Part} {cur : Array Value} (hb : Blk w g 9 cur) (hr : RowS w g 0 (ps.map (volf n))) (h0 : 0 < ps.length) (hk : k < ps.length)
    (hx : Blk wx g 9 ((cur.setIfInBounds 0 (.string (bs (volf n ps[k])))).setIfInBounds k (.string (bs (volf n ps[0]))))) : RowS wx g 0 ((swapP ps k h0 hk).map (volf n)) := fun j hj => by
  have hj2 : j < ps.length := by simpa [swapP] using hj
  have hall : ∀ i, i < ps.length → i < cur.size := fun i hi => by
    have h := hr i (by simpa using hi)
    rw [Nat.zero_add, hb.cell] at h
    exact (Array.getElem?_eq_some_iff.1 h).1
  have hsz := hall j hj2
  rw [Nat.zero_add, hx.cell]
  simp only [Array.getElem?_setIfInBounds, Array.size_setIfInBounds, List.getElem_map, swapP, List.getElem_set]
  by_cases e1 : k = j
  · subst e1
    simp [hsz]
  · by_cases e2 : 0 = j
    · subst e2
      simp [e1, hsz]
    · have h := hr j (by simpa using hj2)
      rw [Nat.zero_add, hb.cell] at h
      simp [e1, e2, h]

theorem step_append_run {P : Program} {w w' : World} {ops : Array Oper} {o : Oper} {a : Act} {K : Act → World → Prop} {Q : Exit → Act → World → Prop} {E : Prop} (hgd : o.guard = none) (s x : Operand) (t : TypeId)
    (ho : o.op = .call { callee := .builtin .append, args := #[s, x], argTypes := #[t, t] }) (v u r : Value) (hs : a.eval s = v) (hx : a.eval x = u) (hrun : (Builtin.append_ #[t, t] o.type #[v, u]).run P w = .ok r w') (h : K (a.put o.dst r) w') :
    if Region.wanted o (yielded ops a.tmps) = true then Oper.wp P o a w K Q else E := by
  have hw : Region.wanted o (yielded ops a.tmps) = true := by simp [Region.wanted, hgd]
  rw [if_pos hw]
  unfold Oper.wp execOp
  simp only [ho, resolve, invoke, builtin, Sem.run_bind, Sem.run_pure, Result.andThen_ok, List.map_toArray, List.map_cons, List.map_nil, hs, hx, hrun]
  exact h
theorem keepB {w1 w' : World} {b n : Nat} {v : Value} (hb : b < w1.heap.size) (c : w1.cell? ⟨b, n, none⟩ = some v) (h : Below w1.heap.size w1 w') : w'.cell? ⟨b, n, none⟩ = some v ∧ Below w1.heap.size w1 w' :=
  ⟨(h.cell (p := ⟨b, n, none⟩) hb).trans c, h⟩
theorem below_allocB {a w : World} (h : Below a.heap.size a w) (o : Obj) : Below a.heap.size a (w.alloc o) := h.alloc h.size o
/-- A text appended to a row of texts that the call owns. -/
theorem append_text {w w1 : World} {B g : Nat} {v : Value} {l : List (List UInt8)} {x : ByteArray} (h : HasT w B v l) (hl : l.length ≤ 50) (hB : B ≤ w.heap.size) (hb1 : Below B w1 w) (hB1 : B ≤ w1.heap.size) (hc : w.cell? ⟨g, 0, none⟩ = some (.string x)) :
    ∃ gA capA wa, (Builtin.append_ #[23, 23] 23 #[v, .slice (some ⟨g, 0, none⟩) 1 1]).run Tryd.prog w = .ok (.slice (some ⟨gA, 0, none⟩) (l.length + 1) capA) wa ∧ gA < wa.heap.size ∧ RowS wa gA 0 (l ++ [x.data.toList]) ∧ Below B w1 wa := by
  obtain ⟨i0, i1, i2, i3, i4⟩ := info_parts infoTx
  obtain ⟨v', w', hrun, ho, hgr, _⟩ := run_append_own (P := Tryd.prog) (w := w) B 23 23 9 i0 _ 1 16 Tryd.underlying23 i1 i2 i3 i4 rfl (by decide) v l.length (txCells l) h ⟨g, 0, none⟩ 1 1 [.string x] rfl
    (fun j u hu => by
      have hplain : (⟨g, 0, none⟩ : Addr).add j = ⟨g, j, none⟩ := by unfold Addr.add; split <;> simp_all
      rw [hplain]
      cases j with
      | zero => simpa [hc] using hu
      | succ j => simp at hu) (by intro u hu; simp at hu; subst hu; rfl) (by unfold maxLen; omega) (by omega) hB
  have hT : HasT w' B v' (l ++ [x.data.toList]) := HasT.pushed (by rw [bs_of]; exact ho)
  rcases hT.ways with ⟨_, h0⟩ | ⟨gA, capA, cur, rfl, _, h2, _, _, _, _, h3⟩
  · simp at h0
  · rw [List.length_append, List.length_singleton] at hrun
    exact ⟨gA, capA, w', hrun, h2, h3, hb1.grown hgr hB (fun q hq => (World.ownsRow.lt h q hq).1)⟩
theorem del_row {w : World} {B N1 : Nat} {v : Value} {l : List (List UInt8)} (h : HasT w B v l) (hB : B ≤ w.heap.size) (k : Nat) (hk : k < l.length) (hN : N1 = l.length - 1) :
    Calls Tryd.prog 11 #[v, .int .i64 k, .int .i64 ((k : Int) + 1)] w fun e w' => ∃ g cap, e = .returned (.slice (some ⟨g, 0, none⟩) N1 cap) ∧ g < w'.heap.size ∧ RowS w' g 0 (l.take k ++ l.drop (k + 1)) ∧ Below B w w' := by
  refine (delete_texts h hB k hk).mono ?_
  rintro e w' ⟨g, cap, rfl, h1, h2, h3⟩
  refine ⟨g, cap, ?_, h1, h2, h3⟩
  rw [show (l.take k ++ l.drop (k + 1)).length = N1 by rw [List.length_append, List.length_take, List.length_drop]; omega]
theorem few_row {w : World} {n g cap k N1 : Nat} {ps : List Part} (hn : n ≤ 20) (hn1 : 1 ≤ n) (hok : ∀ q ∈ ps, q.1 < n ∧ q.2.length ≤ 3072) (hd : ps.Pairwise fun p q => p.1 ≠ q.1) (hps : ps.length = n) (hk : k < ps.length) (hN : N1 = n - 1)
    (hg : g < w.heap.size) (hrow : RowS w g 0 ((ps.map (volf n)).take k ++ (ps.map (volf n)).drop (k + 1))) (hE : ErrT w) :
    Calls Tryd.prog 8 #[.slice (some ⟨g, 0, none⟩) N1 cap] w fun e w' => e = .returned (.tuple #[.string ⟨#[]⟩, .iface 32 (.int .i64 (if n = 1 then 8 else 7))]) ∧ Below w.heap.size w w' := by
  have hsub : (ps.take k ++ ps.drop (k + 1)).Sublist ps := by
    have h1 : (ps.drop (k + 1)).Sublist (ps.drop k) := by
      rw [List.drop_eq_getElem_cons hk]
      exact List.sublist_cons_self _ _
    have h2 := (List.Sublist.refl (ps.take k)).append h1
    rwa [List.take_append_drop] at h2
  have hl : (ps.take k ++ ps.drop (k + 1)).length = N1 := by rw [List.length_append, List.length_take, List.length_drop]; omega
  by_cases h1 : n = 1
  · have h0 : N1 = 0 := by omega
    subst h0
    rw [if_pos h1]
    refine (join_none _ cap w).mono ?_
    rintro e w' ⟨rfl, rfl⟩
    exact ⟨rfl, Below.refl _ _⟩
  · rw [if_neg h1]
    have := join_few (cap := cap) hn hn1 (fun q hq => hok q (hsub.subset hq)) (hd.sublist hsub) hg hE (by omega) (by omega) (by rw [List.map_append, List.map_take, List.map_drop]; exact hrow) (by omega)
    rw [hl] at this
    exact this

set_option maxRecDepth 100000 in
set_option maxHeartbeats 40000000 in
theorem volumeBack_main (s : ByteArray) (blocks drop : Int) (ov : Value) (om : List Int) (w : World) (hE : ErrT w) (hO : IntsIn w ov om) :
    Calls Tryd.prog 4 #[.string s, .int .i64 blocks, ov, .int .i64 drop] w fun e w' => e = .returned (.bool true) ∧ Below w.heap.size w w' := by
  have PA := Lib.hid (parted_any w hE)
  have HE := Lib.hid hE
  obtain ⟨OX, ocap, rfl, hox⟩ := hO
  have HOX := Lib.hid hox
  clear hE hox
  by_cases hs : s.size ≤ 8000
  rotate_left
  · have hsi : (8000 : Int) < s.size := by omega
    go_enter Tryd.func4, Tryd.ntmps4
    go_wp2_with fail
    refine PA.out.mono ?_
    rintro e w1 ⟨rfl, h1⟩
    have B1 := Lib.hid h1
    clear h1
    go_wp2_with fail
    go_ret
    exact ⟨rfl, B1.out⟩
  have hsi : (s.size : Int) ≤ 8000 := by omega
  have p1 := pickN_lo blocks 6 (by omega)
  have p2 := pickN_hi blocks 6 (by omega)
  have PK := Lib.hid (fun w => pick_any blocks 6 w (by omega) (by omega))
  obtain ⟨K0, hK⟩ : ∃ K0, K0 = pickN blocks 6 := ⟨_, rfl⟩
  rw [← hK] at p1 p2 PK
  obtain ⟨K, rfl⟩ := Int.eq_ofNat_of_zero_le p1
  have SP0 := fun w => split_any s hs (K + 1) (by omega) (by omega) w
  rw [show (((K + 1 : Nat) : Int) + 1) = 2 + (K : Int) by omega] at SP0
  have hN2 := vmany_le s.data.toList.length ((K + 1) * 512) (by omega) (by rw [list_size]; omega)
  have hN1 : 1 ≤ vmany s.data.toList.length ((K + 1) * 512) := by unfold vmany; omega
  have HLN0 := fun i hi => len_part s.data.toList (K + 1) i (by omega) (by omega) (by omega) hi
  obtain ⟨R, hR⟩ : ∃ R, R = (K + 1) * 512 := ⟨_, rfl⟩
  rw [← hR] at SP0 hN1 hN2 HLN0
  have hR1 : 512 ≤ R := by omega
  have hR2 : R ≤ 3072 := by omega
  have SP := Lib.hid SP0
  have HVG := Lib.hid (vols_get s.data.toList R)
  have HVL := Lib.hid (vols_len s.data.toList R)
  have HVP := Lib.hid (vols_psOf s.data.toList R)
  have HPL := Lib.hid (psOf_len s.data.toList R)
  have HPA := Lib.hid (psOf_apart s.data.toList R)
  have HPO := Lib.hid (psOf_ok (s := s.data.toList) hR2)
  have HJP := Lib.hid (fun (ps : List Part) (hp : ps.Perm (psOf s.data.toList R)) => joinP_perm (s := s.data.toList) (R := R) (by omega) hp)
  have HLN := Lib.hid HLN0
  obtain ⟨N, hN⟩ : ∃ N, N = vmany s.data.toList.length R := ⟨_, rfl⟩
  obtain ⟨VL, hVL⟩ : ∃ VL, VL = vols s.data.toList R := ⟨_, rfl⟩
  obtain ⟨PS, hPS⟩ : ∃ PS, PS = psOf s.data.toList R := ⟨_, rfl⟩
  rw [← hN] at hN1 hN2 HVL HVG HPL HPO HLN HVP HJP
  rw [← hVL] at SP HVL HVG HVP
  rw [← hPS] at HPL HPA HPO HVP HJP
  have hNi : (N : Int) ≤ 16 := by omega
  have hNi1 : (1 : Int) ≤ N := by omega
  have hb5 : (2 : Int) + K ≤ 7 := by omega
  clear hK hN hVL hPS SP0 hR HLN0
  go_enter Tryd.func4, Tryd.ntmps4
  go_wp2_with fail
  refine PA.out.mono ?_
  rintro e w1 ⟨rfl, h1⟩
  have B1 := Lib.hid h1
  clear h1
  go_wp2_with fail
  refine (PK.out _).mono ?_
  rintro e w' ⟨rfl, hw⟩
  subst hw
  go_wp2_with fail
  refine (SP.out _).mono ?_
  rintro e w2 ⟨v, rfl, hv, h2⟩
  rcases hv.ways with ⟨_, h0⟩ | ⟨g, cap, cur, rfl, hg1, hg, hcap, hblk, hcs, hcm, hrow⟩
  · have := HVL.out; rw [h0] at this; simp at this; omega
  have B2 := Lib.hid (thenB B1.out h2)
  have HRW := Lib.hid hrow
  rw [HVL.out]
  clear h2 hv hblk hrow hcap hcs hcm
  go_wp2_with fail
  go_loopg [11] N (fun gg s11 wr => ∃ i : Nat, s11 = .int .i64 i ∧ i ≤ N ∧ gg = N - i ∧ wr = w2 ∧ True)
  case atStart => exact ⟨0, rfl, by omega, by omega, rfl, trivial⟩
  case round =>
    obtain ⟨i, rfl, hi, hgg, hww, _⟩ := hrel
    subst wr
    have HG := Lib.hid hgg
    clear hgg
    by_cases hil : i < N
    · have hii : (i : Int) < N := by omega
      have hiV : i < VL.length := by rw [HVL.out]; exact hil
      have hc0 := HRW.out i hiV
      rw [Nat.zero_add] at hc0
      obtain ⟨l1, l2⟩ := HLN.out i hil
      rw [← HVG.out i hiV] at l1 l2
      obtain ⟨V, hV⟩ : ∃ V, V = bs VL[i] := ⟨_, rfl⟩
      have hVs : V.size = VL[i].length := by rw [hV]; rfl
      rw [← hV] at hc0
      rw [← hVs] at l1 l2
      have m1 : (V.size : Int) ≤ (2 + (K : Int)) * 512 := by omega
      have m2 : ((2 : Int) + K) * 512 ≤ 4000 := by omega
      clear hV hVs
      by_cases hlast : i + 1 < N
      · have l3 := l2 hlast
        have m3 : (i : Int) + 1 < N := by omega
        have m4 : ((V.size : Int) != (2 + (K : Int)) * 512) = false := by simp; omega
        clear l2 l3
        go_wp2_with fail
        go_roundg (N - (i + 1))
        case measure => have := HG.out; omega
        case rel => exact ⟨i + 1, by go_num, by omega, by omega, rfl, trivial⟩
      · have m3 : (N : Int) ≤ (i : Int) + 1 := by omega
        clear l2
        go_wp2_with fail
        go_roundg (N - (i + 1))
        case measure => have := HG.out; omega
        case rel => exact ⟨i + 1, by go_num, by omega, by omega, rfl, trivial⟩
    · have hii : (N : Int) ≤ i := by omega
      have CL0 := clone_row (cap := cap) HRW.out (by rw [HVL.out]; omega)
      rw [HVL.out] at CL0
      have CL := Lib.hid CL0
      clear HG CL0
      go_wp2_with fail
      refine CL.out.mono ?_
      rintro e w3 ⟨m, rfl, hm, h3⟩
      rcases hm.ways with ⟨_, h0⟩ | ⟨g2, cap2, cur2, rfl, hg3, hg4, _, hbk2, _, _, hrow2⟩
      · have := HVL.out; rw [h0] at this; simp at this; omega
      rw [HVP.out] at hrow2
      have B3 := Lib.hid (thenB B2.out h3)
      have HG2 := Lib.hid (Nat.le_trans B2.out.size hg3)
      have HBK2 := Lib.hid hbk2
      have HRW2 := Lib.hid hrow2
      rw [HVL.out]
      clear h3 hm hbk2 hrow2 HRW CL hii hi hil
      go_upto_block 2 with (fail)
      go_cut [13, 14] (fun _ _ wx => ∃ (ps : List Part) (cur : Array Value), Hid (ps.Perm PS) ∧ Blk wx g2 9 cur ∧ RowS wx g2 0 (ps.map (volf N)) ∧ Below w.heap.size w wx)
      case first =>
        go_wp2_with fail
        go_loopg [13, 14] 100 (fun gg s13 _ wr => ∃ (i : Nat) (ps : List Part) (cur : Array Value), s13 = .int .i64 i ∧ i ≤ 100 ∧ gg = 100 - i ∧ Hid (ps.Perm PS) ∧ Blk wr g2 9 cur ∧ RowS wr g2 0 (ps.map (volf N)) ∧ Below w.heap.size w wr)
        case atStart => exact ⟨0, PS, cur2, rfl, by omega, by omega, Lib.hid (List.Perm.refl _), HBK2.out, HRW2.out, B3.out⟩
        case round =>
          obtain ⟨i2, ps, cur3, rfl, hi, hgg, HP, hbk, hrw, hbw⟩ := hrel
          have HG := Lib.hid hgg
          have HBK := Lib.hid hbk
          have HRW := Lib.hid hrw
          have HW := Lib.hid hbw
          clear hgg hbk hrw hbw HBK2 HRW2 B3
          have hpl : ps.length = N := by rw [HP.out.length_eq, HPL.out]
          have HPS := Lib.hid hpl
          by_cases hgo : i2 < om.length ∧ i2 < 100
          · obtain ⟨ho1, ho2⟩ := hgo
            have n1 : (i2 : Int) < om.length := by omega
            have n2 : (i2 : Int) < 100 := by omega
            rcases HOX.out with h0 | ⟨ob, ooff, rfl, hob, hoc⟩
            · rw [h0] at ho1; cases ho1
            have hco := (HW.out.cell (p := ⟨ob, ooff + i2, none⟩) hob).trans (hoc i2 ho1)
            obtain ⟨x, hx⟩ : ∃ x, x = om[i2] := ⟨_, rfl⟩
            rw [← hx] at hco
            have r1 := pickN_lo x N (by omega)
            have r2 := pickN_hi x N (by omega)
            have PKN := Lib.hid (fun w => pick_any x N w (by omega) (by omega))
            obtain ⟨k0, hk0⟩ : ∃ k0, k0 = pickN x N := ⟨_, rfl⟩
            rw [← hk0] at r1 r2 PKN
            obtain ⟨k, rfl⟩ := Int.eq_ofNat_of_zero_le r1
            have hkp : k < ps.length := by omega
            have h0p : 0 < ps.length := by omega
            have hc0 := HRW.out 0 (by simpa using h0p)
            have hck := HRW.out k (by simpa using hkp)
            rw [Nat.zero_add] at hck
            rw [Nat.zero_add] at hc0
            simp only [List.getElem_map] at hc0 hck
            have HSW := Lib.hid (fun wx hx => swap_row (wx := wx) HBK.out HRW.out h0p hkp hx)
            have HSP := Lib.hid ((swapP_perm ps k h0p hkp).trans HP.out)
            obtain ⟨A, hA⟩ : ∃ A, A = bs (volf N ps[0]) := ⟨_, rfl⟩
            obtain ⟨C, hC⟩ : ∃ C, C = bs (volf N ps[k]) := ⟨_, rfl⟩
            rw [← hA] at hc0
            rw [← hC] at hck
            rw [← hA, ← hC] at HSW
            have f0 := HBK.out.frozen 0
            have fk := HBK.out.frozen k
            have n3 : (k : Int) < N := by omega
            have n4 : (0 : Int) < N := by omega
            clear hA hC hx hk0 hpl
            repeat' ((fail_if_success (with_reducible refine halt_at 18 ?_)); first | go_values | go_skip | go_guarded | go_step | go_upon | go_back | (simp only [Int.not_lt, Int.not_le] at *; go_simp) | (go_values <;> (try go_simp)) | (go_ite <;> go_prune <;> (try go_simp)) | (split <;> (first | (rename_i hx; exact (hx _ rfl).elim) | go_prune)))
            go_wp2_with fail
            refine (PKN.out _).mono ?_
            rintro e w' ⟨rfl, hw⟩
            subst hw
            repeat' ((fail_if_success (with_reducible refine halt_at 19 ?_)); first | go_values | go_skip | go_guarded | go_step | go_upon | go_back | (simp only [Int.not_lt, Int.not_le] at *; go_simp) | (go_values <;> (try go_simp)) | (go_ite <;> go_prune <;> (try go_simp)) | (split <;> (first | (rename_i hx; exact (hx _ rfl).elim) | go_prune)))
            by_cases hk0 : k = 0
            · subst hk0
              obtain rfl : A = C := by
                have := hc0.symm.trans hck
                simpa using this
              go_region
              all_goals go_wp2_with fail
              all_goals go_roundg (100 - (i2 + 1))
              case measure => have := HG.out; omega
              case rel =>
                have hb := ((HBK.out.set_ 0 (.string A)).set_ 0 (.string A)).drew
                exact ⟨i2 + 1, _, _, by go_num, by omega, by omega, HSP, hb, HSW.out _ hb, ((HW.out.setCell (p := ⟨g2, 0, none⟩) HG2.out _).setCell (p := ⟨g2, 0, none⟩) HG2.out _).drew⟩
            · go_region
              all_goals go_wp2_with fail
              all_goals go_roundg (100 - (i2 + 1))
              case measure => have := HG.out; omega
              case rel =>
                have hb := ((HBK.out.set_ 0 (.string C)).set_ k (.string A)).drew
                exact ⟨i2 + 1, _, _, by go_num, by omega, by omega, HSP, hb, HSW.out _ hb, ((HW.out.setCell (p := ⟨g2, 0, none⟩) HG2.out _).setCell (p := ⟨g2, k, none⟩) HG2.out _).drew⟩
          · have hex : (om.length : Int) ≤ i2 ∨ ((i2 : Int) < om.length ∧ (100 : Int) ≤ i2) := by omega
            clear hgo hpl
            rcases hex with n1 | ⟨n1, n2⟩
            all_goals
              go_wp2_with fail
              go_meet
              exact ⟨ps, cur3, HP, HBK.out, HRW.out, HW.out⟩
      case rest =>
        obtain ⟨ps, cur3, HP, hbk, hrw, hbw⟩ := hcut
        have HBK := Lib.hid hbk
        have HRW := Lib.hid hrw
        have HW := Lib.hid hbw
        clear hbk hrw hbw HBK2 HRW2 B3
        have hpl : ps.length = N := by rw [HP.out.length_eq, HPL.out]
        have HPS := Lib.hid hpl
        have JA0 := join_all (cap := cap2) (by omega) hN1 (fun q hq => HPO.out q (HP.out.mem_iff.1 hq)) (apart_perm HP.out HPA.out) HBK.out.lt (HE.out.below HW.out) (by omega) HRW.out hpl
        rw [HJP.out ps HP.out, bs_of] at JA0
        have JA := Lib.hid JA0
        have ee : (s.toList == s.toList) = true := by simp
        have r1 := pickN_lo drop N (by omega)
        have r2 := pickN_hi drop N (by omega)
        have PKN := Lib.hid (fun w => pick_any drop N w (by omega) (by omega))
        obtain ⟨k0, hk0⟩ : ∃ k0, k0 = pickN drop N := ⟨_, rfl⟩
        rw [← hk0] at r1 r2 PKN
        obtain ⟨k, rfl⟩ := Int.eq_ofNat_of_zero_le r1
        have hkp : k < ps.length := by omega
        obtain ⟨N1, hNN⟩ : ∃ N1, N1 = N - 1 := ⟨_, rfl⟩
        have FW := Lib.hid (fun (w' : World) (g : Nat) (cap : Nat) (h : Below w.heap.size w w') (hg : g < w'.heap.size) (hr : RowS w' g 0 ((ps.map (volf N)).take k ++ (ps.map (volf N)).drop (k + 1))) =>
          few_row (cap := cap) (by omega) hN1 (fun q hq => HPO.out q (HP.out.mem_iff.1 hq)) (apart_perm HP.out HPA.out) hpl hkp hNN hg hr (HE.out.below h))
        have DE := Lib.hid (fun (w' : World) (B : Nat) (v : Value) (h : HasT w' B v (ps.map (volf N))) (hB : B ≤ w'.heap.size) => del_row (N1 := N1) h hB k (by rw [List.length_map]; exact hkp) (by rw [List.length_map, hpl]; exact hNN))
        have CLN := Lib.hid (fun (w' : World) (hr : RowS w' g2 0 (ps.map (volf N))) => by
          have := clone_row (cap := cap2) hr (by rw [List.length_map]; omega)
          rw [List.length_map, hpl] at this
          exact this)
        clear JA0 hk0 hpl hNN
        go_wp2_with fail
        refine JA.out.mono ?_
        rintro e w4 ⟨rfl, h4⟩
        have B4 := Lib.hid (thenB HW.out h4)
        have HRW4 := Lib.hid (HRW.out.below h4 HBK.out.lt)
        have HL4 := Lib.hid (Nat.lt_of_lt_of_le HBK.out.lt h4.size)
        clear h4
        go_wp2_with fail
        refine (PKN.out _).mono ?_
        rintro e w' ⟨rfl, hw⟩
        subst hw
        go_wp2_with fail
        refine (CLN.out _ HRW4.out).mono ?_
        rintro e w5 ⟨v5, rfl, hv5, h5⟩
        have B5 := Lib.hid (thenB B4.out h5)
        have H5 := Lib.hid hv5
        have HRW5 := Lib.hid (HRW4.out.below h5 HL4.out)
        have HS5 := Lib.hid h5.size
        clear h5 hv5
        go_wp2_with fail
        refine (DE.out _ _ _ H5.out HS5.out).mono ?_
        rintro e w6 ⟨g5, cap5, rfl, hg6, hr6, h6⟩
        have B6 := Lib.hid (B5.out.trans (h6.mono B4.out.size))
        have HRW6 := Lib.hid (HRW5.out.below h6 HL4.out)
        have HS6 := Lib.hid (Nat.le_trans HS5.out h6.size)
        have FW6 := Lib.hid (FW.out w6 g5 cap5 B6.out hg6 hr6)
        clear h6 hg6 hr6
        obtain ⟨d, hd⟩ : ∃ d : Int, d = if N = 1 then 8 else 7 := ⟨_, rfl⟩
        rw [← hd] at FW6
        have HD := Lib.hid hd
        clear hd
        go_wp2_with fail
        refine FW6.out.mono ?_
        rintro e w7 ⟨rfl, h7⟩
        have B7 := Lib.hid (thenB B6.out h7)
        have HL7 := Lib.hid (Nat.lt_of_lt_of_le HL4.out (Nat.le_trans HS6.out h7.size))
        have HRW7 := Lib.hid (HRW6.out.below h7 (Nat.lt_of_lt_of_le HL4.out HS6.out))
        clear h7
        have hck := HRW7.out k (by simpa using hkp)
        rw [Nat.zero_add] at hck
        simp only [List.getElem_map] at hck
        obtain ⟨V, hV⟩ : ∃ V, V = bs (volf N ps[k]) := ⟨_, rfl⟩
        have hVl : V.data.toList = volf N ps[k] := by rw [hV]; rfl
        rw [← hV] at hck
        have JT := Lib.hid (fun (w' : World) (g cap : Nat) (h : Below w.heap.size w w') (hg : g < w'.heap.size) (hr : RowS w' g 0 (ps.map (volf N) ++ [V.data.toList])) => by
          rw [hVl] at hr
          have := join_twice (cap := cap) (by omega) hN1 (fun q hq => HPO.out q (HP.out.mem_iff.1 hq)) (apart_perm HP.out HPA.out) hg (HE.out.below h) (by have := HPS.out; omega) k hkp hr
          rw [HPS.out] at this
          exact this)
        have AP := Lib.hid (fun (w' : World) (g : Nat) (v : Value) (h : HasT w' w7.heap.size v (ps.map (volf N))) (hb : Below w7.heap.size w7 w') (hc : w'.cell? ⟨g, 0, none⟩ = some (.string V)) => by
          have := append_text (w1 := w7) h (by rw [List.length_map]; have := HPS.out; omega) hb.size hb (Nat.le_refl _) hc
          rw [List.length_map, HPS.out] at this
          exact this)
        have hb7 := Below.refl w7.heap.size w7
        have n3 : (k : Int) < N := by omega
        clear hV hVl
        repeat' ((fail_if_success (with_reducible refine halt_at 25 ?_)); first | go_values | go_skip | go_guarded | go_step | go_upon | go_back | (simp only [Int.not_lt, Int.not_le] at *; go_simp) | (go_values <;> (try go_simp)) | (go_ite <;> go_prune <;> (try go_simp)) | (split <;> (first | (rename_i hx; exact (hx _ rfl).elim) | go_prune)))
        go_cut [19, 20] (fun _ s20 wx => ∃ B, s20 = .iface 51 (.pointer (some ⟨B, 0, none⟩)) ∧ wx.cell? ⟨B, 0, none⟩ = some (.int .i64 9) ∧ Below w7.heap.size w7 wx)
        case first =>
          go_region_held3 (fun w' => w'.cell? ⟨g2, k, none⟩ = some (.string V) ∧ Below w7.heap.size w7 w')
            (first | (go_split_ands; refine keepB HL7.out hck ?_; (repeat' (first
              | with_reducible assumption
              | with_reducible refine Below.drew ?_
              | with_reducible refine below_allocB ?_ _)); done))
            (first
              | (go_at_call 10; go_split_ands; refine (CLN.out _ (HRW7.out.below (by with_reducible assumption) HL7.out)).mono ?_; rintro e wt ⟨v8, rfl, hv8, TC⟩; have TB : Below w7.heap.size w7 wt := (by with_reducible exact thenB (by assumption) TC);
                 (first
                   | (have hlt : w7.heap.size < wt.heap.size := (by have := TC.size; simp at this; omega); obtain ⟨gA, capA, wa, hap, hgA, hrA, hbA⟩ := AP.out wt w7.heap.size v8 (hv8.mono (by simp)) TB ((TC.cell (p := ⟨w7.heap.size, 0, none⟩) (by simp)).trans ((Blk.new w7 9 #[.string V]).cell 0)); have HA1 := Lib.hid hgA; have HA2 := Lib.hid hrA; clear hgA hrA hv8 TC)
                   | (obtain ⟨gA, capA, wa, hap, hgA, hrA, hbA⟩ := AP.out (wt.alloc (.cells #[.string V] 9)) wt.heap.size v8 ((hv8.mono (by simp)).later ((Below.refl _ _).alloc (Nat.le_refl _) _)) (TB.alloc TB.size _) ((Blk.new wt 9 #[.string V]).cell 0); have HA1 := Lib.hid hgA; have HA2 := Lib.hid hrA; clear hgA hrA hv8 TC)
                   | fail))
              | (refine step_append_run (by rfl) (.tmp 130) (.tmp 135) 23 (by rfl) _ _ _ (by rfl) (by rfl) hap ?_)
              | (go_at_call 8; (with_reducible refine (JT.out _ _ _ (thenB B7.out hbA) HA1.out HA2.out).mono ?_); rintro e wj ⟨BJ, rfl, hcJ, hbJ⟩; have TJ : Below w7.heap.size w7 wj := thenB hbA hbJ; have CJ := Lib.hid hcJ; clear hcJ hbJ)
              | fail)
          all_goals go_wp2_with fail
          all_goals go_meet
          all_goals exact ⟨BJ, rfl, CJ.out, TJ⟩
        case rest =>
          obtain ⟨BT, rfl, hcT, hbT⟩ := hcut
          have TA := Lib.hid (tell_at 9 ⟨BT, 0, none⟩ wc (HE.out.below (thenB B7.out hbT)) hcT)
          have TE := Lib.hid (fun w' (h : Below w.heap.size w w') => tell_errno d w' (HE.out.below h))
          have BC := Lib.hid (thenB B7.out hbT)
          clear hcT hbT
          by_cases h1 : N = 1
          · have hd := HD.out
            rw [if_pos h1] at hd
            subst hd
            subst h1
            go_wp2_with fail
            refine TA.out.mono ?_
            rintro e wa ⟨rfl, ha⟩
            have BA := Lib.hid (thenB BC.out ha)
            clear ha
            go_wp2_with fail
            refine (TE.out _ BA.out).mono ?_
            rintro e wb ⟨rfl, hb⟩
            have BB := Lib.hid (thenB BA.out hb)
            clear hb
            go_wp2_with fail
            refine (TE.out _ BB.out).mono ?_
            rintro e wd ⟨rfl, hd⟩
            have BD := Lib.hid (thenB BB.out hd)
            clear hd
            go_wp2_with fail
            go_ret
            exact ⟨rfl, BD.out⟩
          · have hd := HD.out
            rw [if_neg h1] at hd
            subst hd
            go_wp2_with fail
            refine TA.out.mono ?_
            rintro e wa ⟨rfl, ha⟩
            have BA := Lib.hid (thenB BC.out ha)
            clear ha
            go_wp2_with fail
            refine (TE.out _ BA.out).mono ?_
            rintro e wb ⟨rfl, hb⟩
            have BB := Lib.hid (thenB BA.out hb)
            clear hb
            go_wp2_with fail
            go_ret
            exact ⟨rfl, BB.out⟩

end Go.Proofs.YtdhnjbiigpiecaaDoor
