/-
  The walk of TreeBack.
-/
import Derived.Test.YtehooifcgfkngaaDoorTreeCopy
import Derived.Test.YtehooifcgfkngaaDoorTreeSame
import Derived.Test.YtehooifcgfkngaaDoorPick
namespace Go.Proofs.YtehooifcgfkngaaDoor
open Go.RowKit Go.Maps Tre

theorem errV_zero : errV 0 = .nilIface := rfl
theorem far_own {P : Nat → Prop} {g : Nat} {on of on' of' : Option Nat} {n : Nat} (h : ∀ b ∈ own g on of, P b) (k : ∀ b ∈ own g on' of', b ∈ own g on of ∨ n ≤ b) (hn : ∀ b, n ≤ b → P b) : ∀ b ∈ own g on' of', P b := fun b hb => (k b hb).elim (h b) (hn b)

set_option maxRecDepth 100000 in
set_option maxHeartbeats 8000000 in
theorem treeBack_main (v : Value) (l : List Deed) (which : Int) (dl : Pth.Bs) (w : World) (hD : DeedsIn w v l) (hm : ML w) :
    Calls Tryd.prog 6 #[v, .int .i64 which, .string (bs dl)] w fun e w' => e = .returned (.bool true) ∧ Below w.heap.size w w' := by
  have GR := Lib.hid (grown_any w hm)
  have PL := Lib.hid (fun w' (hb : Below w.heap.size w w') => planted_any (hD.below hb) (hm.below hb))
  have HM := Lib.hid hm
  have hD2 := hD
  obtain ⟨X, cap, rfl, _⟩ := hD2
  clear hD hm
  go_enter Tryd.func6, Tryd.ntmps6
  go_wp2_with fail
  refine GR.out.mono ?_
  rintro e w1 ⟨rfl, h1⟩
  have B1 := Lib.hid h1
  clear h1
  go_wp2_with fail
  refine (PL.out _ B1.out).mono ?_
  rintro e w2 ⟨h2, ⟨hb, rfl⟩ | ⟨hb, g, on, of, rfl, hT, hO⟩⟩
  · have B2 := Lib.hid (thenB B1.out h2)
    clear h2
    go_wp2_with fail
    go_ret
    exact ⟨rfl, B2.out⟩
  have B2 := Lib.hid (thenB B1.out h2)
  have hl60 := bigL_len hb
  have hnx0 := plant_nx l
  have HS := Lib.hid (plant_std l)
  have HT := Lib.hid hT
  have HO := Lib.hid (fun b hb => Nat.le_trans B1.out.size (hO b hb))
  obtain ⟨t, ht⟩ : ∃ t, t = plant l := ⟨_, rfl⟩
  rw [← ht] at HT HS hnx0
  have hnx : t.nx ≤ 60 := by omega
  have NM := Lib.hid (names_any HT.out HS.out (HM.out.below B2.out))
  clear h2 hb hT hO ht GR PL hnx0
  by_cases hd : 200 < (bs dl).size
  · have hdi : (200 : Int) < (bs dl).size := by omega
    go_wp2_with fail
    go_ret
    exact ⟨rfl, B2.out⟩
  have hdi : ¬ (200 : Int) < (bs dl).size := by omega
  go_wp2_with fail
  refine NM.out.mono ?_
  rintro e w3 ⟨v3, rfl, hv, h3⟩
  have B3 := Lib.hid (thenB B2.out h3)
  have T3 := Lib.hid (HT.out.below h3)
  have hs := hv.has
  clear hv h3 NM
  have hln : t.names.length ≤ 60 := by rw [names_len]; exact HS.out.cn
  rcases hs.ways with ⟨A, c3, rfl, h0⟩ | ⟨b, off, c3, rfl, hc3, _, hb, hpos, hrow⟩
  · go_wp2_with fail
    go_ret
    exact ⟨rfl, B3.out⟩
  have HR := Lib.hid hrow
  have HNAME := Lib.hid (fun (s : Pth.Bs) (h : s ∈ t.names) => HS.out.name h)
  obtain ⟨L, hL⟩ : ∃ L, L = t.names := ⟨_, rfl⟩
  rw [← hL] at HR HNAME hln hpos hc3 ⊢
  have p1 := pickN_lo which L.length (by omega)
  have p2 := pickN_hi which L.length (by omega)
  have PK := Lib.hid (fun w => pick_any which L.length w (by omega) (by omega))
  obtain ⟨k0, hk0⟩ : ∃ k0, k0 = pickN which L.length := ⟨_, rfl⟩
  rw [← hk0] at p1 p2 PK
  obtain ⟨k, rfl⟩ := Int.eq_ofNat_of_zero_le p1
  have hkl : k < L.length := by omega
  have hne : ((L.length : Int) == 0) = false := beq_eq_false_iff_ne.2 (by omega)
  have c0 := HR.out k hkl
  have hmemk : L[k] ∈ L := List.getElem_mem hkl
  obtain ⟨a, ha⟩ : ∃ a, a = L[k] := ⟨_, rfl⟩
  rw [← ha] at c0 hmemk
  obtain ⟨ka, hka, har, _, _⟩ := HNAME.out a hmemk
  have hal := (right_len har).1
  have hll : (L.length : Int) ≤ 60 := by omega
  have HKA := Lib.hid hka
  have hd200 : dl.length ≤ 200 := by have : (bs dl).size = dl.length := rfl; omega
  have HHAS := Lib.hid (show t.has a = true by unfold T.has; rw [hka]; rfl)
  clear hs hL hk0 ha hmemk hka har hrow HNAME HR hd hdi
  have CPY := Lib.hid (fun w' (h : TreeAt w' g on of t) => copy_any h)
  have D1 := Lib.hid (fun w' (h : TreeAt w' g on of t) (hm : ML w') => do_tree h HS.out (by omega) hm ⟨4, a, dl, 0, zero⟩ (Nat.zero_le _) (by simp only; omega) (by simp only; omega) (Nat.zero_le _) (Nat.zero_le _))
  obtain ⟨C1, hC1⟩ : ∃ C, C = act t ⟨4, a, dl, 0, zero⟩ := ⟨_, rfl⟩
  rw [← hC1] at D1
  obtain ⟨C2, hC2⟩ : ∃ C, C = act t ⟨2, a, dl, 0, zero⟩ := ⟨_, rfl⟩
  have D4 := Lib.hid (fun w' on' of' (h : TreeAt w' g on' of' t) (hm : ML w') => do_tree h HS.out (by omega) hm ⟨2, a, dl, 0, zero⟩ (Nat.zero_le _) (by simp only; omega) (by simp only; omega) (Nat.zero_le _) (Nat.zero_le _))
  rw [← hC2] at D4
  have S1 := Lib.hid (show Std C1.1 by rw [hC1]; exact HS.out.act _)
  have S2 := Lib.hid (show Std C2.1 by rw [hC2]; exact HS.out.act _)
  have x1 : C1.1.nx ≤ t.nx + 1 := by rw [hC1]; exact (act_nx t _).1
  have x2 : C2.1.nx ≤ t.nx + 1 := by rw [hC2]; exact (act_nx t _).1
  have D2 := Lib.hid (fun w' on' of' (h : TreeAt w' g on' of' C1.1) (hm : ML w') => do_tree h S1.out (by omega) hm ⟨4, dl, a, 0, zero⟩ (Nat.zero_le _) (by simp only; omega) (by simp only; omega) (Nat.zero_le _) (Nat.zero_le _))
  have D5 := Lib.hid (fun w' on' of' (h : TreeAt w' g on' of' C2.1) (hm : ML w') => do_tree h S2.out (by omega) hm ⟨3, dl, [], 0, zero⟩ (Nat.zero_le _) (by simp only; omega) (Nat.zero_le _) (Nat.zero_le _) (Nat.zero_le _))
  have LAW1 := Lib.hid (fun (h : C1.2 = 0) => there_back HS.out HHAS.out (x := ⟨4, a, dl, 0, zero⟩) (y := ⟨4, dl, a, 0, zero⟩) ⟨rfl, rfl, rfl⟩ ⟨rfl, rfl, rfl⟩ (by rw [← hC1]; exact h))
  have LAW2 := Lib.hid (fun (h : C2.2 = 0) => again_gone HS.out HHAS.out (x := ⟨2, a, dl, 0, zero⟩) (y := ⟨3, dl, [], 0, zero⟩) ⟨rfl, rfl, rfl⟩ ⟨rfl, rfl⟩ (by rw [← hC2]; exact h))
  have ERR1 := Lib.hid (fun (h : C1.2 ≠ 0) => (show C1.1 = t by rw [hC1] at h ⊢; exact act_err h))
  have SAME1 := Lib.hid (fun w' g1 n1 f1 n2 f2 (h1 : TreeAt w' g1 n1 f1 t) (h2 : TreeAt w' g n2 f2 C1.1) (hn : ¬ Same t C1.1) => same_any h1 h2 HS.out S1.out (by omega) (by omega) false ⟨(fun e => nomatch e), fun s => (hn s).elim⟩)
  have SELF := Lib.hid (same_self HS.out.nd)
  have SAME2 := Lib.hid (fun w' g1 n1 f1 n2 f2 (h1 : TreeAt w' g1 n1 f1 t) (h2 : TreeAt w' g n2 f2 t) => same_any h1 h2 HS.out HS.out (by omega) (by omega) true ⟨fun _ => SELF.out, fun _ => rfl⟩)
  rw [← hC1] at LAW1
  rw [← hC2] at LAW2
  unfold zero at LAW1 LAW2
  unfold dv dvc zero at D1 D2 D4 D5
  simp only at D1 D2 D4 D5
  clear hC1 hC2
  go_wp2_with fail
  refine (PK.out _).mono ?_
  rintro e w' ⟨rfl, hw⟩
  subst w'
  go_wp2_with fail
  refine (CPY.out _ T3.out).mono ?_
  rintro e w4 ⟨g', o1, o2, rfl, hcp, hfr, h4⟩
  have T4 := Lib.hid (T3.out.below h4)
  have U4 := Lib.hid hcp
  have B4 := Lib.hid (thenB B3.out h4)
  have FR := Lib.hid (fun b (hb : b ∈ own g' o1 o2) => (hfr b hb : w3.heap.size ≤ b))
  have NE4 := Lib.hid (fun b (hb : b ∈ own g' o1 o2) (hn : b ∈ own g on of) => (by have := hfr b hb; have := T3.out.lt b hn; omega : False))
  clear hcp hfr h4 c0 PK CPY
  have OW4 := Lib.hid (fun b (hb : b ∈ own g on of) => (HO.out b hb : w.heap.size ≤ b))
  have D1' := D1.out _ T4.out (HM.out.below B4.out)
  go_wp2_with fail
  refine D1'.mono ?_
  rintro e w5 ⟨rfl, n1, f1, k1, k2, k3⟩
  have Uw5 := Lib.hid (U4.out.kept k3.size (fun b hb => k3.block b (U4.out.lt b hb) (fun hn => NE4.out b hb hn)))
  have NEw5 := Lib.hid (fun b (hb : b ∈ own g' o1 o2) (hn : b ∈ own g n1 f1) => ((k2 b hn).elim (NE4.out b hb) (fun h => by have := U4.out.lt b hb; omega) : False))
  have Bw5 := Lib.hid (B4.out.trans (k3.down OW4.out B4.out.size))
  have OWw5 := Lib.hid (far_own OW4.out k2 (fun b hb => Nat.le_trans B4.out.size hb))
  have Kw5 := Lib.hid k1
  clear k1 k2 k3
  by_cases h0 : C1.2 = 0
  focus
    have e1 : errV C1.2 = .nilIface := by rw [h0]; rfl
    obtain ⟨l1, l2⟩ := LAW1.out h0
    have D2' := D2.out
    rw [l2] at D2'
    simp only at D2'
    rw [errV_zero] at D2'
    have D2 := Lib.hid D2'
    have L1 := Lib.hid l1
    rw [e1]
    clear e1 h0 l2 D2' l1
    go_wp2_with fail
    refine (SAME1.out _ _ _ _ _ _ Uw5.out Kw5.out L1.out).mono ?_
    rintro e w6 ⟨rfl, h6⟩
    have T6 := Lib.hid (Kw5.out.below h6)
    have U6 := Lib.hid (Uw5.out.below h6)
    have B6 := Lib.hid (thenB Bw5.out h6)
    clear h6
    have D2' := D2.out _ _ _ T6.out (HM.out.below B6.out)
    go_wp2_with fail
    refine D2'.mono ?_
    rintro e w7 ⟨rfl, n2, f2, k1, k2, k3⟩
    have Uw7 := Lib.hid (U6.out.kept k3.size (fun b hb => k3.block b (U6.out.lt b hb) (fun hn => NEw5.out b hb hn)))
    have NEw7 := Lib.hid (fun b (hb : b ∈ own g' o1 o2) (hn : b ∈ own g n2 f2) => ((k2 b hn).elim (NEw5.out b hb) (fun h => by have := U6.out.lt b hb; omega) : False))
    have Bw7 := Lib.hid (B6.out.trans (k3.down OWw5.out B6.out.size))
    have OWw7 := Lib.hid (far_own OWw5.out k2 (fun b hb => Nat.le_trans B6.out.size hb))
    have Kw7 := Lib.hid k1
    clear k1 k2 k3
    clear D2'
    go_wp2_with fail
    refine (SAME2.out _ _ _ _ _ _ Uw7.out Kw7.out).mono ?_
    rintro e w8 ⟨rfl, h8⟩
    have T9 := Lib.hid (Kw7.out.below h8)
    have U9 := Lib.hid (Uw7.out.below h8)
    have NE9 := Lib.hid NEw7.out
    have OW9 := Lib.hid OWw7.out
    have B9 := Lib.hid (thenB Bw7.out h8)
    clear h8 NEw7 OWw7 Uw7 Kw7 Bw7
  rotate_left
  focus
    have e1 : errV C1.2 = .iface 67 (.int .i64 C1.2) := if_neg h0
    have e2 := ERR1.out h0
    rw [e1]
    rw [e2] at Kw5
    clear e1 e2
    have T9 := Lib.hid Kw5.out
    have U9 := Lib.hid Uw5.out
    have NE9 := Lib.hid NEw5.out
    have OW9 := Lib.hid OWw5.out
    have B9 := Lib.hid Bw5.out
  all_goals
    have D4' := D4.out _ _ _ T9.out (HM.out.below B9.out)
    go_wp2_with fail
    refine D4'.mono ?_
    rintro e wA ⟨rfl, n3, f3, k1, k2, k3⟩
    have UwA := Lib.hid (U9.out.kept k3.size (fun b hb => k3.block b (U9.out.lt b hb) (fun hn => NE9.out b hb hn)))
    have NEwA := Lib.hid (fun b (hb : b ∈ own g' o1 o2) (hn : b ∈ own g n3 f3) => ((k2 b hn).elim (NE9.out b hb) (fun h => by have := U9.out.lt b hb; omega) : False))
    have BwA := Lib.hid (B9.out.trans (k3.down OW9.out B9.out.size))
    have OWwA := Lib.hid (far_own OW9.out k2 (fun b hb => Nat.le_trans B9.out.size hb))
    have KwA := Lib.hid k1
    clear k1 k2 k3
    by_cases h0 : C2.2 = 0
    · have e1 : errV C2.2 = .nilIface := by rw [h0]; rfl
      obtain ⟨l1, l2⟩ := LAW2.out h0
      have D5' := D5.out
      rw [l2] at D5'
      simp only at D5'
      rw [errV_zero] at D5'
      have D5 := Lib.hid D5'
      have AL := Lib.hid (alike_any KwA.out (bs a) (bs dl) (by rw [bs_size]; omega) (by rw [bs_size]; omega))
      rw [bs_list, bs_list, l1] at AL
      rw [e1]
      clear e1 h0 l2 D5' l1
      go_wp2_with fail
      refine AL.out.mono ?_
      rintro e w' ⟨rfl, hw⟩
      subst w'
      have D5' := D5.out _ _ _ KwA.out (HM.out.below BwA.out)
      go_wp2_with fail
      refine D5'.mono ?_
      rintro e wB ⟨rfl, n4, f4, k1, k2, k3⟩
      have UwB := Lib.hid (UwA.out.kept k3.size (fun b hb => k3.block b (UwA.out.lt b hb) (fun hn => NEwA.out b hb hn)))
      have NEwB := Lib.hid (fun b (hb : b ∈ own g' o1 o2) (hn : b ∈ own g n4 f4) => ((k2 b hn).elim (NEwA.out b hb) (fun h => by have := UwA.out.lt b hb; omega) : False))
      have BwB := Lib.hid (BwA.out.trans (k3.down OWwA.out BwA.out.size))
      have OWwB := Lib.hid (far_own OWwA.out k2 (fun b hb => Nat.le_trans BwA.out.size hb))
      have KwB := Lib.hid k1
      clear k1 k2 k3
      clear D5'
      go_wp2_with fail
      refine (SAME2.out _ _ _ _ _ _ UwB.out KwB.out).mono ?_
      rintro e wC ⟨rfl, h8⟩
      go_wp2_with fail
      go_ret
      exact ⟨rfl, thenB BwB.out h8⟩
    · have e1 : errV C2.2 = .iface 67 (.int .i64 C2.2) := if_neg h0
      rw [e1]
      clear e1
      go_wp2_with fail
      go_ret
      exact ⟨rfl, BwA.out⟩

set_option maxRecDepth 100000 in
theorem treeBack_walk {H : Type} {enc : TypeId × Value → H} {w : World} {d : DataW H} {ps : List MemPlace} {base : Nat} (v : Value) (hok : Value.okWide Tryd.prog w .any base 22 v)
    (h : DataW.Trod enc Tryd.prog w 0 (fun _ => true) true 22 v d ps) (hz : ∀ n ∈ d.weights Tryd.prog 22, n ≤ reachBytes) (which : Int) (_hw : (Lit.int .i64 which).wf = true) (data : ByteArray) (_hd : data.size ≤ 140737488351232) (hsh : ML w) :
    Calls Tryd.prog 6 #[v, .int .i64 which, .string data] w fun e w' => e = .returned (.bool true) ∧ Below w.heap.size w w' := by
  obtain ⟨l, hl⟩ := deeds_of hok h hz
  have := treeBack_main v l which data.data.toList w hl hsh
  rw [bs_of] at this
  exact this

end Go.Proofs.YtehooifcgfkngaaDoor
