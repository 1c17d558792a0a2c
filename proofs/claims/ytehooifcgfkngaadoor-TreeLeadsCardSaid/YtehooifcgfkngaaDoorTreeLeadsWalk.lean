/-
  The walk of TreeLeads.
-/
import Derived.Test.YtehooifcgfkngaaDoorFollowW
import Derived.Test.YtehooifcgfkngaaDoorTreeQ
namespace Go.Proofs.YtehooifcgfkngaaDoor
open Go.RowKit Go.Maps Tre

set_option maxRecDepth 100000 in
set_option maxHeartbeats 8000000 in
theorem treeLeads_main (v : Value) (l : List Deed) (s : Pth.Bs) (w : World) (hD : DeedsIn w v l) (hm : ML w) :
    Calls Tryd.prog 8 #[v, .string (bs s)] w fun e w' => e = .returned (.bool true) ∧ Below w.heap.size w w' := by
  have GR := Lib.hid (grown_any w hm)
  have PL := Lib.hid (fun w' (hb : Below w.heap.size w w') => planted_any (hD.below hb) (hm.below hb))
  have HM := Lib.hid hm
  have hD2 := hD
  obtain ⟨X, cap, rfl, _⟩ := hD2
  clear hD hm
  go_enter Tryd.func8, Tryd.ntmps8
  go_wp2_with fail
  refine GR.out.mono ?_
  rintro e w1 ⟨rfl, h1⟩
  have B1 := Lib.hid h1
  clear h1
  go_wp2_with fail
  refine (PL.out _ B1.out).mono ?_
  rintro e w2 ⟨h2, ⟨hb, rfl⟩ | ⟨hb, g, on, of, rfl, hT, hO⟩⟩
  · have B2 := Lib.hid (thenB B1.out h2)
    clear h2
    go_wp2_with fail
    go_ret
    exact ⟨rfl, B2.out⟩
  have B2 := Lib.hid (thenB B1.out h2)
  have hl60 := bigL_len hb
  have hnx0 := plant_nx l
  have HS := Lib.hid (plant_std l)
  have HT := Lib.hid hT
  obtain ⟨t, ht⟩ : ∃ t, t = plant l := ⟨_, rfl⟩
  rw [← ht] at HT HS hnx0
  have hnx : t.nx ≤ 60 := by omega
  clear h2 hb hT hO ht GR PL hnx0
  by_cases hd : 200 < (bs s).size
  · have hdi : (200 : Int) < (bs s).size := by omega
    go_wp2_with fail
    go_ret
    exact ⟨rfl, B2.out⟩
  have hdi : ¬ (200 : Int) < (bs s).size := by omega
  have hsl : s.length ≤ 200 := by have : (bs s).size = s.length := rfl; omega
  have FO := Lib.hid (fun w' (hb : Below w2.heap.size w2 w') s (hs : s.length ≤ 1000) => follow_any (HT.out.below hb) HS.out (by omega) (HM.out.below (thenB B2.out hb)) s hs)
  have F1 := Lib.hid (FO.out _ (Below.refl _ _) s (by omega))
  obtain ⟨R, hR⟩ : ∃ R, R = Tre.follow t s := ⟨_, rfl⟩
  rw [← hR] at F1
  obtain ⟨tn, c⟩ := R
  simp only at F1
  have HR := Lib.hid hR
  clear hR hd
  go_wp2_with fail
  refine F1.out.mono ?_
  rintro e w3 ⟨rfl, h3⟩
  have C3 := Lib.hid h3
  have B3 := Lib.hid (thenB B2.out h3)
  clear h3 F1
  by_cases h0 : c = 0
  rotate_left
  · have e1 := errV_of h0
    have e2 : tn = [] := by
      have := follow_err (t := t) (name := s) (by rw [← HR.out]; exact h0)
      rw [← HR.out] at this; exact this
    subst e2
    have hdn : (bs []).toList = [] := (str_nil []).2 rfl
    have hde : (bs []).toList.isEmpty = true := by rw [List.isEmpty_iff]; exact hdn
    rw [e1]
    clear e1
    go_wp2_with fail
    go_ret
    exact ⟨rfl, B3.out⟩
  subst h0
  have e1 : errV 0 = .nilIface := rfl
  rw [e1]
  obtain ⟨k1, k2, k3⟩ := follow_ok HS.out HR.out.symm
  have htl : tn.length ≤ 120 := by
    rcases k2 with rfl | k2
    · exact Nat.zero_le _
    · exact (right_len k2).1
  have F2 := Lib.hid (FO.out _ C3.out tn (by omega))
  rw [k1] at F2
  simp only [e1] at F2
  have hP : ∃ P, Pth.Cl P ∧ Pth.join P = tn ∧ Pth.parts tn = P := by
    rcases k2 with rfl | k2
    · exact ⟨[], (fun _ h => by cases h), rfl, rfl⟩
    · exact ⟨_, (right_cl k2).1, right_join k2, rfl⟩
  obtain ⟨P, hcl, hj, hpt⟩ := hP
  rw [hpt] at k3
  have hpl : pre P P.length = tn := by rw [pre_len, hj]
  have hnn : ∀ s k, Tre.look t.ents s = some k → k ≤ 1000000 := fun s k h => by have := (HS.out.short h).2; omega
  have GT := Lib.hid (fun w' (hb : Below w2.heap.size w2 w') i => get_any (HT.out.below hb) (bs (pre P i)) (fun k hk => hnn _ k hk) (by rw [bs_size]; have := pre_length P i; rw [hj] at this; omega))
  have UP := Lib.hid (fun w' j (hj' : j + 1 ≤ P.length) => up_pre hcl (by rw [hj]; omega) j hj' w')
  have NE := Lib.hid (fun i (h1 : 1 ≤ i) (h2 : i ≤ P.length) => pre_ne hcl h1 h2)
  have K3 := Lib.hid k3
  have HPL := Lib.hid hpl
  clear k1 k2 k3 hcl hj hpt hpl hnn HR htl
  go_wp2_with fail
  refine F2.out.mono ?_
  rintro e w4 ⟨rfl, h4⟩
  have C4 := Lib.hid (thenB C3.out h4)
  have B4 := Lib.hid (thenB B3.out h4)
  clear h4 F2
  go_wp2_with fail
  go_loopg [9] (P.length) (fun gg nv wr => nv = .string (bs (pre P gg)) ∧ gg ≤ P.length ∧ Below w2.heap.size w2 wr)
  case atStart => exact ⟨by rw [HPL.out], Nat.le_refl _, C4.out⟩
  case round =>
    obtain ⟨rfl, hgl, hbw⟩ := hrel
    have BW := Lib.hid hbw
    clear hbw
    by_cases h0 : gk = 0
    · subst h0
      have hdn : (bs (pre P 0)).toList = [] := (str_nil _).2 rfl
      have hde : (bs (pre P 0)).toList.isEmpty = true := by rw [List.isEmpty_iff]; exact hdn
      go_wp2_with fail
      go_ret
      exact ⟨rfl, thenB B2.out BW.out⟩
    · obtain ⟨i, rfl⟩ : ∃ i, gk = i + 1 := ⟨gk - 1, by omega⟩
      have hdn : ¬ (bs (pre P (i + 1))).toList = [] := fun e => NE.out (i + 1) (by omega) hgl ((str_nil _).1 e)
      have hde : (bs (pre P (i + 1))).toList.isEmpty = false := by rw [← Bool.not_eq_true, List.isEmpty_iff]; exact hdn
      obtain ⟨k, hk, hkk⟩ := K3.out (i + 1) (by omega) hgl
      have GB := Lib.hid (GT.out _ BW.out (i + 1))
      have hgv : getV t (bs (pre P (i + 1))).data.toList = .tuple #[ndv (t.file k), .nilIface] := getV_of (by rw [bs_list]; exact hk)
      rw [hgv] at GB
      obtain ⟨n, hn⟩ : ∃ n, n = t.file k := ⟨_, rfl⟩
      rw [← hn] at GB hkk
      obtain ⟨m0, m1, m2, m3, m4, m5, m6, m7, m8, m9⟩ := n
      simp only at hkk
      unfold ndv ndc at GB
      simp only at GB
      have hki : ((m0 : Int) == 50) = false := beq_eq_false_iff_ne.2 (by omega)
      have hki2 : ¬ (m0 : Int) = 50 := by omega
      have U1 := Lib.hid (fun w' => UP.out w' i hgl)
      clear hgv hk hn h0
      go_wp2_with fail
      refine GB.out.mono ?_
      rintro e w5 ⟨rfl, h5⟩
      have B5 := Lib.hid (thenB BW.out h5)
      have d0 := (Blk.new w5 35 #[.int .u8 m0, .int .i64 m1, .int .i64 m2, .int .i64 m3, .int .i64 m4, .int .i64 m5, .string (bs m6), .string (bs m7), .int .i64 m8, .int .i64 m9]).cell 0
      simp only [List.getElem?_toArray, List.getElem?_cons_zero] at d0
      have B6 := Lib.hid (B5.out.alloc B5.out.size (.cells #[.int .u8 m0, .int .i64 m1, .int .i64 m2, .int .i64 m3, .int .i64 m4, .int .i64 m5, .string (bs m6), .string (bs m7), .int .i64 m8, .int .i64 m9] 35))
      clear h5
      go_wp2_with fail
      refine (U1.out _).mono ?_
      rintro e w7 ⟨x, rfl, h7⟩
      have B7 := Lib.hid (thenB B6.out h7)
      clear h7
      go_wp2_with fail
      go_roundg i
      case measure => omega
      case rel => exact ⟨rfl, by omega, B7.out⟩

set_option maxRecDepth 100000 in
theorem treeLeads_walk {H : Type} {enc : TypeId × Value → H} {w : World} {d : DataW H} {ps : List MemPlace} {base : Nat} (v : Value) (hok : Value.okWide Tryd.prog w .any base 22 v)
    (h : DataW.Trod enc Tryd.prog w 0 (fun _ => true) true 22 v d ps) (hz : ∀ n ∈ d.weights Tryd.prog 22, n ≤ reachBytes) (data : ByteArray) (_hd : data.size ≤ 140737488351232) (hsh : ML w) :
    Calls Tryd.prog 8 #[v, .string data] w fun e w' => e = .returned (.bool true) ∧ Below w.heap.size w w' := by
  obtain ⟨l, hl⟩ := deeds_of hok h hz
  have := treeLeads_main v l data.data.toList w hl hsh
  rw [bs_of] at this
  exact this

end Go.Proofs.YtehooifcgfkngaaDoor
