/-
  The walk of PaxMerges.
-/
import Derived.Test.YtjafjhhmjfpmoaaDoorPaxT
import Derived.Test.YtjafjhhmjfpmoaaDoorPaxH
namespace Go.Proofs.YtjafjhhmjfpmoaaDoor
open Go.RowKit

theorem merge_three {u v x : Value} {a b c : List Px.Rec} (w' : World) (g : Nat) (hu : PairsIn w' u a) (hv : PairsIn w' v b) (hx : PairsIn w' x c) (ha : a.length ≤ 20) (hb : b.length ≤ 20) (hc : c.length ≤ 20) (k0 : w'.cell? ⟨g, 0, none⟩ = some u) (k1 : w'.cell? ⟨g, 1, none⟩ = some v) (k2 : w'.cell? ⟨g, 2, none⟩ = some x) :
    Calls Tryd.prog 21 #[.slice (some ⟨g, 0, none⟩) 3 3] w' fun e w'' => ∃ v M, e = .returned v ∧ Px.IsMerge [a, b, c].flatten M ∧ HasR w'' w'.heap.size v M ∧ Below w'.heap.size w' w'' :=
  merge_any g [a, b, c] w' (World.block_lt_of_cell? w' ⟨g, 0, none⟩ k0) (lists_three k0 k1 k2 hu hv hx) (by simp) (by simp; omega)
theorem concat_three {u v x : Value} {a b c : List Px.Rec} (w' : World) (g : Nat) (hu : PairsIn w' u a) (hv : PairsIn w' v b) (hx : PairsIn w' x c) (ha : a.length ≤ 20) (hb : b.length ≤ 20) (hc : c.length ≤ 20) (k0 : w'.cell? ⟨g, 0, none⟩ = some u) (k1 : w'.cell? ⟨g, 1, none⟩ = some v) (k2 : w'.cell? ⟨g, 2, none⟩ = some x) :
    Calls Tryd.prog 12 #[.slice (some ⟨g, 0, none⟩) 3 3] w' fun e w'' => ∃ v, e = .returned v ∧ HasR w'' w'.heap.size v [a, b, c].flatten ∧ Below w'.heap.size w' w'' :=
  concat_lists g [a, b, c] w' (World.block_lt_of_cell? w' ⟨g, 0, none⟩ k0) (lists_three k0 k1 k2 hu hv hx) (by simp) (by simp; omega)
theorem merge_self {u : Value} {l M : List Px.Rec} (w' : World) (g : Nat) (hu : PairsIn w' u M) (hM : Px.IsMerge l M) (hl : M.length ≤ 60) (k0 : w'.cell? ⟨g, 0, none⟩ = some u) :
    Calls Tryd.prog 21 #[.slice (some ⟨g, 0, none⟩) 1 1] w' fun e w'' => ∃ v, e = .returned v ∧ HasR w'' w'.heap.size v M ∧ Below w'.heap.size w' w'' := by
  refine (merge_any g [M] w' (World.block_lt_of_cell? w' ⟨g, 0, none⟩ k0) (lists_one k0 hu) (by simp) (by simp; omega)).mono ?_
  rintro e w'' ⟨v, M', rfl, hM', hv, hb⟩
  rw [show [M].flatten = M by simp] at hM'
  obtain rfl := Px.merge_unique hM' hM.self (fun _ => rfl)
  exact ⟨v, rfl, hv, hb⟩
theorem any_get {l M : List Px.Rec} (h : Px.IsMerge l M) (k : List UInt8) : (M.any fun r => (k, (Px.getV l k).1) == r) = (Px.getV l k).2 := by
  have := h.mem_get k
  cases hg : (Px.getV l k).2 with
  | true =>
    rw [hg] at this
    exact List.any_eq_true.2 ⟨_, this.1 rfl, by simp⟩
  | false =>
    rw [hg] at this
    refine List.any_eq_false.2 fun r hr hc => ?_
    obtain rfl := eq_of_beq hc
    exact absurd (this.2 hr) (by simp)

set_option maxRecDepth 100000 in
set_option maxHeartbeats 4000000 in
theorem paxMerges_main (u v x : Value) (a b c : List Px.Rec) (key : ByteArray) (w : World) (hE : Env w) (hu0 : PairsIn w u a) (hv0 : PairsIn w v b) (hx0 : PairsIn w x c) :
    Calls Tryd.prog 7 #[u, v, x, .string key] w fun e w' => e = .returned (.bool true) ∧ Below w.heap.size w w' := by
  obtain ⟨X, cu, rfl⟩ := hu0.form
  obtain ⟨Y, cv, rfl⟩ := hv0.form
  obtain ⟨Z, cx, rfl⟩ := hx0.form
  have HU := Lib.hid hu0
  have HV := Lib.hid hv0
  have HX := Lib.hid hx0
  have hai : (0 : Int) ≤ a.length := by omega
  have hbi : (0 : Int) ≤ b.length := by omega
  have hci : (0 : Int) ≤ c.length := by omega
  have RC := Lib.hid (fun w' (h : Below w.heap.size w w') => recorded_any w' (hE.below h))
  have bw := Lib.hid (Below.refl w.heap.size w)
  clear hE hu0 hv0 hx0
  by_cases ha : a.length ≤ 20
  rotate_left
  · have haI : (20 : Int) < a.length := by omega
    go_enter Tryd.func7, Tryd.ntmps7
    go_wp2_with fail
    refine (RC.out _ bw.out).mono ?_
    rintro e w1 ⟨rfl, h1⟩
    have B1 := Lib.hid h1
    clear h1
    go_wp2_with fail
    go_ret
    exact ⟨rfl, B1.out⟩
  have haI : (a.length : Int) ≤ 20 := by omega
  by_cases hb : b.length ≤ 20
  rotate_left
  · have hbI : (20 : Int) < b.length := by omega
    go_enter Tryd.func7, Tryd.ntmps7
    go_wp2_with fail
    refine (RC.out _ bw.out).mono ?_
    rintro e w1 ⟨rfl, h1⟩
    have B1 := Lib.hid h1
    clear h1
    go_wp2_with fail
    go_ret
    exact ⟨rfl, B1.out⟩
  have hbI : (b.length : Int) ≤ 20 := by omega
  by_cases hc : c.length ≤ 20
  rotate_left
  · have hcI : (20 : Int) < c.length := by omega
    go_enter Tryd.func7, Tryd.ntmps7
    go_wp2_with fail
    refine (RC.out _ bw.out).mono ?_
    rintro e w1 ⟨rfl, h1⟩
    have B1 := Lib.hid h1
    clear h1
    go_wp2_with fail
    go_ret
    exact ⟨rfl, B1.out⟩
  have hcI : (c.length : Int) ≤ 20 := by omega
  have hfl : [a, b, c].flatten.length ≤ 60 := by simp; omega
  have hsz : ∀ r ∈ [a, b, c].flatten, r.1.length ≤ 140737488351232 ∧ r.2.length ≤ 140737488351232 := by
    rw [show [a, b, c].flatten = a ++ (b ++ c) by simp]
    exact sizes_app HU.out.sizes (sizes_app HV.out.sizes HX.out.sizes)
  have HSZ := Lib.hid hsz
  have MG := Lib.hid (fun (w' : World) (g : Nat) (h : Below w.heap.size w w') => merge_three w' g (HU.out.below h) (HV.out.below h) (HX.out.below h) ha hb hc)
  have CC := Lib.hid (fun (w' : World) (g : Nat) (h : Below w.heap.size w w') => concat_three w' g (HU.out.below h) (HV.out.below h) (HX.out.below h) ha hb hc)
  have HFL := Lib.hid hfl
  clear hsz hfl
  go_enter Tryd.func7, Tryd.ntmps7
  go_wp2_with fail
  refine (RC.out _ bw.out).mono ?_
  rintro e w1 ⟨rfl, h1⟩
  have B1 := Lib.hid h1
  clear h1 RC
  go_wp2_with fail
  have kb := Blk.new w1 23 #[.slice X a.length cu, .slice Y b.length cv, .slice Z c.length cx]
  have B1a := Lib.hid (B1.out.alloc B1.out.size (.cells #[.slice X a.length cu, .slice Y b.length cv, .slice Z c.length cx] 23))
  refine (MG.out _ _ B1a.out (kb.cell 0) (kb.cell 1) (kb.cell 2)).mono ?_
  rintro e w2 ⟨m, M, rfl, hM, hm, h2⟩
  obtain ⟨Mx, Mc, rfl⟩ := hm.form
  have hMl : M.length ≤ 60 := Nat.le_trans (merge_len hM) HFL.out
  have hMi : (M.length : Int) ≤ 60 := by omega
  have HM := Lib.hid hM
  have HMr := Lib.hid hm
  have HMin := Lib.hid (merge_in hm hM (by have := HFL.out; omega) HSZ.out)
  have B2 := Lib.hid (thenB B1a.out h2)
  clear kb hM hm h2 MG B1 B1a
  go_wp2_with fail
  have kb := Blk.new w2 23 #[.slice Mx M.length Mc]
  have b2a := (Below.refl w2.heap.size w2).alloc (Nat.le_refl _) (.cells #[.slice Mx M.length Mc] 23)
  refine (merge_self _ _ (HMin.out.below b2a) HM.out hMl (kb.cell 0)).mono ?_
  rintro e w3 ⟨m2, rfl, hm2, h3⟩
  have b3 := thenB b2a h3
  have HM2 := Lib.hid hm2
  have HMr3 := Lib.hid (HMr.out.later b3)
  have HMin3 := Lib.hid (HMin.out.below b3)
  have B3 := Lib.hid (thenB B2.out b3)
  clear kb b2a b3 hm2 h3 HMin HMr
  go_wp2_with fail
  refine (eq_same HM2.out HMr3.out (by omega)).mono ?_
  rintro e w4 ⟨rfl, h4⟩
  have HMin4 := Lib.hid (HMin3.out.below h4)
  have B4 := Lib.hid (thenB B3.out h4)
  clear h4 HMin3
  go_wp2_with fail
  refine (sorted_in HMin4.out (by omega) HM.out.1).mono ?_
  rintro e w5 ⟨rfl, h5⟩
  have HMin5 := Lib.hid (HMin4.out.below h5)
  have B5 := Lib.hid (thenB B4.out h5)
  clear h5 HMin4
  go_wp2_with fail
  have kb := Blk.new w5 23 #[.slice X a.length cu, .slice Y b.length cv, .slice Z c.length cx]
  have B5a := Lib.hid (B5.out.alloc B5.out.size (.cells #[.slice X a.length cu, .slice Y b.length cv, .slice Z c.length cx] 23))
  have b5a := (Below.refl w5.heap.size w5).alloc (Nat.le_refl _) (.cells #[.slice X a.length cu, .slice Y b.length cv, .slice Z c.length cx] 23)
  refine (CC.out _ _ B5a.out (kb.cell 0) (kb.cell 1) (kb.cell 2)).mono ?_
  rintro e w6 ⟨m3, rfl, hm3, h6⟩
  have HM3 := Lib.hid (pairs_of_has hm3 (by have := HFL.out; omega) HSZ.out)
  have HMin6 := Lib.hid (HMin5.out.below (thenB b5a h6))
  have B6 := Lib.hid (thenB B5a.out h6)
  clear kb b5a hm3 h6 HMin5 CC
  go_wp2_with fail
  refine (get_any m3 _ key _ HM3.out).mono ?_
  rintro e w7 ⟨rfl, h7⟩
  have HMin7 := Lib.hid (HMin6.out.below h7)
  have B7 := Lib.hid (thenB B6.out h7)
  clear h7 HMin6
  have HG := Lib.hid (HM.out.get key.data.toList)
  have HA := Lib.hid (any_get HM.out key.data.toList)
  obtain ⟨G, hG⟩ : ∃ G, G = Px.getV [a, b, c].flatten key.data.toList := ⟨_, rfl⟩
  rw [← hG] at HG HA ⊢
  obtain ⟨s, t⟩ := G
  clear hG
  go_wp2_with fail
  refine (get_any _ M key _ HMin7.out).mono ?_
  rw [HG.out]
  rintro e w8 ⟨rfl, h8⟩
  have HMin8 := Lib.hid (HMin7.out.below h8)
  have B8 := Lib.hid (thenB B7.out h8)
  have CP := contains_pair HMin8.out (key.data.toList, s) (by omega)
  rw [HA.out] at CP
  simp only [bs_of] at CP
  have HCP := Lib.hid CP
  clear h8 HMin7 CP
  go_wp2_with fail
  refine HCP.out.mono ?_
  rintro e w9 ⟨rfl, h9⟩
  have B9 := Lib.hid (thenB B8.out h9)
  clear h9
  go_wp2_with fail
  go_ret
  exact ⟨by simp, B9.out⟩

set_option maxRecDepth 100000 in
theorem paxMerges_walk {H : Type} {enc : TypeId × Value → H} {w : World} {d1 d2 d3 : DataW H} {ps1 ps2 ps3 : List MemPlace} {base1 base2 base3 : Nat}
    (va : Value) (hok1 : Value.okWide Tryd.prog w .any base1 23 va) (h1 : DataW.Trod enc Tryd.prog w 0 (fun _ => true) true 23 va d1 ps1) (hz1 : ∀ n ∈ d1.weights Tryd.prog 23, n ≤ reachBytes)
    (vb : Value) (hok2 : Value.okWide Tryd.prog w .any base2 23 vb) (h2 : DataW.Trod enc Tryd.prog w 0 (fun _ => true) true 23 vb d2 ps2) (hz2 : ∀ n ∈ d2.weights Tryd.prog 23, n ≤ reachBytes)
    (vc : Value) (hok3 : Value.okWide Tryd.prog w .any base3 23 vc) (h3 : DataW.Trod enc Tryd.prog w 0 (fun _ => true) true 23 vc d3 ps3) (hz3 : ∀ n ∈ d3.weights Tryd.prog 23, n ≤ reachBytes)
    (key : ByteArray) (_hk : key.size ≤ 140737488351232) (hE : Env w) :
    Calls Tryd.prog 7 #[va, vb, vc, .string key] w fun e w' => e = .returned (.bool true) ∧ Below w.heap.size w w' := by
  obtain ⟨a, ha⟩ := pairs_of hok1 h1 hz1
  obtain ⟨b, hb⟩ := pairs_of hok2 h2 hz2
  obtain ⟨c, hc⟩ := pairs_of hok3 h3 hz3
  exact paxMerges_main va vb vc a b c key w hE ha hb hc

end Go.Proofs.YtjafjhhmjfpmoaaDoor
