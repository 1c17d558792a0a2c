/-
  The walk of HolePuts.
-/
import Derived.Test.YtjlglmfogldbkaaDoorHolePutsA
import Derived.OpenShut
namespace Go.Proofs.YtjlglmfogldbkaaDoor
open Go.RowKit

set_option maxRecDepth 100000 in
set_option maxHeartbeats 1000000 in
theorem holePuts_main (d : ByteArray) (v : Value) (ps : List (Int × Int)) (size look : Int) (hs2 : size ≤ 9223372036854775807) (w : World) (hP : Pcs w v ps) :
    Calls Tryd.prog 4 #[.string d, v, .int .i64 size, .int .i64 look] w fun e w' => e = .returned (.bool true) ∧ Below w.heap.size w w' := by
  obtain ⟨X, cap, hv, _⟩ := id hP
  obtain ⟨L, hL⟩ : ∃ L, L = ps.length := ⟨_, rfl⟩
  rw [← hL] at hv
  by_cases hbig : 600 < d.size ∨ 30 < L
  · subst hv
    by_cases h1 : 600 < d.size
    · have hb' : (600 : Int) < (d.size : Int) := by omega
      clear hbig hP h1 hL
      go_enter Tryd.func4, Tryd.ntmps4
      go_wp2_with fail
      refine (holed_any _).mono ?_
      rintro e w1 ⟨rfl, h1⟩
      have B1 := Lib.hid (((Below.refl w.heap.size w).alloc (Nat.le_refl _) _).trans (h1.mono (by simp)))
      clear h1
      go_wp2_with fail
      go_ret
      exact ⟨rfl, B1.out⟩
    · have hb' : ¬ (600 : Int) < (d.size : Int) := by omega
      have hb2 : (30 : Int) < (L : Int) := by omega
      clear hbig hP h1 hL
      go_enter Tryd.func4, Tryd.ntmps4
      go_wp2_with fail
      refine (holed_any _).mono ?_
      rintro e w1 ⟨rfl, h1⟩
      have B1 := Lib.hid (((Below.refl w.heap.size w).alloc (Nat.le_refl _) _).trans (h1.mono (by simp)))
      clear h1
      go_wp2_with fail
      go_ret
      exact ⟨rfl, B1.out⟩
  have hb' : ¬ (600 : Int) < (d.size : Int) := by omega
  have hb2 : ¬ (30 : Int) < (L : Int) := by omega
  clear hL
  obtain ⟨T, E, hT, pT⟩ := put_named d v ps size hs2 (by omega)
  have PT := Lib.hid pT
  clear pT
  rcases hT with ⟨k, rfl⟩ | ⟨rfl, qs, n, rfl, rfl, hA, h20, hn, hds, hTe⟩
  · have HP := Lib.hid hP
    subst hv
    clear hP hbig
    go_enter Tryd.func4, Tryd.ntmps4
    go_wp2_with fail
    refine (holed_any _).mono ?_
    rintro e w1 ⟨rfl, h1⟩
    have B1 := Lib.hid (((Below.refl w.heap.size w).alloc (Nat.le_refl _) _).trans (h1.mono (by simp)))
    clear h1
    go_wp2_with fail
    refine (PT.out _ (HP.out.below B1.out)).mono ?_
    rintro e w2 ⟨rfl, h2⟩
    have B2 := Lib.hid (thenB B1.out h2)
    clear h2
    go_wp2_with fail
    go_ret
    exact ⟨rfl, B2.out⟩
  · have hlaw := Hol.puts_law d.data.toList qs n hA (by rw [list_size]; exact hds)
    obtain ⟨l1, l2, l3⟩ := hlaw
    have hTl : T.data.toList = Hol.put d.data.toList qs n := by rw [hTe]
    have hTs : T.size = n := by rw [← list_size, hTl]; exact l1
    have hAT : Hol.Asc T.size 0 qs := by rw [hTs]; exact hA
    have htk := fun w hP => take_any T v qs w hP hAT h20 (by omega)
    have hde : (⟨(Hol.take T.data.toList qs).toArray⟩ : ByteArray) = d := ba_ext (by rw [hTl]; exact l2)
    rw [hde] at htk
    rw [← hTl] at l3
    have TK := Lib.hid htk
    have HP := Lib.hid hP
    have L3 := Lib.hid l3
    have k1 : ((T.size : Int) != (n : Int)) = false := by simp; omega
    have HTS := Lib.hid hTs
    have HA := Lib.hid hA
    have HV := Lib.hid hv
    clear htk hde hTl hTs hAT hTe l1 l2 l3 hP hbig hA hds hv
    by_cases h0 : n = 0
    · subst h0
      have pt0 : ∀ w : World, Pcs w v (qs.map Hol.castP) → Calls Tryd.prog 10 #[.string d, v, .int .i64 0] w fun e w' => e = .returned (.tuple #[.string T, .nilIface]) ∧ Below w.heap.size w w' := PT.out
      have PT := Lib.hid pt0
      clear pt0
      rw [HV.out] at HP PT TK ⊢
      clear HV
      show Calls Tryd.prog 4 #[.string d, .slice X L cap, .int .i64 0, .int .i64 look] w _
      go_enter Tryd.func4, Tryd.ntmps4
      go_wp2_with fail
      refine (holed_any _).mono ?_
      rintro e w1 ⟨rfl, h1⟩
      have B1 := Lib.hid (((Below.refl w.heap.size w).alloc (Nat.le_refl _) _).trans (h1.mono (by simp)))
      clear h1
      go_wp2_with fail
      refine (PT.out _ (HP.out.below B1.out)).mono ?_
      rintro e w2 ⟨rfl, h2⟩
      have B2 := Lib.hid (thenB B1.out h2)
      clear h2
      go_wp2_with fail
      refine (TK.out _ (HP.out.below B2.out)).mono ?_
      rintro e w3 ⟨rfl, h3⟩
      have B3 := Lib.hid (thenB B2.out h3)
      clear h3
      go_wp2_with fail
      go_ret
      exact ⟨rfl, B3.out⟩
    · have p0 := pickN_lo look n (by omega)
      have p1 := pickN_hi look n (by omega)
      obtain ⟨x, hx⟩ := Int.eq_ofNat_of_zero_le p0
      have hpick := fun w => pick_any look n w (by omega) (by omega)
      rw [hx] at hpick p0 p1
      clear hx
      have PK := Lib.hid hpick
      have h0' : ((n : Int) == 0) = false := by simp; omega
      have hxn : x < n := by omega
      have hxT : x < T.size := by rw [HTS.out]; exact hxn
      have hxT2 : (x : Int) < T.size := by omega
      have hends := asc_ends n qs HA.out
      have HEN := Lib.hid (fun p hp => by have := hends p hp; omega : ∀ p ∈ qs, p.1 + p.2 ≤ 1000000)
      have hcase : (0 ≤ Hol.hitGo x 0 qs) ∨ T[x] = 0 := by
        rcases L3.out x hxn with h | h
        · exact .inl ((Hol.hit_iff x qs 0).2 h)
        · right
          have hlt : x < T.data.toList.length := by rw [list_size]; exact hxT
          rw [List.getElem?_eq_getElem hlt] at h
          exact Option.some.inj h
      have hN0 := Lib.hid h0
      clear hpick hends h0
      obtain ⟨bb, hbb⟩ : ∃ bb, bb = decide (0 ≤ Hol.hitGo x 0 qs) := ⟨_, rfl⟩
      have hc2 : bb = true ∨ ((T[x].toNat : Int) == 0) = true := by
        rcases hcase with h | h
        · left; rw [hbb]; exact decide_eq_true h
        · right; rw [h]; rfl
      have HBB := Lib.hid hbb
      clear hcase hbb
      rw [HV.out] at HP PT TK ⊢
      go_enter Tryd.func4, Tryd.ntmps4
      go_wp2_with fail
      refine (holed_any _).mono ?_
      rintro e w1 ⟨rfl, h1⟩
      have B1 := Lib.hid (((Below.refl w.heap.size w).alloc (Nat.le_refl _) _).trans (h1.mono (by simp)))
      have bc1 := (h1.cell (p := ⟨w.heap.size, 0, none⟩) (by simp)).trans ((Blk.new w 3 #[.int .i64 look]).cell 0)
      have bf1 := (h1.frozen (p := ⟨w.heap.size, 0, none⟩) (by simp)).trans ((Blk.new w 3 #[.int .i64 look]).frozen 0)
      have hw1 : w.heap.size < w1.heap.size := by have := h1.size; simp at this; omega
      have C1 := Lib.hid bc1
      have F1 := Lib.hid bf1
      clear h1 bc1 bf1
      go_wp2_with fail
      refine (PT.out _ (HP.out.below B1.out)).mono ?_
      rintro e w2 ⟨rfl, h2⟩
      have B2 := Lib.hid (thenB B1.out h2)
      have C2 := Lib.hid ((h2.cell (p := ⟨w.heap.size, 0, none⟩) hw1).trans C1.out)
      have F2 := Lib.hid ((h2.frozen (p := ⟨w.heap.size, 0, none⟩) hw1).trans F1.out)
      have hw2 : w.heap.size < w2.heap.size := Nat.lt_of_lt_of_le hw1 h2.size
      clear h2
      go_wp2_with fail
      refine (TK.out _ (HP.out.below B2.out)).mono ?_
      rintro e w3 ⟨rfl, h3⟩
      have B3 := Lib.hid (thenB B2.out h3)
      have c3 := (h3.cell (p := ⟨w.heap.size, 0, none⟩) hw2).trans C2.out
      have f3 := (h3.frozen (p := ⟨w.heap.size, 0, none⟩) hw2).trans F2.out
      have hw3 : w.heap.size < w3.heap.size := Nat.lt_of_lt_of_le hw2 h3.size
      clear h3
      go_wp2_with fail
      refine (PK.out _).mono ?_
      rintro e w3 ⟨rfl, rfl⟩
      have bS : Below w.heap.size w (w3.setCell ⟨w.heap.size, 0, none⟩ (.int .i64 (x : Int))) := B3.out.setCell (Nat.le_refl _) _
      have cS : (w3.setCell ⟨w.heap.size, 0, none⟩ (.int .i64 (x : Int))).cell? ⟨w.heap.size, 0, none⟩ = some (.int .i64 (x : Int)) := World.cell?_setCell_same _ _ _ c3
      have hct := contains_any _ x w.heap.size qs _ (HP.out.below bS) cS (by omega) HEN.out
      rw [← HBB.out] at hct
      have CT := Lib.hid hct
      have BS := Lib.hid bS
      have hwS : w.heap.size < (w3.setCell ⟨w.heap.size, 0, none⟩ (.int .i64 (x : Int))).heap.size := by simpa using hw3
      have CS := Lib.hid cS
      clear hct bS cS
      go_wp2_with fail
      refine CT.out.mono ?_
      rintro e w4 ⟨rfl, h4⟩
      have B4 := Lib.hid (thenB BS.out h4)
      have c4 := (h4.cell (p := ⟨w.heap.size, 0, none⟩) hwS).trans CS.out
      clear h4
      rcases hc2 with rfl | hz
      · go_wp2_with fail
        go_ret
        exact ⟨rfl, B4.out⟩
      · cases bb
        all_goals
          go_wp2_with fail
          go_ret
          exact ⟨by simp, B4.out⟩

set_option maxRecDepth 100000 in
theorem holePuts_walk (d : ByteArray) (_ss : d.size ≤ 140737488351232) {H : Type} {enc : TypeId × Value → H} {dd : DataW H} {ps : List MemPlace} {base : Nat} (v : Value) {w : World} (hok : Value.okWide Tryd.prog w .any base 24 v)
    (h : DataW.Trod enc Tryd.prog w 0 (fun _ => true) true 24 v dd ps) (size : Int) (hs : (Lit.int .i64 size).wf = true) (look : Int) (_hl : (Lit.int .i64 look).wf = true) :
    Calls Tryd.prog 4 #[.string d, v, .int .i64 size, .int .i64 look] w fun e w' => e = .returned (.bool true) ∧ Below w.heap.size w w' := by
  obtain ⟨l, hl⟩ := pcs_of hok h
  exact holePuts_main d v l size look (bounds_i64 hs).2 w hl

end Go.Proofs.YtjlglmfogldbkaaDoor
