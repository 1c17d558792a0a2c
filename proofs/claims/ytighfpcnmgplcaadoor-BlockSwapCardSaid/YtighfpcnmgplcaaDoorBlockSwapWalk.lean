/-
  The walk of BlockSwap.
-/
import Derived.Test.YtighfpcnmgplcaaDoorBkC
import Derived.Test.YtighfpcnmgplcaaDoorPick
import Derived.Test.YtighfpcnmgplcaaDoorBytes
import Derived.RegionTactic
import Derived.BigRegion
namespace Go.Proofs.YtighfpcnmgplcaaDoor
open Go.RowKit

theorem set_two (a b e : List UInt8) (x y u v : UInt8) : ((a ++ x :: (b ++ y :: e)).set a.length u).set (a.length + 1 + b.length) v = a ++ u :: (b ++ v :: e) := by
  rw [List.set_append_right _ _ (Nat.le_refl _), Nat.sub_self, List.set_cons_zero, List.set_append_right _ _ (by omega),
    show a.length + 1 + b.length - a.length = b.length + 1 by omega, List.set_cons_succ, List.set_append_right _ _ (Nat.le_refl _), Nat.sub_self, List.set_cons_zero]

theorem swap_parts (l : List UInt8) (i j : Nat) (hi : i < j) (hj : j < l.length) : ∃ a b e : List UInt8, a.length = i ∧ a.length + 1 + b.length = j ∧ l = a ++ l[i] :: (b ++ l[j] :: e) ∧ (l.set i l[j]).set j l[i] = a ++ l[j] :: (b ++ l[i] :: e) := by
  have h1 : l = l.take i ++ l[i] :: ((l.drop (i + 1)).take (j - (i + 1)) ++ l[j] :: l.drop (j + 1)) := by
    have e1 := List.take_append_drop i l
    rw [List.drop_eq_getElem_cons (by omega)] at e1
    have e2 := List.take_append_drop (j - (i + 1)) (l.drop (i + 1))
    rw [List.drop_drop, show i + 1 + (j - (i + 1)) = j by omega, List.drop_eq_getElem_cons hj] at e2
    rw [e2]; exact e1.symm
  have la : (l.take i).length = i := by rw [List.length_take]; omega
  have lb : ((l.drop (i + 1)).take (j - (i + 1))).length = j - (i + 1) := by rw [List.length_take, List.length_drop]; omega
  refine ⟨l.take i, (l.drop (i + 1)).take (j - (i + 1)), l.drop (j + 1), la, by rw [la, lb]; omega, h1, ?_⟩
  have h2 := set_two (l.take i) ((l.drop (i + 1)).take (j - (i + 1))) (l.drop (j + 1)) l[i] l[j] l[j] l[i]
  rw [← h1, la, lb, show i + 1 + (j - (i + 1)) = j by omega] at h2
  exact h2

theorem setCell_comm (w : World) (g i j : Nat) (u v : Value) (h : i ≠ j) : (w.setCell ⟨g, j, none⟩ v).setCell ⟨g, i, none⟩ u = (w.setCell ⟨g, i, none⟩ u).setCell ⟨g, j, none⟩ v := by
  unfold World.setCell
  congr 1
  apply Array.ext_getElem?
  intro k
  simp only [Array.getElem?_modify]
  by_cases e : g = k
  · subst e
    cases w.heap[g]? with
    | none => simp
    | some o => cases o <;> simp <;> first | exact Array.setIfInBounds_comm _ _ h | exact Array.setIfInBounds_comm _ _ h.symm
  · simp [e]

set_option maxRecDepth 100000 in
set_option maxHeartbeats 2000000 in
theorem blockSwap_walk (s : ByteArray) (hs : s.size ≤ 140737488351232) (a : Int) (ha : (Lit.int .i64 a).wf = true) (b : Int) (hb : (Lit.int .i64 b).wf = true) (w : World) :
    Calls Tryd.prog 4 #[.string s, .int .i64 a, .int .i64 b] w fun e w' => e = .returned (.bool true) ∧ Below w.heap.size w w' := by
  by_cases hbig : 600 < s.size
  · have hb' : (600 : Int) < (s.size : Int) := by omega
    have HB := Lib.hid (fun w => header_big s w hbig)
    clear hbig
    go_enter Tryd.func4, Tryd.ntmps4
    go_wp2_with fail
    refine (blocked_any _).mono ?_
    rintro e w1 ⟨rfl, h1⟩
    have B1 := Lib.hid h1
    clear h1
    go_wp2_with fail
    refine (HB.out _).mono ?_
    rintro e w2 ⟨rfl, rfl⟩
    go_wp2_with fail
    go_ret
    exact ⟨rfl, B1.out⟩
  · have p0 := pickN_lo a 148 (by omega)
    have p1 := pickN_hi a 148 (by omega)
    obtain ⟨p, hp⟩ := Int.eq_ofNat_of_zero_le p0
    have hpick := fun w => pick_any a 148 w (by omega) (by omega)
    rw [hp] at hpick p0 p1
    clear hp
    have q0 := pickN_lo b 356 (by omega)
    have q1 := pickN_hi b 356 (by omega)
    obtain ⟨q, hq⟩ := Int.eq_ofNat_of_zero_le q0
    have hqick := fun w => pick_any b 356 w (by omega) (by omega)
    rw [hq] at hqick q0 q1
    clear hq
    have rH := fun w => header_any s w (by omega)
    obtain ⟨h, hh⟩ : ∃ h, h = sealB (blockOf s) := ⟨_, rfl⟩
    rw [← hh] at rH
    have hl : (blockOf s).data.toList.length = 512 := by rw [list_size, blockOf_size]
    have hhl : h.data.toList = Bk.sld (blockOf s).data.toList := by rw [hh]; rfl
    have hsz : h.size = 512 := by rw [hh]; exact sealB_size _ (by rw [blockOf_size]; exact Nat.le_refl _) (by rw [blockOf_size]; exact Nat.le_refl _)
    have hsl : h.data.toList.length = 512 := by rw [list_size]; exact hsz
    have hpl : p < h.data.toList.length := by rw [hsl]; omega
    have hql : 156 + q < h.data.toList.length := by rw [hsl]; omega
    obtain ⟨x, y, z, hx, hy, hdec, hset⟩ := swap_parts h.data.toList p (156 + q) (by omega) hql
    have hR := right_swap (blockOf s).data.toList x y z (h.data.toList[p]'hpl) (h.data.toList[156 + q]'hql) hl (by rw [← hhl]; exact hdec) (by omega) (by omega)
    rw [← hset] at hR
    obtain ⟨T, hT⟩ : ∃ T : ByteArray, T = ⟨((h.data.toList.set p (h.data.toList[156 + q]'hql)).set (156 + q) (h.data.toList[p]'hpl)).toArray⟩ := ⟨_, rfl⟩
    have hTl : T.data.toList = (h.data.toList.set p (h.data.toList[156 + q]'hql)).set (156 + q) (h.data.toList[p]'hpl) := by rw [hT]
    have hTs : T.size = 512 := by rw [← list_size, hTl]; simp [hsz]
    have rR := fun w => right_any T w (by omega) (by omega)
    rw [hTl, hR] at rR
    obtain ⟨u, hu⟩ : ∃ u, u = (h.data.toList[p]'hpl) := ⟨_, rfl⟩
    obtain ⟨v, hv⟩ : ∃ v, v = (h.data.toList[156 + q]'hql) := ⟨_, rfl⟩
    rw [← hu, ← hv] at hT
    have hcv := fun w : World => Lib.run_convert_string_bytes (P := Tryd.prog) w 9 26 5 h Tryd.underlying9 Tryd.underlying26 Tryd.underlying5
    have PK := Lib.hid hpick
    have QK := Lib.hid hqick
    have RH := Lib.hid rH
    have RR := Lib.hid rR
    have HT := Lib.hid hT
    have HU := Lib.hid hu
    have HV := Lib.hid hv
    have HS := Lib.hid hsl
    have HZ := Lib.hid hsz
    have hz1 : h.size ≤ 512 := by omega
    have hz2 : 512 ≤ h.size := by omega
    clear hpick hqick rH rR hT hTl hTs hR hdec hx hy hset hh hhl hsz hsl hl hbig hu hv
    go_enter Tryd.func4, Tryd.ntmps4
    go_wp2_with fail
    refine (blocked_any _).mono ?_
    rintro e w1 ⟨rfl, h1⟩
    have B1 := Lib.hid h1
    clear h1
    go_wp2_with fail
    refine (RH.out _).mono ?_
    rintro e w2 ⟨rfl, h2⟩
    have B2 := Lib.hid (thenB B1.out h2)
    clear h2 B1
    go_wp2_with fail
    refine (PK.out _).mono ?_
    rintro e w3 ⟨rfl, rfl⟩
    go_wp2_with fail
    refine (QK.out _).mono ?_
    rintro e w3 ⟨rfl, rfl⟩
    go_wp2_with fail
    have hby := Bytes.of_conv w3 5 h
    have hbb := Bytes.conv_below w3 5 h
    obtain ⟨wb, hwb⟩ : ∃ wb, wb = Lib.bytesWorld w3 5 h := ⟨_, rfl⟩
    rw [← hwb] at hby hbb ⊢
    obtain ⟨cap, hcap⟩ : ∃ cap, cap = grownCap w3 h.size 0 5 := ⟨_, rfl⟩
    rw [← hcap]
    obtain ⟨g, hg⟩ : ∃ g, g = w3.heap.size := ⟨_, rfl⟩
    rw [← hg] at hby hbb ⊢
    have B3 := Lib.hid (B2.out.trans (hbb.mono (by rw [hg]; exact B2.out.size)))
    have hgw := B2.out.size
    rw [← hg] at hgw
    clear hcv hwb hbb hcap hg B2
    have cu := hby.cell (j := p) (by rw [HS.out]; omega)
    have cv := hby.cell (j := 156 + q) (by rw [HS.out]; omega)
    have fu := hby.frozen (j := p) (by rw [HS.out]; omega)
    have fv := hby.frozen (j := 156 + q) (by rw [HS.out]; omega)
    rw [← HU.out] at cu
    rw [← HV.out] at cv
    have hby2 := (hby.set_ p v).set_ (156 + q) u
    have cv2 : (wb.setCell ⟨g, p, none⟩ (.int .u8 (v.toNat : Int))).cell? ⟨g, 156 + q, none⟩ = some (.int .u8 (v.toNat : Int)) := by
      rw [World.cell?_setCell_other _ _ _ _ (fun e => by have := congrArg Addr.off e; simp at this; omega)]; exact cv
    have cu2 : (wb.setCell ⟨g, 156 + q, none⟩ (.int .u8 (u.toNat : Int))).cell? ⟨g, p, none⟩ = some (.int .u8 (u.toNat : Int)) := by
      rw [World.cell?_setCell_other _ _ _ _ (fun e => by have := congrArg Addr.off e; simp at this; omega)]; exact cu
    have hcm : (wb.setCell ⟨g, 156 + q, none⟩ (.int .u8 (u.toNat : Int))).setCell ⟨g, p, none⟩ (.int .u8 (v.toNat : Int)) = (wb.setCell ⟨g, p, none⟩ (.int .u8 (v.toNat : Int))).setCell ⟨g, 156 + q, none⟩ (.int .u8 (u.toNat : Int)) := setCell_comm wb g p (156 + q) _ _ (by omega)
    have en : (0 : Int) ≤ 156 + (q : Int) := by omega
    have et : (156 + (q : Int)).toNat = 156 + q := by omega
    have e1 : (p : Int) < h.size := by omega
    have e2 : 156 + (q : Int) < h.size := by omega
    have HC := Lib.hid hcm
    have HY := Lib.hid hby2
    clear hby hby2 hcm
    go_region
    all_goals try rw [HC.out]
    all_goals
      have htx := ((HY.out).drew).text (P := Tryd.prog) (src := 26) (dst := 9) Tryd.underlying26 Tryd.underlying5 Tryd.underlying9 h.size cap (by simp)
      rw [← HT.out] at htx
      go_wp2_with fail
      refine (RR.out _).mono ?_
      rintro e w4 ⟨rfl, h4⟩
      go_wp2_with fail
      go_ret
      exact ⟨rfl, ((((B3.out.setCell hgw _).setCell hgw _).drew).trans (h4.mono (by simpa using B3.out.size)))⟩

end Go.Proofs.YtighfpcnmgplcaaDoor
