/-
  The walk of BlockBent.
-/
import Derived.Test.YtighfpcnmgplcaaDoorBkC
import Derived.Test.YtighfpcnmgplcaaDoorPick
import Derived.Deep.RegionHeld3
import Derived.Lib.ConvBytes
import Derived.OpenShut
namespace Go.Proofs.YtighfpcnmgplcaaDoor
open Go.RowKit

theorem split_at (l : List UInt8) (k : Nat) (h : k < l.length) : l = l.take k ++ l[k] :: l.drop (k + 1) := by
  have := List.take_append_drop k l
  rw [List.drop_eq_getElem_cons h] at this
  exact this.symm

theorem convert_one (d : UInt8) (w : World) : (convert 26 9 (.slice (some ⟨w.heap.size, 0, none⟩) 1 1)).run Tryd.prog (w.alloc (.cells #[.int .u8 (d.toNat : Int)] 5)).drew = .ok (.string ⟨#[d]⟩) (w.alloc (.cells #[.int .u8 (d.toNat : Int)] 5)).drew :=
  convert_row (P := Tryd.prog) _ 26 9 5 5 w.heap.size 1 1 [d] #[.int .u8 (d.toNat : Int)] Tryd.underlying26 Tryd.underlying5 Tryd.underlying9 rfl rfl (Blk.new w _ _).drew

set_option maxRecDepth 100000 in
set_option maxHeartbeats 2000000 in
theorem blockBent_walk (s : ByteArray) (hs : s.size ≤ 140737488351232) (at_ : Int) (hat : (Lit.int .i64 at_).wf = true) (c : Int) (hc : (Lit.int .u8 c).wf = true) (w : World) :
    Calls Tryd.prog 3 #[.string s, .int .i64 at_, .int .u8 c] w fun e w' => e = .returned (.bool true) ∧ Below w.heap.size w w' := by
  by_cases hbig : 600 < s.size
  · have hb' : (600 : Int) < (s.size : Int) := by omega
    have HB := Lib.hid (fun w => header_big s w hbig)
    clear hbig
    go_enter Tryd.func3, Tryd.ntmps3
    go_wp2_with fail
    refine (blocked_any _).mono ?_
    rintro e w1 ⟨rfl, h1⟩
    have B1 := Lib.hid h1
    clear h1
    go_wp2_with fail
    refine (HB.out _).mono ?_
    rintro e w2 ⟨rfl, rfl⟩
    go_wp2_with fail
    go_ret
    exact ⟨rfl, B1.out⟩
  · obtain ⟨d, rfl⟩ : ∃ d : UInt8, c = (d.toNat : Int) := by
      have h : 0 ≤ c ∧ c < 256 := by have := bounds_u8 hc; omega
      exact ⟨UInt8.ofNat c.toNat, by simp [UInt8.toNat_ofNat']; omega⟩
    have p0 := pickN_lo at_ 504 (by omega)
    have p1 := pickN_hi at_ 504 (by omega)
    obtain ⟨p, hp⟩ := Int.eq_ofNat_of_zero_le p0
    have hpick := fun w => pick_any at_ 504 w (by omega) (by omega)
    rw [hp] at hpick p0 p1
    clear hp
    have rH := fun w => header_any s w (by omega)
    obtain ⟨h, hh⟩ : ∃ h, h = sealB (blockOf s) := ⟨_, rfl⟩
    rw [← hh] at rH
    have hl : (blockOf s).data.toList.length = 512 := by rw [list_size, blockOf_size]
    have hhl : h.data.toList = Bk.sld (blockOf s).data.toList := by rw [hh]; rfl
    have hsz : h.size = 512 := by rw [hh]; exact sealB_size _ (by rw [blockOf_size]; exact Nat.le_refl _) (by rw [blockOf_size]; exact Nat.le_refl _)
    obtain ⟨k, hk⟩ : ∃ k, k = if p < 148 then p else p + 8 := ⟨_, rfl⟩
    have hk1 : k < 512 := by rw [hk]; split <;> omega
    have hk2 : k < 148 ∨ 156 ≤ k := by rw [hk]; split <;> omega
    have hkl : k < h.data.toList.length := by rw [list_size]; omega
    have hdec := split_at h.data.toList k hkl
    have hlen : (h.data.toList.take k).length = k := by rw [List.length_take]; omega
    have hR := right_bent (blockOf s).data.toList (h.data.toList.take k) (h.data.toList.drop (k + 1)) h.data.toList[k] d hl (by rw [← hhl]; exact hdec) (by rw [hlen]; exact hk2)
    obtain ⟨T, hT⟩ : ∃ T, T = h.extract 0 k ++ ⟨#[d]⟩ ++ h.extract (k + 1) h.size := ⟨_, rfl⟩
    have hTl : T.data.toList = h.data.toList.take k ++ d :: h.data.toList.drop (k + 1) := by
      rw [hT, cat_list, cat_list, ext_to, ext_end, List.append_assoc]; rfl
    have hTs : T.size = 512 := by
      have := congrArg List.length hTl
      rw [list_size] at this
      rw [this]
      simp only [List.length_append, List.length_cons, List.length_drop, hlen, list_size]
      omega
    have rR := fun w => right_any T w (by omega) (by omega)
    rw [hTl, hR] at rR
    have rh := fun w => right_any h w (by omega) (by omega)
    rw [hhl, right_seal _ hl] at rh
    have heq : decide (d = h.data.toList[k]) = (T.toList == h.toList) := by
      rw [Lib.toList_data, Lib.toList_data]
      by_cases hd : d = h.data.toList[k]
      · have : T.data.toList = h.data.toList := by rw [hTl, hd]; exact hdec.symm
        rw [this, decide_eq_true hd]; exact (beq_self_eq_true _).symm
      · have : T.data.toList ≠ h.data.toList := fun e => hd (by
          have e2 := congrArg (fun x : List UInt8 => x[k]?) e
          simp only [hTl] at e2
          rw [List.getElem?_append_right (by rw [hlen]; exact Nat.le_refl _), hlen, Nat.sub_self, List.getElem?_eq_getElem hkl] at e2
          simpa using e2)
        rw [beq_eq_false_iff_ne.2 this, decide_eq_false hd]
    rw [heq] at rR
    have PK := Lib.hid hpick
    have RH := Lib.hid rH
    have RR := Lib.hid rR
    have Rh := Lib.hid rh
    have HT := Lib.hid hT.symm
    have HK := Lib.hid hk
    have hz1 : h.size ≤ 512 := by omega
    have hz2 : 512 ≤ h.size := by omega
    clear hpick rH rR rh hT hk heq hTl hTs hR hdec hlen hkl hh hhl hsz hl hbig
    by_cases hlow : p < 148
    · have hlow' : ¬ (148 : Int) ≤ p := by omega
      obtain rfl : k = p := by rw [HK.out, if_pos hlow]
      clear hlow
      have c1 := fun w => run_string_add_sum (P := Tryd.prog) w (h.extract 0 k) ⟨#[d]⟩ (by rw [ext_size _ _ _ (by omega)]; show _ + 1 ≤ _; omega)
      have c2 := fun w => run_string_add_sum (P := Tryd.prog) w (h.extract 0 k ++ ⟨#[d]⟩) (h.extract (k + 1) h.size) (by rw [ByteArray.size_append, ext_size _ _ _ (by omega), ext_size _ _ _ (Nat.le_refl _)]; show _ + 1 + _ ≤ _; omega)
      have hcv := convert_one d
      have ew : IntKind.i64.wrap ((k : Int) + 1) = (k : Int) + 1 := IntWalk.i64_in _ (by omega)
      have en : (0 : Int) ≤ (k : Int) + 1 := by omega
      have et : ((k : Int) + 1).toNat = k + 1 := by omega
      have e2 : (k : Int) + 1 ≤ h.size := by omega
      have e3 : (k : Int) ≤ h.size := by omega
      have e4 : (0 : Int) ≤ (k : Int) := by omega
      have e5 : ((k : Int)).toNat = k := by omega
      go_enter Tryd.func3, Tryd.ntmps3
      go_wp2_with fail
      refine (blocked_any _).mono ?_
      rintro e w1 ⟨rfl, h1⟩
      have B1 := Lib.hid h1
      clear h1
      go_wp2_with fail
      refine (RH.out _).mono ?_
      rintro e w2 ⟨rfl, h2⟩
      have B2 := Lib.hid (thenB B1.out h2)
      clear h2 B1
      go_wp2_with fail
      refine (PK.out _).mono ?_
      rintro e w3 ⟨rfl, rfl⟩
      go_wp2_with fail
      go_cut [9] (fun s9 wx => s9 = .string T ∧ Below w.heap.size w wx)
      case first =>
        go_region
        all_goals go_wp2_with fail
        all_goals go_meet
        all_goals rw [HT.out]
        all_goals exact ⟨rfl, (B2.out.alloc (by have := B2.out.size; omega) _).drew⟩
      case rest =>
        obtain ⟨rfl, hb⟩ := hcut
        have BB := Lib.hid hb
        clear hb
        go_wp2_with fail
        refine (Rh.out _).mono ?_
        rintro e w4 ⟨rfl, h4⟩
        have B4 := Lib.hid (thenB BB.out h4)
        clear h4
        go_wp2_with fail
        refine (RR.out _).mono ?_
        rintro e w5 ⟨rfl, h5⟩
        have B5 := Lib.hid (thenB B4.out h5)
        clear h5
        go_wp2_with fail
        go_ret
        exact ⟨by simp, B5.out⟩
    · have hlow' : (148 : Int) ≤ p := by omega
      obtain rfl : k = p + 8 := by rw [HK.out, if_neg hlow]
      clear hlow
      have c1 := fun w => run_string_add_sum (P := Tryd.prog) w (h.extract 0 (p + 8)) ⟨#[d]⟩ (by rw [ext_size _ _ _ (by omega)]; show _ + 1 ≤ _; omega)
      have c2 := fun w => run_string_add_sum (P := Tryd.prog) w (h.extract 0 (p + 8) ++ ⟨#[d]⟩) (h.extract ((p + 8) + 1) h.size) (by rw [ByteArray.size_append, ext_size _ _ _ (by omega), ext_size _ _ _ (Nat.le_refl _)]; show _ + 1 + _ ≤ _; omega)
      have hcv := convert_one d
      have ew : IntKind.i64.wrap (((p : Int) + 8) + 1) = ((p : Int) + 8) + 1 := IntWalk.i64_in _ (by omega)
      have en : (0 : Int) ≤ ((p : Int) + 8) + 1 := by omega
      have et : (((p : Int) + 8) + 1).toNat = (p + 8) + 1 := by omega
      have e2 : ((p : Int) + 8) + 1 ≤ h.size := by omega
      have e3 : ((p : Int) + 8) ≤ h.size := by omega
      have e4 : (0 : Int) ≤ ((p : Int) + 8) := by omega
      have e5 : (((p : Int) + 8)).toNat = (p + 8) := by omega
      go_enter Tryd.func3, Tryd.ntmps3
      go_wp2_with fail
      refine (blocked_any _).mono ?_
      rintro e w1 ⟨rfl, h1⟩
      have B1 := Lib.hid h1
      clear h1
      go_wp2_with fail
      refine (RH.out _).mono ?_
      rintro e w2 ⟨rfl, h2⟩
      have B2 := Lib.hid (thenB B1.out h2)
      clear h2 B1
      go_wp2_with fail
      refine (PK.out _).mono ?_
      rintro e w3 ⟨rfl, rfl⟩
      go_wp2_with fail
      go_cut [9] (fun s9 wx => s9 = .string T ∧ Below w.heap.size w wx)
      case first =>
        go_region
        all_goals go_wp2_with fail
        all_goals go_meet
        all_goals rw [HT.out]
        all_goals exact ⟨rfl, (B2.out.alloc (by have := B2.out.size; omega) _).drew⟩
      case rest =>
        obtain ⟨rfl, hb⟩ := hcut
        have BB := Lib.hid hb
        clear hb
        go_wp2_with fail
        refine (Rh.out _).mono ?_
        rintro e w4 ⟨rfl, h4⟩
        have B4 := Lib.hid (thenB BB.out h4)
        clear h4
        go_wp2_with fail
        refine (RR.out _).mono ?_
        rintro e w5 ⟨rfl, h5⟩
        have B5 := Lib.hid (thenB B4.out h5)
        clear h5
        go_wp2_with fail
        go_ret
        exact ⟨by simp, B5.out⟩

end Go.Proofs.YtighfpcnmgplcaaDoor
