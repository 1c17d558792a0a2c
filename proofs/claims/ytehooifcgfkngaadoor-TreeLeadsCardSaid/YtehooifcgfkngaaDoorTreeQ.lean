/-
  grown: the fact on trees that every statement on trees looks at.
-/
import Derived.Test.YtehooifcgfkngaaDoorTreeP
namespace Go.Proofs.YtehooifcgfkngaaDoor
open Go.RowKit Go.Maps Tre

/-- slices.Equal at texts. -/
theorem eq_any {W : World} {B C : Nat} {v u : Value} {ps qs : List Pth.Bs} (h : HasS W B v ps) (k : HasS W C u qs) (hl : ps.length ≤ 1000000) (hl2 : qs.length ≤ 1000000) :
    Calls Tryd.prog 23 #[v, u] W fun e w' => e = .returned (.bool (decide (ps = qs))) ∧ Below W.heap.size W w' := by
  rcases h.ways with ⟨A, cap, rfl, rfl⟩ | ⟨b, off, cap, rfl, _, _, hb, h0, hr⟩
  · obtain ⟨A2, cap2, rfl, _⟩ := k
    refine (Tryd.slices_Equal_string_empty A A2 cap qs.length cap2 W (by omega)).mono fun e w' ⟨he, hw⟩ => ⟨?_, hw ▸ Below.refl _ _⟩
    rw [he]; congr 2; rw [Bool.eq_iff_iff]; simp [eq_comm]
  · rcases k.ways with ⟨A2, cap2, rfl, rfl⟩ | ⟨b2, off2, cap2, rfl, _, _, hb2, h02, hr2⟩
    · refine (Tryd.slices_Equal_string_lens (some ⟨b, off, none⟩) A2 ps.length cap 0 cap2 W (by omega)).mono fun e w' ⟨he, hw⟩ => ⟨?_, hw ▸ Below.refl _ _⟩
      rw [he]; congr 2; symm; apply decide_eq_false; intro e; rw [e] at h0; simp at h0
    · have cell : ∀ {b off : Nat} {ps : List Pth.Bs}, RowS W b off ps → ∀ j, j < (ps.map bs).length → W.cell? ⟨b, off + j, none⟩ = some (.string ((ps.map bs).getD j ByteArray.empty)) := fun hr j hj => by
        have hj' := hj
        rw [List.length_map] at hj'
        rw [List.getD_eq_getElem?_getD, List.getElem?_eq_getElem hj]; simpa using hr j hj'
      refine (Tryd.slices_Equal_string b off ps.length cap b2 off2 qs.length cap2 (ps.map bs) (qs.map bs) W (by simp) (by simp) (by omega) (by omega) (cell hr) (cell hr2)).mono fun e w' ⟨he, q, hw⟩ => ⟨?_, hw ▸ below_drewN (Below.refl _ _) q⟩
      rw [he, List.take_of_length_le (by simp), List.take_of_length_le (by simp)]
      congr 2
      rw [Bool.eq_iff_iff, decide_eq_true_iff, decide_eq_true_iff]
      constructor
      · intro e
        have := congrArg (List.map (fun x : ByteArray => x.data.toList)) e
        rw [List.map_map, List.map_map] at this
        have e1 : ∀ l : List Pth.Bs, l.map ((fun x : ByteArray => x.data.toList) ∘ bs) = l := fun l => List.map_id l
        rwa [e1, e1] at this
      · rintro rfl; rfl


def gx1 : Deed := ⟨1, [100], [], 0, ⟨53, 0, 0, 0, 0, 0, [], [], 0, 0⟩⟩
def gx2 : Deed := ⟨1, [100, 47, 102], [], 0, ⟨48, 0, 0, 0, 0, 0, [120], [], 0, 0⟩⟩
def gx3 : Deed := ⟨2, [100, 47, 102], [103], 0, ⟨0, 0, 0, 0, 0, 0, [], [], 0, 0⟩⟩
def gt1 : T := (act none_ gx1).1
def gt2 : T := (act gt1 gx2).1
def gt3 : T := (act gt2 gx3).1
set_option maxRecDepth 100000 in
theorem gr1 : (act none_ gx1).2 = 0 := by decide
set_option maxRecDepth 100000 in
theorem gr2 : (act gt1 gx2).2 = 0 := by decide
set_option maxRecDepth 100000 in
theorem gr3 : (act gt2 gx3).2 = 0 := by decide
set_option maxRecDepth 100000 in
theorem ge3 : gt3.ents = [([100], 1), ([100, 47, 102], 2), ([103], 2)] := by decide
set_option maxRecDepth 100000 in
theorem gf3 : gt3.file 2 = ⟨48, 0, 0, 0, 0, 0, [120], [], 0, 0⟩ := by decide
theorem gs1 : Std gt1 := Std.none_.act _
theorem gs2 : Std gt2 := gs1.act _
theorem gs3 : Std gt3 := gs2.act _
theorem gn1 : gt1.nx ≤ 3 := Nat.le_trans (act_nx _ _).1 (by simp [none_])
theorem gn2 : gt2.nx ≤ 3 := Nat.le_trans (act_nx _ _).1 (by have : gt1.nx ≤ 1 := Nat.le_trans (act_nx _ _).1 (by simp [none_]); omega)
set_option maxRecDepth 100000 in
theorem gnames : gt3.names = [[100], [100, 47, 102], [103]] := by
  refine (eq_names gs3 ?_ ?_).symm
  · rw [ge3]; exact List.Perm.refl _
  · decide
set_option maxRecDepth 100000 in
theorem glinks : gt3.links [103] = 2 := by unfold T.links T.alike; rw [ge3]; decide
set_option maxRecDepth 100000 in
theorem galike : gt3.alike [103] [100, 47, 102] = true := by unfold T.alike; rw [ge3]; decide
theorem gget : getV gt3 [103] = .tuple #[.agg #[.int .u8 48, .int .i64 0, .int .i64 0, .int .i64 0, .int .i64 0, .int .i64 0, .string ⟨#[120]⟩, .string ⟨#[]⟩, .int .i64 0, .int .i64 0], .nilIface] := by
  have e : Tre.look gt3.ents [103] = some 2 := by rw [ge3]; decide
  unfold getV
  rw [e]
  simp only [gf3]
  rfl

set_option maxRecDepth 100000 in
set_option maxHeartbeats 4000000 in
theorem grown_any (w : World) (hm : ML w) : Calls Tryd.prog 9 #[] w fun e w' => e = .returned (.bool true) ∧ Below w.heap.size w w' := by
  have HM := Lib.hid hm
  have T0 := Lib.hid (empty_tree w)
  have B0 := Lib.hid ((Below.refl w.heap.size w).alloc (Nat.le_refl _) (.cells #[.map none, .map none, .int .i64 0] 58))
  have D1 := Lib.hid (do_tree T0.out Std.none_ (by simp [none_]) (hm.below B0.out) gx1 (by decide) (by decide) (by decide) (by decide) (by decide))
  rw [gr1] at D1
  have e0 : errV 0 = .nilIface := rfl
  rw [e0] at D1
  unfold dv dvc gx1 at D1
  simp only at D1
  clear hm
  go_enter Tryd.func9, Tryd.ntmps9
  go_wp2_with fail
  refine D1.out.mono ?_
  rintro e w1 ⟨rfl, on1, of1, k1, k2, k3⟩
  have K1 : Hid (TreeAt w1 w.heap.size on1 of1 gt1) := Lib.hid k1
  have O1 := Lib.hid (show ∀ b ∈ own w.heap.size on1 of1, w.heap.size ≤ b from fun b hb => by
    rcases k2 b hb with h | h
    · simp [own] at h; omega
    · simp at h; omega)
  have B1 := Lib.hid (B0.out.trans (k3.down (B := w.heap.size) (fun b hb => by simp [own] at hb; omega) (by simp)))
  clear k1 k2 k3
  have D2 := Lib.hid (do_tree K1.out gs1 (by have := gn1; omega) (HM.out.below B1.out) gx2 (by decide) (by decide) (by decide) (by decide) (by decide))
  rw [gr2, e0] at D2
  unfold dv dvc gx2 at D2
  simp only at D2
  go_wp2_with fail
  refine D2.out.mono ?_
  rintro e w2 ⟨rfl, on2, of2, k1, k2, k3⟩
  have K2 : Hid (TreeAt w2 w.heap.size on2 of2 gt2) := Lib.hid k1
  have O2 := Lib.hid (show ∀ b ∈ own w.heap.size on2 of2, w.heap.size ≤ b from fun b hb => by
    rcases k2 b hb with h | h
    · exact O1.out b h
    · exact Nat.le_trans B1.out.size h)
  have B2 := Lib.hid (B1.out.trans (k3.down O1.out B1.out.size))
  clear k1 k2 k3
  have D3 := Lib.hid (do_tree K2.out gs2 (by have := gn2; omega) (HM.out.below B2.out) gx3 (by decide) (by decide) (by decide) (by decide) (by decide))
  rw [gr3, e0] at D3
  unfold dv dvc gx3 at D3
  simp only at D3
  go_wp2_with fail
  refine D3.out.mono ?_
  rintro e w3 ⟨rfl, on3, of3, k1, k2, k3⟩
  have K3 : Hid (TreeAt w3 w.heap.size on3 of3 gt3) := Lib.hid k1
  have B3 := Lib.hid (B2.out.trans (k3.down O2.out B2.out.size))
  clear k1 k2 k3 D1 D2 D3 K1 K2
  have GG := Lib.hid (get_any K3.out ⟨#[103]⟩ (fun k hk => by have := (gs3.short hk).2; have : gt3.nx ≤ 4 := Nat.le_trans (act_nx _ _).1 (by have := gn2; omega); omega) (by decide))
  have e1 : getV gt3 (⟨#[103]⟩ : ByteArray).data.toList = getV gt3 [103] := rfl
  rw [e1, gget] at GG
  clear e1
  go_wp2_with fail
  refine GG.out.mono ?_
  rintro e w4 ⟨rfl, h4⟩
  have T4 := K3.out.below h4
  have LL := Lib.hid (fun w' (hb : Below w4.heap.size w4 w') => links_any (T4.below hb) gs3 ⟨#[103]⟩ (by decide))
  have AA := Lib.hid (fun w' (hb : Below w4.heap.size w4 w') => alike_any (T4.below hb) ⟨#[103]⟩ ⟨#[100, 47, 102]⟩ (by decide) (by decide))
  have B4 := Lib.hid (thenB B3.out h4)
  have NN := Lib.hid (fun w' (hb : Below w4.heap.size w4 w') => names_any (T4.below hb) gs3 ((HM.out.below B4.out).below hb))
  rw [gnames] at NN
  have LL2 : Hid (∀ w', Below w4.heap.size w4 w' → Calls Tryd.prog 12 #[.pointer (some ⟨w.heap.size, 0, none⟩), .string ⟨#[103]⟩] w' fun e w'' => e = .returned (.int .i64 2) ∧ Below w'.heap.size w' w'') := Lib.hid (fun w' hb => by
    have := LL.out w' hb
    rw [show T.links gt3 (⟨#[103]⟩ : ByteArray).data.toList = 2 from glinks] at this
    exact this)
  have AA2 : Hid (∀ w', Below w4.heap.size w4 w' → Calls Tryd.prog 14 #[.pointer (some ⟨w.heap.size, 0, none⟩), .string ⟨#[103]⟩, .string ⟨#[100, 47, 102]⟩] w' fun e w'' => e = .returned (.bool true) ∧ w'' = w') := Lib.hid (fun w' hb => by
    have := AA.out w' hb
    rw [show T.alike gt3 (⟨#[103]⟩ : ByteArray).data.toList (⟨#[100, 47, 102]⟩ : ByteArray).data.toList = true from galike] at this
    exact this)
  clear h4 T4 LL AA GG
  go_wp2_with fail
  refine (LL2.out _ ((Below.refl _ _).alloc (Nat.le_refl _) _)).mono ?_
  rintro e w5 ⟨rfl, h5⟩
  have B5 := Lib.hid (thenB ((Below.refl w4.heap.size w4).alloc (Nat.le_refl _) _) h5)
  clear h5
  go_wp2_with fail
  refine (AA2.out _ B5.out).mono ?_
  rintro e w' ⟨rfl, hw⟩
  subst w'
  go_wp2_with fail
  refine (NN.out _ B5.out).mono ?_
  rintro e w6 ⟨v, rfl, hv, h6⟩
  have B6 := Lib.hid (thenB B5.out h6)
  have hs1 : HasS w6 w5.heap.size v [[100], [100, 47, 102], [103]] := hv.has
  have HV := Lib.hid hs1
  clear hv hs1 h6
  have hrow : RowS (w6.alloc (.cells #[.string ⟨#[100]⟩, .string ⟨#[100, 47, 102]⟩, .string ⟨#[103]⟩] 9)) w6.heap.size 0 [[100], [100, 47, 102], [103]] := fun j hj => by
    have hnb := Blk.new w6 9 #[.string ⟨#[100]⟩, .string ⟨#[100, 47, 102]⟩, .string ⟨#[103]⟩]
    rw [Nat.zero_add, hnb.cell]
    match j, hj with
    | 0, _ => rfl
    | 1, _ => rfl
    | 2, _ => rfl
  have EQ := Lib.hid (eq_any (HV.out.below ((Below.refl _ _).alloc (Nat.le_refl _) (.cells #[.string ⟨#[100]⟩, .string ⟨#[100, 47, 102]⟩, .string ⟨#[103]⟩] 9))) (HasS.row (B := 0) (cap := 3) (Nat.zero_le _) (by simp) (by simp) hrow) (by simp) (by simp))
  clear hrow
  go_wp2_with fail
  refine EQ.out.mono ?_
  rintro e w7 ⟨rfl, h7⟩
  have B7 := Lib.hid (thenB (B6.out.alloc B6.out.size _) h7)
  clear h7
  go_wp2_with fail
  go_ret
  exact ⟨rfl, B4.out.trans (B7.out.mono B4.out.size)⟩

end Go.Proofs.YtehooifcgfkngaaDoor
