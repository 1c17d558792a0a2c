/-
  path.Compare, and what it draws: a comparer for slices.SortFunc; path.In.
-/
import Derived.Test.YtehooifcgfkngaaDoorPathE
namespace Go.Proofs.YtehooifcgfkngaaDoor
open Go.RowKit Go.Shelf Go.Lib Go.Sort

theorem delete_drawn (xs : List ByteArray) (w : World) (hl : xs.length ≤ 9223372036854775807) :
    Calls Tryd.prog 60 #[.slice (some ⟨w.heap.size, 0, none⟩) xs.length xs.length, .func (.func 62) #[] #[]] (w.alloc (.cells (xs.map Value.string).toArray 9))
      fun e w' => ∃ cap, e = .returned (.slice (some ⟨w.heap.size, 0, none⟩) ((xs.map (·.data.toList)).filter Pth.keep).length cap) ∧ ((xs.map (·.data.toList)).filter Pth.keep).length ≤ cap ∧ w.heap.size < w'.heap.size ∧ RowS w' w.heap.size 0 ((xs.map (·.data.toList)).filter Pth.keep) ∧ Below w.heap.size w w' ∧ w.drawn ≤ w'.drawn := by
  obtain ⟨W, hW⟩ : ∃ W, W = w.alloc (.cells (xs.map Value.string).toArray 9) := ⟨_, rfl⟩
  have hH : Holds Value.string W w.heap.size 0 xs.toArray := fun j hj => by
    have hj' : j < xs.length := by simpa using hj
    rw [hW]
    constructor
    · rw [(Blk.new w _ _).cell]; simp [hj']
    · exact (Blk.new w _ _).frozen _
  have hsz : W.heap.size = w.heap.size + 1 := by rw [hW]; simp
  have hBw : Below w.heap.size w W := by rw [hW]; exact (Below.refl _ _).alloc (Nat.le_refl _) _
  have h := Tryd.slices_DeleteFunc Value.string (fun _ => rfl) (fun x => !Pth.keep x.data.toList) 62 #[] (enters_of Tryd.func62 (by kernel_rfl) rfl) ByteArray.empty Tryd.zeroValue9
    w.heap.size 0 xs.length xs.toArray W (fun W' x _ => drop_any x W') (fun n os dk x _ => drop_any x _) hH (by simpa using hl) (by simp)
  rw [← hW]
  have hsx : xs.toArray.size = xs.length := by simp
  rw [hsx] at h
  have hnot : (fun x : ByteArray => !!Pth.keep x.data.toList) = fun x => Pth.keep x.data.toList := by funext x; simp
  rw [hnot] at h
  obtain ⟨ys, hys⟩ : ∃ ys, ys = xs.filter (fun x => Pth.keep x.data.toList) := ⟨_, rfl⟩
  have hyl : ys.length ≤ xs.length := by rw [hys]; exact List.length_filter_le _ _
  have hym : ys.map (·.data.toList) = (xs.map (·.data.toList)).filter Pth.keep := by rw [hys, List.filter_map]; rfl
  rw [← hym]
  refine h.mono fun e w' ⟨he, q, hw⟩ => ?_
  subst he
  have hxs : xs.toArray.toList = xs := by simp
  rw [hxs, ← hys] at hw
  obtain ⟨D, hD⟩ : ∃ D, D = (ys ++ List.replicate (xs.length - ys.length) ByteArray.empty).toArray := ⟨_, rfl⟩
  rw [← hD] at hw
  have hDs : D.size = xs.toArray.size := by rw [hD]; simp; omega
  have hH2 : Holds Value.string (Sort.ahead W q) w.heap.size 0 xs.toArray := hH
  have hDk : ∀ j (hj : j < ys.length), D[j]! = ys[j] := fun j hj => by
    rw [getElem!_pos D j (by rw [hDs]; simp; omega)]
    simp only [hD, List.getElem_toArray, List.getElem_append_left hj]
  have hbelow : Below w.heap.size w w' := by
    rw [hw]
    refine ⟨hBw.os, hBw.tape, hBw.output, ?_, fun i hi => ?_⟩
    · rw [size_putRow]; exact hBw.size
    · have : (putRow Value.string (Sort.ahead W q) w.heap.size 0 D).heap[i]? = (Sort.ahead W q).heap[i]? := by
        unfold putRow mapBlock
        rw [Array.getElem?_modify, if_neg (by omega)]
      rw [this]; exact hBw.block i hi
  have hdr : w.drawn ≤ w'.drawn := by
    rw [hw]
    show w.drawn ≤ W.drawn + q
    rw [hW]
    exact Nat.le_add_right _ _
  have hlen : (xs.toArray.toList.filter (fun x => Pth.keep x.data.toList)).length = (ys.map (·.data.toList)).length := by rw [hxs, ← hys]; simp
  rw [hlen]
  refine ⟨_, rfl, by simpa using hyl, ?_, fun j hj => ?_, hbelow, hdr⟩
  · rw [hw, size_putRow]; show w.heap.size < W.heap.size; omega
  · have hj' : j < ys.length := by simpa using hj
    rw [hw, cell?_putRow Value.string (Sort.ahead W q) w.heap.size 0 xs.toArray D hH2 hDs j (by rw [hDs]; simp; omega), hDk j hj', List.getElem_map, bs_of]

theorem parts_drawn (s : ByteArray) (w : World) (hs : s.size ≤ 4000000) (hm : ML w) :
    Calls Tryd.prog 41 #[.string s] w fun e w' => ∃ b cap, e = .returned (.slice (some ⟨b, 0, none⟩) (Pth.parts s.data.toList).length cap) ∧ (Pth.parts s.data.toList).length ≤ cap ∧ w.heap.size ≤ b ∧ b < w'.heap.size ∧ RowS w' b 0 (Pth.parts s.data.toList) ∧ Below w.heap.size w w' ∧ w.drawn ≤ w'.drawn := by
  obtain ⟨xs, hxs, hc⟩ := split_named s w hs hm
  have hl : xs.length ≤ 9223372036854775807 := by
    have := Pth.split_len s.data.toList
    rw [← hxs, List.length_map, list_size] at this
    omega
  have hd := delete_drawn xs w hl
  rw [hxs] at hd
  have HD := Lib.hid hd
  have HC := Lib.hid hc
  clear hd hc hxs hl hm
  go_enter Tryd.func41, Tryd.ntmps41
  go_wp2_with fail
  refine HC.out.mono ?_
  rintro e w1 ⟨rfl, rfl⟩
  go_wp2_with fail
  refine HD.out.mono ?_
  rintro e w2 ⟨cap, rfl, h0, h1, h2, h3, h4⟩
  have H0 := Lib.hid h0
  have H1 := Lib.hid h1
  have H2 := Lib.hid h2
  have H3 := Lib.hid h3
  have H4 := Lib.hid h4
  clear h0 h1 h2 h3 h4
  go_wp2_with fail
  go_ret
  exact ⟨_, cap, rfl, H0.out, Nat.le_refl _, H1.out, H2.out, H3.out, H4.out⟩
theorem parts_dr (s : ByteArray) (w : World) (hs : s.size ≤ 4000000) (hm : ML w) :
    Calls Tryd.prog 41 #[.string s] w fun e w' => ∃ v, e = .returned v ∧ HasS w' w.heap.size v (Pth.parts s.data.toList) ∧ Below w.heap.size w w' ∧ w.drawn ≤ w'.drawn :=
  (parts_drawn s w hs hm).mono fun _ _ ⟨_, _, he, h0, h1, h2, h3, h4, h5⟩ => ⟨_, he, HasS.row h1 h2 h0 h3, h4, h5⟩
/-- path.Compare. -/
theorem order_drawn (a b : ByteArray) (w : World) (ha : a.size ≤ 100000) (hb : b.size ≤ 100000) (hm : ML w) :
    Calls Tryd.prog 28 #[.string a, .string b] w fun e w' => e = .returned (.int .i64 (Pth.cmp (Pth.parts a.data.toList) (Pth.parts b.data.toList))) ∧ Below w.heap.size w w' ∧ w.drawn ≤ w'.drawn := by
  have l1 := Pth.parts_len a.data.toList
  have l2 := Pth.parts_len b.data.toList
  rw [list_size] at l1 l2
  obtain ⟨P, hP⟩ : ∃ P, P = Pth.parts a.data.toList := ⟨_, rfl⟩
  obtain ⟨Q, hQ⟩ : ∃ Q, Q = Pth.parts b.data.toList := ⟨_, rfl⟩
  have p1 := parts_dr a w (by omega) hm
  have p2 := fun w hm => parts_dr b w (by omega) hm
  rw [← hP] at l1 p1 ⊢
  rw [← hQ] at l2 ⊢
  have p2' : ∀ w, ML w → Calls Tryd.prog 41 #[.string b] w fun e w' => ∃ v, e = .returned v ∧ HasS w' w.heap.size v Q ∧ Below w.heap.size w w' ∧ w.drawn ≤ w'.drawn := by rw [hQ]; exact p2
  have P1 := Lib.hid p1
  have P2 := Lib.hid p2'
  have HM := Lib.hid hm
  clear hP hQ p1 p2 p2' hm
  go_enter Tryd.func28, Tryd.ntmps28
  go_wp2_with fail
  refine P1.out.mono ?_
  rintro e w1 ⟨v, rfl, h1, hb1, hd1⟩
  have H1 := Lib.hid h1
  have B1 := Lib.hid hb1
  have D1 := Lib.hid hd1
  clear h1 hb1 hd1
  go_wp2_with fail
  refine (P2.out _ (HM.out.below B1.out)).mono ?_
  rintro e w2 ⟨u, rfl, h2, hb2, hd2⟩
  have H2 := Lib.hid h2
  have B2 := Lib.hid hb2
  have D2 := Lib.hid hd2
  clear h2 hb2 hd2
  go_wp2_with fail
  refine (compare_any (H1.out.below B2.out) H2.out (by omega) (by omega)).mono ?_
  rintro e w3 ⟨rfl, rfl⟩
  go_wp2_with fail
  go_ret
  exact ⟨rfl, thenB B1.out B2.out, Nat.le_trans D1.out D2.out⟩

theorem below_grow {w w' : World} (h : Below w.heap.size w w') (hd : w.drawn ≤ w'.drawn) : ∃ q os', w' = grow (w.drewN q) os' := by
  refine ⟨w'.drawn - w.drawn, w'.heap.extract w.heap.size w'.heap.size, ?_⟩
  have e1 : w.heap ++ w'.heap.extract w.heap.size w'.heap.size = w'.heap := by
    apply Array.ext_getElem?
    intro i
    by_cases hi : i < w.heap.size
    · rw [Array.getElem?_append_left hi]; exact (h.block i hi).symm
    · rw [Array.getElem?_append_right (by omega), Array.getElem?_extract]
      have hs := h.size
      by_cases hi2 : i < w'.heap.size
      · rw [if_pos (by omega)]; congr 1; omega
      · rw [if_neg (by omega), Array.getElem?_eq_none (by omega)]
  have e2 : w.drawn + (w'.drawn - w.drawn) = w'.drawn := by omega
  obtain ⟨h1, t1, d1, o1, u1⟩ := w'
  show _ = ({ heap := w.heap ++ _, tape := w.tape, drawn := w.drawn + _, os := w.os, output := w.output } : World)
  simp only at e1 e2
  have a1 := h.os; have a2 := h.tape; have a3 := h.output
  simp only at a1 a2 a3
  subst a1; subst a2; subst a3
  simp only [World.mk.injEq]
  exact ⟨e1.symm, trivial, e2.symm, trivial, trivial⟩

/-- path.In leaves the world alone. -/
theorem in_same (a d : ByteArray) (w : World) (hd : d.size ≤ 1000000) :
    Calls Tryd.prog 53 #[.string a, .string d] w fun e w' => e = .returned (.bool (Pth.inn a.data.toList d.data.toList)) ∧ w' = w := by
  have e0 : Pth.inn a.data.toList d.data.toList = (d.data.toList == [] || a.data.toList == d.data.toList || (d.data.toList ++ [47]).isPrefixOf a.data.toList) := rfl
  by_cases h0 : d.data.toList = []
  · have hr : Pth.inn a.data.toList d.data.toList = true := by rw [e0, h0]; rfl
    have HR := Lib.hid hr
    have k1 : d.toList = [] := by rw [str_list]; exact h0
    clear hr e0 h0
    go_enter Tryd.func53, Tryd.ntmps53
    go_wp2_with fail
    go_ret
    rw [HR.out]
    exact ⟨rfl, rfl⟩
  · by_cases h1 : a.data.toList = d.data.toList
    · have hr : Pth.inn a.data.toList d.data.toList = true := by rw [e0, h1]; simp
      have HR := Lib.hid hr
      have had : a = d := ba_ext h1
      have k1 : ¬ d.toList = [] := by rw [str_list]; exact h0
      have k2 : d.toList.isEmpty = false := by rw [str_list]; simpa using h0
      clear hr e0 h0 h1
      subst had
      go_enter Tryd.func53, Tryd.ntmps53
      go_wp2_with fail
      go_ret
      rw [HR.out]
      exact ⟨by simp, rfl⟩
    · have hr : Pth.inn a.data.toList d.data.toList = (d.data.toList ++ [47]).isPrefixOf a.data.toList := by rw [e0, beq_eq_false_iff_ne.2 h0, beq_eq_false_iff_ne.2 h1]; rfl
      have hp := fun w => Tryd.strings_HasPrefix a (d ++ ⟨#[47]⟩) w
      have ep : Lib.hasPrefix a.data.toList (d ++ (⟨#[47]⟩ : ByteArray)).data.toList = Pth.inn a.data.toList d.data.toList := by
        rw [hr, cat_list]; rfl
      rw [ep] at hp
      obtain ⟨bb, hbb⟩ : ∃ bb, bb = Pth.inn a.data.toList d.data.toList := ⟨_, rfl⟩
      rw [← hbb] at hp ⊢
      have HP := Lib.hid hp
      have k1 : ¬ d.toList = [] := by rw [str_list]; exact h0
      have k2 : d.toList.isEmpty = false := by rw [str_list]; simpa using h0
      have k3 : (a.toList == d.toList) = false := by rw [str_list, str_list]; simpa using h1
      clear hr hp ep hbb e0 h0 h1
      go_enter Tryd.func53, Tryd.ntmps53
      go_wp2_with fail
      refine (HP.out _).mono ?_
      rintro e w1 ⟨rfl, rfl⟩
      go_wp2_with fail
      go_ret
      exact ⟨rfl, rfl⟩


end Go.Proofs.YtehooifcgfkngaaDoor
