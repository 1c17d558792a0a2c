/-
  path.Clean.
-/
import Derived.Test.YtehooifcgfkngaaDoorPathA
namespace Go.Proofs.YtehooifcgfkngaaDoor
open Go.RowKit

/-- The cells of a row of texts. -/
def cellsS (L : List Pth.Bs) : List Value := L.map fun p => Value.string (bs p)
theorem cellsS_snoc (L : List Pth.Bs) (p : Pth.Bs) : cellsS L ++ [.string (bs p)] = cellsS (L ++ [p]) := by unfold cellsS; simp
theorem owns_has {W : World} {B : Nat} {v : Value} {L : List Pth.Bs} (h : W.ownsRow B 9 1 v L.length (cellsS L)) : HasS W B v L := by
  obtain ⟨_, h⟩ := h
  rcases h with ⟨rfl, h0⟩ | ⟨g, cap, cur, rfl, hB, hh, hc, _, hs, ht⟩
  · rw [List.length_eq_zero_iff.1 h0]; exact HasS.nil _ _ _ _
  · refine HasS.row hB ?_ hc (fun j hj => ?_)
    · rcases Nat.lt_or_ge g W.heap.size with hlt | hge
      · exact hlt
      · rw [Array.getElem?_eq_none hge] at hh; cases hh
    · rw [cell_of_row W g (0 + j) cur _ (0, 0) hh]
      have h1 : (cur.toList.take (L.length * 1))[j]? = some (.string (bs L[j])) := by rw [ht]; simp [cellsS, hj]
      rw [List.getElem?_take, if_pos (by omega)] at h1
      rw [Nat.zero_add]; simpa using h1
theorem owns_cut {W : World} {B g k cap : Nat} {L : List Pth.Bs} (h : W.ownsRow B 9 1 (.slice (some ⟨g, 0, none⟩) (k + 1) cap) L.length (cellsS L)) (hk : L.length = k + 1) :
    W.ownsRow B 9 1 (.slice (some ⟨g, 0, none⟩) k cap) L.dropLast.length (cellsS L.dropLast) := by
  obtain ⟨h1, h⟩ := h
  rw [hk] at h
  rcases h with ⟨hv, h0⟩ | ⟨g', cap', cur, hv, hB, hh, hc, hm, hs, ht⟩
  · cases hv
  · cases hv
    have hl : L.dropLast.length = k := by rw [List.length_dropLast]; omega
    refine ⟨by rw [hl]; simp [cellsS, hk], .inr ⟨g, cap, cur, by rw [hl], hB, hh, by omega, hm, hs, ?_⟩⟩
    have e : cellsS L.dropLast = (cellsS L).take k := by
      unfold cellsS; rw [List.dropLast_eq_take, hk, List.map_take]; rfl
    rw [e, ← ht, List.take_take, hl]; congr 1; omega
theorem owns_shape {W : World} {B : Nat} {v : Value} {L : List Pth.Bs} (h : W.ownsRow B 9 1 v L.length (cellsS L)) :
    (v = .slice none 0 0 ∧ L = []) ∨ ∃ g cap, v = .slice (some ⟨g, 0, none⟩) L.length cap ∧ L.length ≤ cap := by
  obtain ⟨_, h⟩ := h
  rcases h with ⟨hv, h0⟩ | ⟨g, cap, cur, hv, hB, hh, hc, _⟩
  · exact .inl ⟨hv, List.length_eq_zero_iff.1 h0⟩
  · exact .inr ⟨g, cap, hv, hc⟩

theorem join_any {W : World} {B : Nat} {v : Value} {L : List Pth.Bs} (h : HasS W B v L) (hL : L.length ≤ 10000000) (hlen : (Pth.join L).length ≤ 10000000) :
    Calls Tryd.prog 43 #[v, .string ⟨#[47]⟩] W fun e w' => e = .returned (.string (bs (Pth.join L))) ∧ Below W.heap.size W w' := by
  rcases h.ways with ⟨A, cap, rfl, rfl⟩ | ⟨b, off, cap, rfl, hc, _, hb, h0, hr⟩
  · exact (Tryd.strings_Join_none A cap ⟨#[47]⟩ W).mono fun e w' ⟨he, hw⟩ => ⟨he, hw ▸ Below.refl _ _⟩
  · have hm : (L.map bs).map (·.data.toList) = L := by rw [List.map_map]; exact List.map_id L
    have e : Lib.join ((L.map bs).map (·.data.toList)) (⟨#[47]⟩ : ByteArray).data.toList = Pth.join L := by rw [hm]; exact Pth.lib_join L
    have h := Tryd.strings_Join b off cap (L.map bs) ⟨#[47]⟩ W (fun j x hx => by
      rw [List.getElem?_map] at hx
      by_cases hj : j < L.length
      · rw [List.getElem?_eq_getElem hj] at hx; cases hx; exact hr j hj
      · rw [List.getElem?_eq_none (by omega)] at hx; cases hx) hb (by simp; omega) (by simp; omega) (by rw [e]; omega)
    rw [e, List.length_map] at h
    exact h

theorem infoS : (Tryd.prog.info? 9).map (fun i => (i.zero, i.size, i.bytes)) = some (some (.string ByteArray.empty), 1, 16) := by kernel_rfl

set_option maxRecDepth 100000 in
set_option maxHeartbeats 1000000 in
theorem clean_any (s : ByteArray) (w : World) (hs : s.size ≤ 2000000) (hm : ML w) :
    Calls Tryd.prog 40 #[.string s] w fun e w' => e = .returned (.tuple #[.string (bs (Pth.clean s.data.toList)), .bool (Pth.cleanOk s.data.toList)]) ∧ Below w.heap.size w w' := by
  obtain ⟨i0, i1, i2, i3, i4⟩ := info_parts infoS
  have hP := parts_any s w (by omega) hm
  have hcl := Pth.clean_len s.data.toList
  have hpl := Pth.parts_len s.data.toList
  rw [list_size] at hcl hpl
  obtain ⟨C, hC⟩ : ∃ C, C = Pth.clean s.data.toList := ⟨_, rfl⟩
  obtain ⟨ok, hok⟩ : ∃ ok, ok = Pth.cleanOk s.data.toList := ⟨_, rfl⟩
  obtain ⟨ps, hps⟩ : ∃ ps, ps = Pth.parts s.data.toList := ⟨_, rfl⟩
  have hrun : C = Pth.join (Pth.run ([], true) ps).1 ∧ ok = (Pth.run ([], true) ps).2 := by rw [hC, hok, hps]; exact ⟨rfl, rfl⟩
  rw [← hps] at hP hpl
  rw [← hC] at hcl
  rw [← hC, ← hok]
  have hps1 : ps.length ≤ 4000000 := by omega
  have hC1 : C.length ≤ 4000000 := by omega
  have HP := Lib.hid hP
  have HRUN := Lib.hid hrun
  clear hP hC hok hps hrun hcl hpl hm
  go_enter Tryd.func40, Tryd.ntmps40
  go_wp2_with fail
  refine HP.out.mono ?_
  rintro e w1 ⟨v, rfl, h1, hb1⟩
  have B1 := Lib.hid hb1
  rcases h1.ways with ⟨A, cap, rfl, rfl⟩ | ⟨b, off, cap, rfl, hc, _, hb, h0, hr⟩
  · have hj := fun w : World => join_any (HasS.nil w 0 none 0) (by simp) (by simp [Pth.join])
    have HJ := Lib.hid hj
    have e1 : C = [] := HRUN.out.1
    have e2 : ok = true := HRUN.out.2
    subst e2
    subst e1
    clear h1 hb1 hj
    go_wp2_with fail
    refine wp_loop_rounds 1 ?_
    rw [rounds_succ]
    go_wp2_with fail
    refine (HJ.out _).mono ?_
    rintro e w2 ⟨rfl, hb2⟩
    have B2 := Lib.hid (thenB B1.out hb2)
    clear hb2
    go_wp2_with fail
    go_ret2
    exact ⟨rfl, B2.out⟩
  · have HRW := Lib.hid hr
    clear h1 hb1 hr
    go_wp2_with fail
    go_loopg [4, 5, 11] (ps.length) (fun gh lv ov iv wr => ∃ (i : Nat) (L : List Pth.Bs) (o : Bool), iv = .int .i64 i ∧ i ≤ ps.length ∧ gh + i = ps.length ∧ Below w1.heap.size w1 wr ∧ wr.ownsRow w1.heap.size 9 1 lv L.length (cellsS L) ∧ ov = .bool o ∧ L.length ≤ i ∧ Pth.run (L, o) (ps.drop i) = Pth.run ([], true) ps)
    case atStart => exact ⟨0, [], true, rfl, by omega, by omega, Below.refl _ _, World.ownsRow_nil _ _ _ _, rfl, by simp, by simp⟩
    case round =>
      obtain ⟨i, L, o, rfl, hi1, hg, hbw, hown, rfl, hLi, hR⟩ := hrel
      have Hg := Lib.hid hg
      have HW := Lib.hid hbw
      have HO := Lib.hid hown
      have HR := Lib.hid hR
      clear hg hbw hown hR
      by_cases hi : i < ps.length
      · have hi3 : (i : Int) < ps.length := by omega
        have c1 := (HW.out.cell (p := ⟨b, off + i, none⟩) hb).trans (HRW.out i hi)
        obtain ⟨p, hp⟩ : ∃ p, p = ps[i] := ⟨_, rfl⟩
        rw [← hp] at c1
        have hdr : ps.drop i = p :: ps.drop (i + 1) := by rw [hp]; exact List.drop_eq_getElem_cons hi
        have hR2 : Pth.run (Pth.step (L, o) p) (ps.drop (i + 1)) = Pth.run ([], true) ps := by rw [← HR.out, hdr]; rfl
        obtain ⟨X, hX⟩ : ∃ X, X = bs p := ⟨_, rfl⟩
        rw [← hX] at c1
        have hXp : X.toList = p := by rw [hX, str_list, bs_list]
        have HX := Lib.hid hX
        clear hp hdr hX HR
        by_cases hdd : p = Pth.dd
        · have k1 : (X.toList == [46, 46]) = true := by rw [hXp, hdd]; rfl
          have k2 : (X.toList != [46, 46]) = false := by rw [hXp, hdd]; rfl
          have hst : Pth.step (L, o) p = if L = [] then (L, false) else (L.dropLast, o) := by unfold Pth.step; rw [if_neg (by simp [hdd])]
          rw [hst] at hR2
          have HR2 := Lib.hid hR2
          clear hst hR2 hXp hdd
          by_cases hL0 : L = []
          · have hR3 : Pth.run (L, false) (ps.drop (i + 1)) = Pth.run ([], true) ps := by have := HR2.out; rwa [if_pos hL0] at this
            have HR3 := Lib.hid hR3
            obtain ⟨A, cap2, hv⟩ : ∃ A cap2, u4 = .slice A 0 cap2 := by
              rcases owns_shape HO.out with ⟨e, _⟩ | ⟨g, cap2, e, _⟩
              · exact ⟨_, _, e⟩
              · rw [hL0] at e; exact ⟨_, _, e⟩
            have HO2 := HO
            rw [hv] at HO2 ⊢
            clear HO hv hL0 hR3
            go_wp2_with fail
            go_roundg (ps.length - (i + 1))
            case measure => have := Hg.out; omega
            case rel => exact ⟨i + 1, L, false, by go_num, by omega, by omega, HW.out, HO2.out, rfl, by omega, HR3.out⟩
          · have hR3 : Pth.run (L.dropLast, o) (ps.drop (i + 1)) = Pth.run ([], true) ps := by have := HR2.out; rwa [if_neg hL0] at this
            have HR3 := Lib.hid hR3
            obtain ⟨k, hk⟩ : ∃ k, L.length = k + 1 := ⟨L.length - 1, by have := List.length_pos_iff.2 hL0; omega⟩
            obtain ⟨g, cap2, hv, hcap2⟩ : ∃ g cap2, u4 = .slice (some ⟨g, 0, none⟩) (k + 1) cap2 ∧ k + 1 ≤ cap2 := by
              rcases owns_shape HO.out with ⟨_, e⟩ | ⟨g, cap2, e, hc⟩
              · exact absurd e hL0
              · rw [hk] at e hc; exact ⟨g, cap2, e, hc⟩
            have HO2 := HO
            rw [hv] at HO2 ⊢
            have ho3 := owns_cut HO2.out hk
            have HO3 := Lib.hid ho3
            have hk0 : ((k : Int) + 1 == 0) = false := by simp; omega
            have hk9 : k ≤ 4000000 := by omega
            have hkc : (k : Int) ≤ cap2 := by omega
            have hdl : L.dropLast.length ≤ i + 1 := by rw [List.length_dropLast]; omega
            clear HO HO2 hv hL0 hR3 ho3 hk
            go_wp2_with fail
            go_roundg (ps.length - (i + 1))
            case measure => have := Hg.out; omega
            case rel => exact ⟨i + 1, L.dropLast, o, by go_num, by omega, by omega, HW.out, HO3.out, rfl, hdl, HR3.out⟩
        · have k1 : (X.toList == [46, 46]) = false := by rw [hXp]; simpa using hdd
          have k2 : (X.toList != [46, 46]) = true := by rw [hXp]; simpa using hdd
          have hst : Pth.step (L, o) p = (L ++ [p], o) := by unfold Pth.step; rw [if_pos hdd]
          rw [hst] at hR2
          have HR2 := Lib.hid hR2
          have HB2 := Lib.hid (HW.out.alloc HW.out.size (.cells #[.string X] 9))
          clear hst hR2 hXp hdd
          go_wp2_with (first
            | (at_builtin; refine wpList_append_own _ rfl (.tmp 23) (.tmp 25) 26 rfl w1.heap.size 9 i0 _ 1 16 Tryd.underlying26 i1 i2 i3 i4 rfl (by decide) u4 L.length (cellsS L) rfl (HO.out.alloc _) ⟨wr.heap.size, 0, none⟩ 1 1 [.string X] rfl rfl (cell_one_new _ _ _) (by intro u hu; simp at hu; rcases hu with rfl; rfl) (by unfold maxLen; omega) (by omega) (by have := HW.out.size; simp; omega) ?_; intro v' w7 hown' hgrow _))
          have HB7 := Lib.hid (HB2.out.grown hgrow (by have := HW.out.size; simp; omega) (fun q hq => (World.ownsRow.lt (HO.out.alloc (.cells #[.string X] 9)) q hq).1))
          rw [HX.out, cellsS_snoc] at hown'
          have hown2 : w7.ownsRow w1.heap.size 9 1 v' (L ++ [p]).length (cellsS (L ++ [p])) := by rw [List.length_append]; exact hown'
          have HO7 := Lib.hid hown2
          clear hown' hown2 hgrow
          go_wp2_with fail
          go_roundg (ps.length - (i + 1))
          case measure => have := Hg.out; omega
          case rel => exact ⟨i + 1, L ++ [p], o, by go_num, by omega, by omega, HB7.out, HO7.out, rfl, by simp; omega, HR2.out⟩
      · have hi3 : (ps.length : Int) ≤ i := by omega
        have hfin : (L, o) = Pth.run ([], true) ps := by rw [← HR.out, List.drop_of_length_le (by omega)]; rfl
        have e1 : C = Pth.join L := by rw [HRUN.out.1, ← hfin]
        have e2 : ok = o := by rw [HRUN.out.2, ← hfin]
        subst e2
        have hj := join_any (owns_has HO.out) (by omega) (by rw [← e1]; omega)
        rw [← e1] at hj
        have HJ := Lib.hid hj
        clear hfin hj e1 HR
        go_wp2_with fail
        refine HJ.out.mono ?_
        rintro e w2 ⟨rfl, hb2⟩
        have B2 := Lib.hid (thenB (thenB B1.out HW.out) hb2)
        clear hb2
        go_wp2_with fail
        go_ret2
        exact ⟨rfl, B2.out⟩

end Go.Proofs.YtehooifcgfkngaaDoor
