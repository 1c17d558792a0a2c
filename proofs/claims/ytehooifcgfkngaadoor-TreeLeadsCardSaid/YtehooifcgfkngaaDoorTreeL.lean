/-
  (*Tree).move.
-/
import Derived.Test.YtehooifcgfkngaaDoorTreeK
import Derived.Deep.RegionHeld3
namespace Go.Proofs.YtehooifcgfkngaaDoor
open Go.RowKit Go.Maps Tre

theorem cell_map_ne {w : World} {b b' n o : Nat} {K : TypeId} {P : Program} {f : Lit → Option Value} {v : Value} (h : w.cell? ⟨b, o, none⟩ = some v) (k : MapF w P K b' f n) : b ≠ b' := by
  rintro rfl
  obtain ⟨D, ⟨es, clock, hb, _⟩, _⟩ := k
  simp [World.cell?, hb] at h
theorem move_ways (t : T) (x : Deed) : Tre.move t x = if Pth.inn x.to x.name = true then (t, 11) else if room t x.to ≠ 0 then (t, room t x.to) else if (t.inside x.name).any (fun s => !Pth.right (mv x.name x.to s)) = true then (t, 5) else (moved t x.name x.to, 0) := rfl
theorem mv_len (a b s : Pth.Bs) : (mv a b s).length ≤ b.length + s.length := by unfold mv; simp
theorem inside_nodup {t : T} (ht : Std t) (a : Pth.Bs) : (t.inside a).Nodup := (names_nodup ht.nd).filter _
theorem take_new {L : List Pth.Bs} (h : L.Nodup) {k : Nat} (hk : k < L.length) : L[k] ∉ L.take k := by
  intro hm
  obtain ⟨j, hj, e⟩ := List.getElem_of_mem hm
  rw [List.length_take] at hj
  rw [List.getElem_take] at e
  have := (List.pairwise_iff_getElem.1 (List.nodup_iff_pairwise_ne.1 h)) j k (by omega) hk (by omega)
  exact this e

set_option maxRecDepth 100000 in
set_option maxHeartbeats 8000000 in
theorem move_tree {w : World} {g : Nat} {on of : Option Nat} {t : T} (h : TreeAt w g on of t) (ht : Std t) (hx : t.nx ≤ 100000) (hm : ML w) (x : Deed) (i0 : Nat) (hi : Tre.look t.ents x.name = some i0) (h1 : x.to.length ≤ 10000) :
    Calls Tryd.prog 33 #[.pointer (some ⟨g, 0, none⟩), dv x] w fun e w' => e = .returned (errV (Tre.move t x).2) ∧ Turned w g on of (Tre.move t x).1 w' := by
  have hg := h.blk.lt
  have hb0 : Below w.heap.size w (w.alloc (.cells (dvc x) 43)) := (Below.refl _ _).alloc (Nat.le_refl _) _
  obtain ⟨bn, bf, rfl, rfl⟩ := h.made hi
  have HT := Lib.hid h
  have HS := Lib.hid ht
  have HML := Lib.hid hm
  have hsh := (ht.short hi).1
  have hh : t.has x.name = true := has_iff.2 ⟨i0, look_mem hi⟩
  have HH := Lib.hid hh
  have IN := Lib.hid (fun w => in_same (bs x.to) (bs x.name) w (by rw [bs_size]; omega))
  have RM := Lib.hid (room_any (h.below hb0) ht (by omega) (hm.below hb0) (bs x.to) (by rw [bs_size]; omega))
  have IS := Lib.hid (fun w' (hb : Below w.heap.size w w') => inside_any (HT.out.below hb) ht (hm.below hb) (bs x.name) (by rw [bs_size]; omega) hh)
  have e := move_ways t x
  obtain ⟨C, hC⟩ : ∃ C, C = Tre.move t x := ⟨_, rfl⟩
  rw [← hC] at e ⊢
  have HC := Lib.hid e
  have MW := Lib.hid (fun (q1 : Pth.inn x.to x.name = false) (q2 : room t x.to = 0) (q3 : (t.inside x.name).any (fun s => !Pth.right (mv x.name x.to s)) = false) => moves_of ht x hh q1 q2 q3)
  rw [bs_list, bs_list] at IN
  rw [bs_list] at RM
  unfold dv dvc
  unfold dvc at RM hb0
  obtain ⟨what, name, dest, n, node⟩ := x
  obtain ⟨n0, n1, n2, n3, n4, n5, n6, n7, n8, n9⟩ := node
  simp only at *
  clear hC e h ht hm hi hh
  obtain ⟨q1, hq1⟩ : ∃ q1, q1 = Pth.inn dest name := ⟨_, rfl⟩
  rw [← hq1] at IN HC
  have HQ1 := Lib.hid hq1
  obtain ⟨c, hc⟩ : ∃ c, c = room t dest := ⟨_, rfl⟩
  rw [← hc] at RM HC
  have HQ2 := Lib.hid hc
  clear hq1 hc
  cases q1 with
  | true =>
    have hC := HC.out
    rw [if_pos rfl] at hC
    subst hC
    go_enter Tryd.func33, Tryd.ntmps33
    go_wp2_with fail
    refine (IN.out _).mono ?_
    rintro e w' ⟨rfl, hw⟩
    subst w'
    go_wp2_with fail
    go_ret
    exact ⟨rfl, Turned.still HT.out hb0⟩
  | false =>
    by_cases h0 : c = 0
    rotate_left
    · have hC := HC.out
      rw [if_neg (by simp), if_pos h0] at hC
      subst hC
      have e1 : errV c = .iface 67 (.int .i64 c) := if_neg h0
      rw [e1] at RM
      simp only [e1]
      clear e1
      go_enter Tryd.func33, Tryd.ntmps33
      go_wp2_with fail
      refine (IN.out _).mono ?_
      rintro e w' ⟨rfl, hw⟩
      subst w'
      go_wp2_with fail
      refine RM.out.mono ?_
      rintro e w1 ⟨rfl, k1⟩
      have B1 := Lib.hid (thenB ((Below.refl _ _).alloc (Nat.le_refl _) _) k1)
      clear k1
      go_wp2_with fail
      go_ret
      exact ⟨rfl, Turned.still HT.out B1.out⟩
    · subst h0
      have hC := HC.out
      rw [if_neg (by simp), if_neg (by simp)] at hC
      have e1 : errV 0 = .nilIface := rfl
      rw [e1] at RM
      have HC2 := Lib.hid hC
      clear e1 HC hC
      go_enter Tryd.func33, Tryd.ntmps33
      go_wp2_with fail
      refine (IN.out _).mono ?_
      rintro e w' ⟨rfl, hw⟩
      subst w'
      go_wp2_with fail
      refine RM.out.mono ?_
      rintro e w0 ⟨rfl, k1⟩
      have B0 := Lib.hid (thenB ((Below.refl _ _).alloc (Nat.le_refl _) _) k1)
      have bb := (Blk.new w 43 #[.int .i64 what, .string (bs name), .string (bs dest), .int .i64 n, .int .u8 n0, .int .i64 n1, .int .i64 n2, .int .i64 n3, .int .i64 n4, .int .i64 n5, .string (bs n6), .string (bs n7), .int .i64 n8, .int .i64 n9]).below k1 (by simp)
      have z1 : w0.cell? ⟨w.heap.size, 1, none⟩ = some (.string (bs name)) := bb.cell 1
      have BB0 := Lib.hid bb
      clear k1 bb RM IN
      go_wp2_with fail
      refine (IS.out _ B0.out).mono ?_
      rintro e w1 ⟨v, rfl, hv, k1⟩
      have B1 := Lib.hid (thenB B0.out k1)
      have BB := Lib.hid (BB0.out.below k1 BB0.out.lt)
      have hnd := inside_nodup HS.out name
      have hlen : (t.inside name).length ≤ 60 := by
        unfold T.inside
        have := List.length_filter_le (fun y => Pth.inn y name) t.names
        rw [names_len] at this
        have := HS.out.cn
        omega
      have hmem : ∀ s ∈ t.inside name, t.has s = true ∧ Pth.inn s name = true := fun s hs => inside_mem.1 hs
      have hmem0 : name ∈ t.inside name := inside_mem.2 ⟨HH.out, inn_self name⟩
      rw [bs_list] at hv
      have HALL := Lib.hid (fun (M : Moves t name dest) => halfF_all M)
      obtain ⟨L, hL⟩ : ∃ L, L = t.inside name := ⟨_, rfl⟩
      rw [← hL] at hv hnd hlen hmem hmem0 HC2 MW HALL
      rcases hv.ways with ⟨_, _, _, e0⟩ | ⟨rb, ro, cap, rfl, hcap, _, hrb, hpos, hrow⟩
      · rw [e0] at hmem0; cases hmem0
      have HRW := Lib.hid hrow
      have HND := Lib.hid hnd
      have HMEM := Lib.hid hmem
      clear k1 z1 BB0 B0 hv hnd hmem hmem0 hrow hL IS
      have hli : (L.length : Int) ≤ 60 := by omega
      have hcapi : (L.length : Int) ≤ cap := by omega
      have hHl : w.heap.size < w1.heap.size := BB.out.lt
      go_wp2_with fail
      go_loopg [33] L.length (fun gg s33 wr => ∃ k : Nat, s33 = .int .i64 k ∧ k + gg = L.length ∧ Hid (Below w1.heap.size w1 wr) ∧ Hid (∀ s ∈ L.take k, Pth.right (mv name dest s) = true))
      case atStart => exact ⟨0, rfl, by omega, Lib.hid (Below.refl _ _), Lib.hid (by simp)⟩
      case round =>
        obtain ⟨k, rfl, hkg, HB, HR⟩ := hrel
        have HKG := Lib.hid hkg
        clear hkg
        by_cases hk : k < L.length
        · have hki : (k : Int) < L.length := by omega
          have c0 := (HB.out.cell (p := ⟨rb, ro + k, none⟩) hrb).trans (HRW.out k hk)
          obtain ⟨s, hs⟩ : ∃ s, s = L[k] := ⟨_, rfl⟩
          rw [← hs] at c0
          obtain ⟨m1, m2⟩ := HMEM.out s (by rw [hs]; exact List.getElem_mem hk)
          obtain ⟨js, hjs⟩ := has_iff.1 m1
          have hsl := (HS.out.short (look_of HS.out.nd hjs)).1
          simp only at hsl
          have bbr := BB.out.below HB.out hHl
          have NN := Lib.hid (newname_any s (bbr.cell 1) (bbr.cell 2) (inn_len m2) (by omega) (by omega))
          have hml := mv_len name dest s
          have RT := Lib.hid (fun w' (hb : Below w1.heap.size w1 w') => right_any (bs (mv name dest s)) w' (by rw [bs_size]; omega) ((HML.out.below B1.out).below hb))
          have RT2 : Hid (∀ w', Below w1.heap.size w1 w' → Calls Tryd.prog 37 #[.string (bs (mv name dest s))] w' fun e w'' => e = .returned (.bool (Pth.right (mv name dest s))) ∧ Below w'.heap.size w' w'') := RT
          have hts : L.take (k + 1) = L.take k ++ [s] := by rw [hs]; exact List.take_succ_eq_append_getElem hk
          have HTS := Lib.hid hts
          have hmemL : s ∈ L := by rw [hs]; exact List.getElem_mem hk
          have HML2 := Lib.hid hmemL
          obtain ⟨r, hr⟩ : ∃ r, r = Pth.right (mv name dest s) := ⟨_, rfl⟩
          rw [← hr] at RT2
          have HRR := Lib.hid hr
          clear hs m1 m2 hjs hsl bbr RT hts hmemL hr hml
          go_wp2_with fail
          refine NN.out.mono ?_
          rintro e w2 ⟨rfl, q, hw⟩
          have B2 := Lib.hid (show Below w1.heap.size w1 w2 by rw [hw]; exact below_drewN HB.out q)
          clear hw
          go_wp2_with fail
          refine (RT2.out _ B2.out).mono ?_
          rintro e w3 ⟨rfl, k3⟩
          have B3 := Lib.hid (thenB B2.out k3)
          clear k3
          cases r
          · have hC := HC2.out
            rw [if_pos (List.any_eq_true.2 ⟨s, HML2.out, by rw [← HRR.out]; rfl⟩)] at hC
            subst hC
            go_wp2_with fail
            go_ret
            exact ⟨rfl, Turned.still HT.out (B1.out.trans (B3.out.mono B1.out.size))⟩
          · go_wp2_with fail
            go_roundg (L.length - (k + 1))
            case measure => have := HKG.out; omega
            case rel => exact ⟨k + 1, by go_num, by omega, B3, Lib.hid (fun y hy => by
              rw [HTS.out] at hy
              rcases List.mem_append.1 hy with hy | hy
              · exact HR.out y hy
              · rw [List.mem_singleton.1 hy]; exact HRR.out.symm)⟩
        · obtain rfl : k = L.length := by have := HKG.out; omega
          have hki : ¬ (L.length : Int) < L.length := by omega
          have hall := HR.out
          rw [List.take_length] at hall
          have hany : L.any (fun s => !Pth.right (mv name dest s)) = false := by
            rw [List.any_eq_false]
            intro s hs
            rw [hall s hs]; simp
          have hC := HC2.out
          rw [if_neg (by rw [hany]; simp)] at hC
          subst hC
          have M := MW.out HQ1.out.symm HQ2.out.symm hany
          have HM := Lib.hid M
          have MALL := Lib.hid (HALL.out M)
          clear hall hany M HR HKG MW HALL
          obtain ⟨w2, hw2⟩ : ∃ w2, w2 = wr := ⟨_, rfl⟩
          have HB2 : Below w1.heap.size w1 w2 := by rw [hw2]; exact HB.out
          have T2 : TreeAt w2 g (some bn) (some bf) t := HT.out.below (B1.out.trans (HB2.mono B1.out.size))
          have nm2 : MapF w2 Tryd.prog 9 bn (halfF t.ents name dest []) t.ents.length := by rw [halfF_nil HM.out]; exact T2.nm
          have bb2 := BB.out.below HB2 hHl
          have row2 := HRW.out.below HB2 hrb
          have hc20 := row2 0 hpos
          have hrn : rb ≠ bn := cell_map_ne hc20 T2.nm
          have hHn : w.heap.size ≠ bn := blk_map_ne bb2 nm2
          have hgn : g ≠ bn := blk_map_ne T2.blk nm2
          have TT2 := Lib.hid T2
          have BB2 := Lib.hid bb2
          have ROW2 := Lib.hid row2
          have NM2 := Lib.hid nm2
          have B2 := Lib.hid (B1.out.trans (HB2.mono B1.out.size))
          have hn0 : 1 ≤ t.ents.length := (by obtain ⟨j, hj⟩ := has_iff.1 HH.out; exact mem_pos hj)
          have hn60 := HS.out.cn
          rw [← hw2]
          clear T2 nm2 bb2 row2 hc20 HB2 hw2 HB B1 BB HRW hrb
          go_wp2_with fail
          go_loopg [46] L.length (fun gg s46 wr => ∃ k : Nat, s46 = .int .i64 k ∧ k + gg = L.length ∧ Hid (w2.grownBy wr (some bn)) ∧ Hid (MapF wr Tryd.prog 9 bn (halfF t.ents name dest (L.take k)) t.ents.length))
          case atStart => exact ⟨0, rfl, by omega, Lib.hid (only_refl _ _), NM2⟩
          case round =>
            obtain ⟨k, rfl, hkg, HG, HMM⟩ := hrel
            have HKG := Lib.hid hkg
            clear hkg
            by_cases hk : k < L.length
            · have hki2 : (k : Int) < L.length := by omega
              have rowr : RowS wr rb ro L := fun j hj => (World.cell?_of_block (a := ⟨rb, ro + j, none⟩) (HG.out.block rb (World.block_lt_of_cell? w2 ⟨rb, ro + j, none⟩ (ROW2.out j hj)) (by intro e; injection e with e; exact hrn e))).trans (ROW2.out j hj)
              have c0 := rowr k hk
              obtain ⟨s, hs⟩ : ∃ s, s = L[k] := ⟨_, rfl⟩
              rw [← hs] at c0
              obtain ⟨m1, m2⟩ := HMEM.out s (by rw [hs]; exact List.getElem_mem hk)
              obtain ⟨js, hjs⟩ := has_iff.1 m1
              have hlk := look_of HS.out.nd hjs
              simp only at hlk
              have hsl := (HS.out.short hlk).1
              have hnew : s ∉ L.take k := by rw [hs]; exact take_new HND.out hk
              have hold : halfF t.ents name dest (L.take k) (.string (bs s).data.toList) = some (.int .i64 js) := by
                rw [bs_list]; unfold halfF; show (half t.ents name dest (L.take k) s).map _ = _
                rw [half_old HM.out hlk hnew]; rfl
              have hmvn : halfF t.ents name dest (L.take k) (.string (mv name dest s)) = none := by
                unfold halfF; show (half t.ents name dest (L.take k) (mv name dest s)).map _ = _
                rw [half_new HM.out m2 hnew]; rfl
              have hsn := halfF_snoc HM.out hlk m2 hnew
              have hts : L.take (k + 1) = L.take k ++ [s] := by rw [hs]; exact List.take_succ_eq_append_getElem hk
              rw [← hts] at hsn
              have hml := mv_len name dest s
              have bbr := BB2.out.grown HG.out (by intro e; injection e with e; exact hHn e)
              have eg := TT2.out.blk.grown HG.out (by intro e; injection e with e; exact hgn e)
              have _q0 : wr.cell? ⟨g, 0, none⟩ = some (.map (some bn)) := eg.cell 0
              have hks := strK (bs s) (by rw [bs_size]; unfold maxLen; omega)
              have hkm := strK (bs (mv name dest s)) (by rw [bs_size]; unfold maxLen; omega)
              have HOLD := Lib.hid hold
              have HSN := Lib.hid hsn
              have HIN := Lib.hid (inn_len m2)
              have HGT := Lib.hid eg
              have HBR := Lib.hid bbr
              have HMV := Lib.hid hmvn
              have hds : dest.length ≤ 10000 := h1
              clear hs m1 m2 hjs hlk hnew hold hmvn hsn hts rowr eg bbr
              repeat' ((fail_if_success (with_reducible refine halt_at 17 ?_)); first | go_values | go_skip | go_guarded | go_step | go_upon | go_back | (simp only [Int.not_lt, Int.not_le] at *; go_simp) | (go_values <;> (try go_simp)) | (go_ite <;> go_prune <;> (try go_simp)) | (split <;> (first | (rename_i hx; exact (hx _ rfl).elim) | go_prune)))
              go_wp2_with (first
                | (refine wpList_f_look rfl (.tmp 53) (.tmp 54) 55 rfl 3 strL Tryd.underlying55 intZero HMM.out rfl (.string (bs s)) (.string (bs s).data.toList) rfl hks (some (.int .i64 js)) HOLD.out ?_)
                | (refine wpList_f_delete rfl (.tmp 59) (.tmp 60) 55 rfl 3 strL Tryd.underlying55 HMM.out rfl (.string (bs s)) (.string (bs s).data.toList) rfl hks ?_; intro w3 hm3 hg3 hs3))
              rw [HOLD.out] at hm3
              have G0 : w3.cell? ⟨g, 0, none⟩ = some (.map (some bn)) := (HGT.out.grown hg3 (by intro e; injection e with e; exact hgn e)).cell 0
              have b3 := HBR.out.grown hg3 (by intro e; injection e with e; exact hHn e)
              have NNW := Lib.hid (fun (W : World) (e : ∀ p, W.cell? p = w3.cell? p) => newname_any s ((e _).trans (b3.cell 1)) ((e _).trans (b3.cell 2)) HIN.out (by omega) (by omega))
              have hdel : delF (halfF t.ents name dest (L.take k)) (.string (bs s).data.toList) (.string (bs (mv name dest s)).data.toList) = none := by
                unfold delF; split
                · rfl
                · rw [bs_list]; exact HMV.out
              have STO := Lib.hid (fun (W : World) (e : W.heap = w3.heap) => (MapF.same_block hm3 (c := bn) (by rw [e])).store (w := W) strL Tryd.underlying55 (by unfold maxLen; simp; omega) hkm (.int .i64 (js : Int)))
              have G3 := Lib.hid (only_trans HG.out hg3)
              have HG3 := Lib.hid (HGT.out.grown hg3 (by intro e; injection e with e; exact hgn e))
              have HDEL := Lib.hid hdel
              clear _q0 hm3 hg3 hs3 hdel HOLD HMV HBR HGT b3 hks hkm
              go_region_held3 (fun w' => w'.cell? ⟨g, 0, none⟩ = some (.map (some bn))) (go_keep)
                ((go_at_call 55; (with_reducible refine (NNW.out w3.drew (fun _ => rfl)).mono ?_); rintro e wt ⟨rfl, q, hq⟩; obtain ⟨wA, hA, mA, gA, sA⟩ := STO.out wt (by rw [hq]; rfl); have Gt : wt.cell? ⟨g, 0, none⟩ = some (.map (some bn)) := (by rw [hq]; exact G0); have G4 := Lib.hid (show w2.grownBy wt (some bn) from by rw [hq]; exact only_drewN (only_drew G3.out) q); have GA0 : wA.cell? ⟨g, 0, none⟩ = some (.map (some bn)) := (Blk.grown (show Blk wt g 58 #[.map (some bn), .map (some bf), .int .i64 t.nx] from by rw [hq]; exact HG3.out) gA (by intro e; injection e with e; exact hgn e)).cell 0; have GA := Lib.hid gA; have MA := Lib.hid mA; clear hq gA mA sA))
              all_goals go_wp2_with fail
              all_goals go_roundg (L.length - (k + 1))
              case measure => have := HKG.out; omega
              case rel =>
                refine ⟨k + 1, by go_num, by omega, Lib.hid (only_trans G4.out GA.out), Lib.hid ?_⟩
                have h5 := MA.out
                rw [HDEL.out, bs_list, bs_list, HSN.out] at h5
                simp only [Option.isSome_some, if_true, Option.isSome_none, Bool.false_eq_true, if_false] at h5
                rw [show t.ents.length - 1 + 1 = t.ents.length by omega] at h5
                exact h5
            · obtain rfl : k = L.length := by have := HKG.out; omega
              have hki2 : ¬ (L.length : Int) < L.length := by omega
              have hmm := HMM.out
              rw [List.take_length, MALL.out] at hmm
              have hgn' := TT2.out
              obtain ⟨nf, hf, hnf⟩ := hgn'.fl
              have FIN : Turned w g (some bn) (some bf) (moved t name dest) wr := by
                refine ⟨some bn, some bf, ⟨hgn'.blk.grown HG.out (by intro e; injection e with e; exact hgn e), ?_, ⟨nf, MapF.kept hf HG.out (by intro e; exact hgn'.ne bn rfl e), hnf⟩, by simp, hgn'.ne⟩, fun b hb => .inl hb, (Kept.of_below B2.out).grown HG.out (.inl (by simp [own]))⟩
                show MapF wr Tryd.prog 9 bn (namesF (moved t name dest).ents) (moved t name dest).ents.length
                rw [show (moved t name dest).ents.length = t.ents.length from List.length_map _]
                exact hmm
              have FN := Lib.hid FIN
              clear FIN hmm hf hnf hgn'
              go_wp2_with fail
              go_ret
              exact ⟨rfl, FN.out⟩

end Go.Proofs.YtehooifcgfkngaaDoor
