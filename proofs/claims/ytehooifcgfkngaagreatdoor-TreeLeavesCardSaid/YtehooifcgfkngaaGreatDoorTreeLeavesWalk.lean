/-
  The walk of TreeLeaves.
-/
import Derived.Test.YtehooifcgfkngaaGreatDoorLeavesEnv
import Derived.Test.YtehooifcgfkngaaGreatDoorTreeR
import Derived.Test.YtehooifcgfkngaaGreatDoorPick
import Derived.Deep.RegionHeld3
import Derived.BigRegion
namespace Go.Proofs.YtehooifcgfkngaaGreatDoor
open Go.RowKit Go.Maps Tre Go.Shelf

def underB (a n : Pth.Bs) : Bool := !(n == a) && Pth.inn n a

theorem leavesC_any (n a : ByteArray) (p : Nat) (w : World) (hs : a.size ≤ 1000000) (hc : w.cell? ⟨p, 0, none⟩ = some (.string a)) :
    Calls Tryz.prog 11 #[.string n, .pointer (some ⟨p, 0, none⟩)] w fun e w' => e = .returned (.bool (underB a.data.toList n.data.toList)) ∧ w' = w := by
  have H := Lib.hid (fun w => in_same n a w hs)
  have e : (n.toList == a.toList) = (n.data.toList == a.data.toList) := by rw [Lib.toList_data, Lib.toList_data]
  unfold underB
  rw [← e]
  clear e
  obtain ⟨q, hq⟩ : ∃ q, q = (n.toList == a.toList) := ⟨_, rfl⟩
  have hq2 := hq.symm
  rw [← hq]
  clear hq
  cases q with
  | true =>
    have hq3 : (n.toList != a.toList) = false := by rw [bne, hq2]; rfl
    go_enter Tryz.func11, Tryz.ntmps11
    go_wp2_with fail
    go_ret
    exact ⟨rfl, rfl⟩
  | false =>
    have hq3 : (n.toList != a.toList) = true := by rw [bne, hq2]; rfl
    go_enter Tryz.func11, Tryz.ntmps11
    go_wp2_with fail
    refine (H.out _).mono ?_
    rintro e w' ⟨rfl, hw⟩
    subst w'
    go_wp2_with fail
    go_ret
    exact ⟨by simp, rfl⟩

theorem contains_under {w : World} {b off cap p : Nat} {L : List Pth.Bs} {a : Pth.Bs} (hr : RowS w b off L) (hl : L.length ≤ 60) (ha : a.length ≤ 1000000) (hc : w.cell? ⟨p, 0, none⟩ = some (.string (bs a))) :
    Calls Tryz.prog 10 #[.slice (some ⟨b, off, none⟩) L.length cap, .func (.func 11) #[] #[.pointer (some ⟨p, 0, none⟩)]] w fun e w' => e = .returned (.bool (L.any (underB a))) ∧ Below w.heap.size w w' := by
  have hh := Tryz.slices_ContainsFunc Value.string (fun x => underB a x.data.toList) 11 #[.pointer (some ⟨p, 0, none⟩)] (enters_of Tryz.func11 (by kernel_rfl) rfl) b off L.length cap (L.map bs) w
    (fun W x hb => (leavesC_any x (bs a) p W (by rw [bs_size]; omega) ((hb.cell (p := ⟨p, 0, none⟩) (World.block_lt_of_cell? w ⟨p, 0, none⟩ hc)).trans hc)).mono fun e w' ⟨he, hw⟩ => ⟨he, 0, hw⟩)
    (by simp) (by omega) (fun j hj => by
      have hj' : j < L.length := by simpa using hj
      rw [hr j hj', getElem!_pos (L.map bs) j hj]
      simp)
  refine hh.mono fun e w' ⟨he, q, hw⟩ => ⟨?_, hw ▸ below_drewN (Below.refl _ _) q⟩
  rw [he, List.take_of_length_le (by simp), List.any_map]
  rfl
theorem under_iff (L : List Pth.Bs) (a : Pth.Bs) : L.any (underB a) = true ↔ ∃ s ∈ L, s ≠ a ∧ Pth.inn s a = true := by
  rw [List.any_eq_true]
  unfold underB
  simp

set_option maxRecDepth 100000 in
set_option maxHeartbeats 8000000 in
theorem treeLeaves_main (v : Value) (l : List Deed) (which look : Int) (w : World) (hD : DeedsIn w v l) (hE : EnvL w) :
    Calls Tryz.prog 3 #[v, .int .i64 which, .int .i64 look] w fun e w' => e = .returned (.bool true) ∧ Below w.heap.size w w' := by
  have hm := hE.ml
  have GR := Lib.hid (grown_any w hm)
  have PL := Lib.hid (fun w' (hb : Below w.heap.size w w') => planted_any (hD.below hb) (hm.below hb))
  have HM := Lib.hid hm
  have TL := Lib.hid (fun c w' (hb : Below w.heap.size w w') => tell_errno c w' (hE.er.below hb))
  have hD2 := hD
  obtain ⟨X, cap, rfl, _⟩ := hD2
  clear hD hm hE
  go_enter Tryz.func3, Tryz.ntmps3
  go_wp2_with fail
  refine GR.out.mono ?_
  rintro e w1 ⟨rfl, h1⟩
  have B1 := Lib.hid h1
  clear h1
  go_wp2_with fail
  refine (PL.out _ B1.out).mono ?_
  rintro e w2 ⟨h2, ⟨hb, rfl⟩ | ⟨hb, g, on, of, rfl, hT, hO⟩⟩
  · have B2 := Lib.hid (thenB B1.out h2)
    clear h2
    go_wp2_with fail
    go_ret
    exact ⟨rfl, B2.out⟩
  have B2 := Lib.hid (thenB B1.out h2)
  have hl60 := bigL_len hb
  have hnx0 := plant_nx l
  have HS := Lib.hid (plant_std l)
  have HT := Lib.hid hT
  have HO := Lib.hid (fun b hb => Nat.le_trans B1.out.size (hO b hb))
  obtain ⟨t, ht⟩ : ∃ t, t = plant l := ⟨_, rfl⟩
  rw [← ht] at HT HS hnx0
  have hnx : t.nx ≤ 60 := by omega
  have NM := Lib.hid (names_any HT.out HS.out (HM.out.below B2.out))
  clear h2 hb hT hO ht GR PL hnx0
  go_wp2_with fail
  refine NM.out.mono ?_
  rintro e w3 ⟨v3, rfl, hv, h3⟩
  have B3 := Lib.hid (thenB B2.out h3)
  have T3 := Lib.hid (HT.out.below h3)
  have hs := hv.has
  clear hv h3 NM
  have hln : t.names.length ≤ 60 := by rw [names_len]; exact HS.out.cn
  rcases hs.ways with ⟨A, c3, rfl, h0⟩ | ⟨b, off, c3, rfl, hc3, hb2, hb3, hpos, hrow⟩
  · go_wp2_with fail
    go_ret
    exact ⟨rfl, B3.out⟩
  have HR := Lib.hid hrow
  have HNAME := Lib.hid (fun (s : Pth.Bs) (h : s ∈ t.names) => HS.out.name h)
  have HTELL := Lib.hid (fun (s : Pth.Bs) (h : s ∈ t.names) => remove_tells HS.out (names_mem.1 h) (x := ⟨3, s, [], 0, zero⟩) ⟨rfl, rfl⟩)
  obtain ⟨L, hL⟩ : ∃ L, L = t.names := ⟨_, rfl⟩
  rw [← hL] at HR HNAME HTELL hln hpos hc3 ⊢
  have p1 := pickN_lo which L.length (by omega)
  have p2 := pickN_hi which L.length (by omega)
  have PK := Lib.hid (fun w => pick_any which L.length w (by omega) (by omega))
  obtain ⟨k0, hk0⟩ : ∃ k0, k0 = pickN which L.length := ⟨_, rfl⟩
  rw [← hk0] at p1 p2 PK
  obtain ⟨k, rfl⟩ := Int.eq_ofNat_of_zero_le p1
  have q1 := pickN_lo look L.length (by omega)
  have q2 := pickN_hi look L.length (by omega)
  have PQ := Lib.hid (fun w => pick_any look L.length w (by omega) (by omega))
  obtain ⟨m0, hm0⟩ : ∃ m0, m0 = pickN look L.length := ⟨_, rfl⟩
  rw [← hm0] at q1 q2 PQ
  obtain ⟨m, rfl⟩ := Int.eq_ofNat_of_zero_le q1
  have hkl : k < L.length := by omega
  have hml : m < L.length := by omega
  have hne : ((L.length : Int) == 0) = false := beq_eq_false_iff_ne.2 (by omega)
  have c0 := HR.out k hkl
  have c1 := HR.out m hml
  have hmemk : L[k] ∈ L := List.getElem_mem hkl
  have hmemm : L[m] ∈ L := List.getElem_mem hml
  obtain ⟨a, ha⟩ : ∃ a, a = L[k] := ⟨_, rfl⟩
  obtain ⟨c, hc⟩ : ∃ c, c = L[m] := ⟨_, rfl⟩
  rw [← ha] at c0 hmemk
  rw [← hc] at c1 hmemm
  obtain ⟨ka, hka, har, _, _⟩ := HNAME.out a hmemk
  obtain ⟨kc, hkc, hcr, _, _⟩ := HNAME.out c hmemm
  have hal := (right_len har).1
  have hcl := (right_len hcr).1
  have hll : (L.length : Int) ≤ 60 := by omega
  have HKC := Lib.hid hkc
  have HMC := Lib.hid hmemm
  have RT := Lib.hid (HTELL.out a hmemk)
  have hnn : ∀ s k, Tre.look t.ents s = some k → k ≤ 1000000 := fun s k h => by have := (HS.out.short h).2; omega
  have GB := Lib.hid (fun w' (hb : Below w3.heap.size w3 w') => get_any (T3.out.below hb) (bs c) (fun k hk => hnn _ k hk) (by rw [bs_size]; omega))
  have hgv : getV t (bs c).data.toList = .tuple #[ndv (t.file kc), .nilIface] := getV_of HKC.out
  rw [hgv] at GB
  obtain ⟨n, hn⟩ : ∃ n, n = t.file kc := ⟨_, rfl⟩
  rw [← hn] at GB
  have HN := Lib.hid hn
  obtain ⟨m0, m1, m2, m3, m4, m5, m6, m7, m8, m9⟩ := n
  unfold ndv ndc at GB
  simp only at GB
  have DO := Lib.hid (fun w' (hb : Below w3.heap.size w3 w') => do_tree (T3.out.below hb) HS.out (by omega) ((HM.out.below B3.out).below hb) ⟨3, a, [], 0, zero⟩ (Nat.zero_le _) (by simp only; omega) (Nat.zero_le _) (Nat.zero_le _) (Nat.zero_le _))
  obtain ⟨C, hC⟩ : ∃ C, C = act t ⟨3, a, [], 0, zero⟩ := ⟨_, rfl⟩
  rw [← hC] at DO RT
  have HC := Lib.hid hC
  unfold dv dvc zero at DO
  simp only at DO
  clear hs hL hk0 hm0 ha hc hmemk hmemm hka hkc har hcr hrow HNAME HTELL hC hn hgv hnn
  repeat' ((fail_if_success (with_reducible refine halt_at 9 ?_)); first | go_values | go_skip | go_guarded | go_step | go_upon | go_back | (simp only [Int.not_lt, Int.not_le] at *; go_simp) | (go_values <;> (try go_simp)) | (go_ite <;> go_prune <;> (try go_simp)) | (split <;> (first | (rename_i hx; exact (hx _ rfl).elim) | go_prune)))
  go_cut [9, 10] (fun s9 s10 wx => ∃ p, s9 = .pointer (some ⟨p, 0, none⟩) ∧ s10 = .string (bs c) ∧ Blk wx p 9 #[.string (bs a)] ∧ w3.heap.size ≤ p ∧ Below w3.heap.size w3 wx)
  case first =>
    go_region_held3 (fun w' => w'.cell? ⟨b, off + k, none⟩ = some (.string (bs a)) ∧ w'.cell? ⟨b, off + m, none⟩ = some (.string (bs c))) (go_keep)
      (first
        | (go_at_call 7; (with_reducible refine (PK.out _).mono ?_); rintro e w' ⟨rfl, hw⟩; subst w')
        | (go_at_call 7; (with_reducible refine (PQ.out _).mono ?_); rintro e w' ⟨rfl, hw⟩; subst w')
        | fail)
    all_goals go_wp2_with fail
    all_goals go_meet
    all_goals exact ⟨_, rfl, rfl, (Blk.new w3 9 _).drew, Nat.le_refl _, ((Below.refl _ _).alloc (Nat.le_refl _) _).drew⟩
  case rest =>
    obtain ⟨p, rfl, rfl, hp, hp3, hbx⟩ := hcut
    have BX := Lib.hid hbx
    clear c0 c1 PK PQ hbx
    have HP := Lib.hid hp
    clear hp
    go_wp2_with fail
    refine (GB.out _ BX.out).mono ?_
    rintro e w4 ⟨rfl, h4⟩
    have B4 := Lib.hid (thenB BX.out h4)
    have HP4 := Lib.hid (HP.out.below h4 HP.out.lt)
    clear h4
    have d4 := (HP4.out.alloc (.cells #[.int .u8 m0, .int .i64 m1, .int .i64 m2, .int .i64 m3, .int .i64 m4, .int .i64 m5, .string (bs m6), .string (bs m7), .int .i64 m8, .int .i64 m9] 32)).cell 0
    simp only [List.getElem?_toArray, List.getElem?_cons_zero] at d4
    go_wp2_with fail
    refine (DO.out _ (B4.out.alloc B4.out.size _)).mono ?_
    rintro e w6 ⟨rfl, on', of', k1, k2, k3⟩
    have HO3 := Lib.hid (fun b hb => (T3.out.lt b hb : b < w3.heap.size))
    have HO2 := Lib.hid (fun b hb => (HT.out.lt b hb : b < w2.heap.size))
    have bb6 := Kept.blk (Blk.new w4 32 #[.int .u8 m0, .int .i64 m1, .int .i64 m2, .int .i64 m3, .int .i64 m4, .int .i64 m5, .string (bs m6), .string (bs m7), .int .i64 m8, .int .i64 m9]) k3 (fun hm => by have := HO3.out _ hm; have := B4.out.size; omega)
    have hp6 := Kept.blk (HP4.out.alloc _) k3 (fun hm => by have := HO3.out _ hm; omega)
    have hr6 := Kept.row ((HR.out.below B4.out hb3).below ((Below.refl _ _).alloc (Nat.le_refl _) _) (by have := B4.out.size; omega)) k3 (Nat.lt_of_lt_of_le hb3 (B4.out.alloc B4.out.size _).size) (fun hm => by have := HO2.out _ hm; omega)
    have hOw : ∀ b ∈ own g on of, w.heap.size ≤ b := HO.out
    have B5 := B3.out.trans ((B4.out.alloc B4.out.size (.cells #[.int .u8 m0, .int .i64 m1, .int .i64 m2, .int .i64 m3, .int .i64 m4, .int .i64 m5, .string (bs m6), .string (bs m7), .int .i64 m8, .int .i64 m9] 32)).mono B3.out.size)
    have B6 := Lib.hid (B5.trans (k3.down hOw B5.size))
    have K6 := Lib.hid k1
    have BB6 := Lib.hid bb6
    have HP6 := Lib.hid hp6
    have CU := Lib.hid (contains_under (cap := c3) hr6 hln (by omega) (hp6.cell 0))
    clear k1 k2 k3 bb6 hOw B5 hp6 hr6
    rcases RT.out with ⟨hu, hC2, hC1⟩ | ⟨hu, hC2, hgn, hgb⟩
    · have hu := (under_iff L a).2 hu
      rw [hu] at CU
      have K6' := K6
      rw [hC1] at K6'
      have e1 : errV C.2 = .iface 43 (.int .i64 6) := by rw [hC2]; rfl
      rw [e1]
      clear K6 RT e1 hC1 hC2 hu
      have G2 := Lib.hid (fun w' (hb : Below w6.heap.size w6 w') => get_any (K6'.out.below hb) (bs c) (fun k hk => by
        have := (HS.out.short hk).2; omega) (by rw [bs_size]; omega))
      have hgv : getV t (bs c).data.toList = .tuple #[ndv (t.file kc), .nilIface] := getV_of HKC.out
      rw [hgv, ← HN.out] at G2
      unfold ndv ndc at G2
      have EQ := Lib.hid (fun w => node_same ⟨m0, m1, m2, m3, m4, m5, m6, m7, m8, m9⟩ w)
      unfold ndv ndc at EQ
      simp only at G2 EQ
      have hEQ := EQ.out
      clear hgv
      go_wp2_with fail
      refine CU.out.mono ?_
      rintro e w7 ⟨rfl, h7⟩
      have B7 := Lib.hid (thenB B6.out h7)
      have C7 := Lib.hid h7
      clear h7
      go_wp2_with fail
      refine (TL.out 6 _ B7.out).mono ?_
      rintro e w8 ⟨rfl, h8⟩
      have B8 := Lib.hid (thenB B7.out h8)
      have C8 := Lib.hid (thenB C7.out h8)
      clear h8
      go_wp2_with fail
      refine (G2.out _ C8.out).mono ?_
      rintro e w9 ⟨rfl, h9⟩
      have B9 := Lib.hid (thenB B8.out h9)
      have C9 := thenB C8.out h9
      have bb7 := BB6.out.below C9 BB6.out.lt
      have hlp := (HP6.out.below C9 HP6.out.lt).lt
      have hp9 : w9.cell? ⟨p, 0, none⟩ = some (.string (bs a)) := (HP6.out.below C9 HP6.out.lt).cell 0
      have hl7 := bb7.lt
      have _d0 : w9.cell? ⟨w4.heap.size, 0, none⟩ = some (.int .u8 m0) := bb7.cell 0
      have _d1 : w9.cell? ⟨w4.heap.size, 1, none⟩ = some (.int .i64 m1) := bb7.cell 1
      have _d2 : w9.cell? ⟨w4.heap.size, 2, none⟩ = some (.int .i64 m2) := bb7.cell 2
      have _d3 : w9.cell? ⟨w4.heap.size, 3, none⟩ = some (.int .i64 m3) := bb7.cell 3
      have _d4 : w9.cell? ⟨w4.heap.size, 4, none⟩ = some (.int .i64 m4) := bb7.cell 4
      have _d5 : w9.cell? ⟨w4.heap.size, 5, none⟩ = some (.int .i64 m5) := bb7.cell 5
      have _d6 : w9.cell? ⟨w4.heap.size, 6, none⟩ = some (.string (bs m6)) := bb7.cell 6
      have _d7 : w9.cell? ⟨w4.heap.size, 7, none⟩ = some (.string (bs m7)) := bb7.cell 7
      have _d8 : w9.cell? ⟨w4.heap.size, 8, none⟩ = some (.int .i64 m8) := bb7.cell 8
      have _d9 : w9.cell? ⟨w4.heap.size, 9, none⟩ = some (.int .i64 m9) := bb7.cell 9
      clear h9 bb7 C9
      by_cases hac : a = c
      · subst hac
        go_wp2_with fail
        go_ret
        exact ⟨rfl, B9.out.alloc B9.out.size _⟩
      · go_wp2_with fail
        all_goals go_ret
        all_goals exact ⟨rfl, B9.out.alloc B9.out.size _⟩
    · have hu : L.any (underB a) = false := by
        cases h : L.any (underB a) with
        | false => rfl
        | true => exact (hu ((under_iff L a).1 h)).elim
      rw [hu] at CU
      have e1 : errV C.2 = .nilIface := by rw [hC2]; rfl
      rw [e1]
      have HGN := Lib.hid hgn
      have HGB := Lib.hid (hgb c HMC.out)
      clear RT e1 hC2 hu hgn hgb
      by_cases hac : a = c
      · subst hac
        have hlk : Tre.look C.1.ents a = none := by
          cases h : Tre.look C.1.ents a with
          | none => rfl
          | some q => have := get_of h; rw [HGN.out] at this; cases this
        have G2 := Lib.hid (fun w' (hb : Below w6.heap.size w6 w') => get_any (K6.out.below hb) (bs a) (fun k hk => by
          have e : Tre.look C.1.ents a = some k := hk
          rw [hlk] at e; cases e) (by rw [bs_size]; omega))
        have hgv : getV C.1 (bs a).data.toList = .tuple #[ndv zero, .iface 43 (.int .i64 7)] := getV_none hlk
        rw [hgv] at G2
        unfold ndv ndc zero at G2
        simp only at G2
        clear hgv hlk HGB HGN
        go_wp2_with fail
        refine CU.out.mono ?_
        rintro e w7 ⟨rfl, h7⟩
        have B7 := Lib.hid (thenB B6.out h7)
        have C7 := Lib.hid h7
        clear h7
        go_wp2_with fail
        refine (G2.out _ C7.out).mono ?_
        rintro e w9 ⟨rfl, h9⟩
        have B9 := Lib.hid (thenB B7.out h9)
        have C9 := thenB C7.out h9
        have hlp := (HP6.out.below C9 HP6.out.lt).lt
        have hp9 : w9.cell? ⟨p, 0, none⟩ = some (.string (bs a)) := (HP6.out.below C9 HP6.out.lt).cell 0
        clear h9 C9
        go_wp2_with fail
        refine (TL.out 7 _ (B9.out.alloc B9.out.size _)).mono ?_
        rintro e w10 ⟨rfl, h10⟩
        have B10 := thenB (B9.out.alloc B9.out.size _) h10
        clear h10
        go_wp2_with fail
        go_ret
        exact ⟨rfl, B10⟩
      · have hgg := HGB.out (fun e => hac e.symm)
        rw [get_of HKC.out, ← HN.out] at hgg
        obtain ⟨q, hlk⟩ : ∃ q, Tre.look C.1.ents c = some q := by
          cases h : Tre.look C.1.ents c with
          | none => exfalso; unfold T.get at hgg; rw [h] at hgg; cases hgg
          | some q => exact ⟨q, rfl⟩
        have hfl : C.1.file q = ⟨m0, m1, m2, m3, m4, m5, m6, m7, m8, m9⟩ := by
          rw [get_of hlk] at hgg; exact Option.some.inj hgg
        have hSC : Std C.1 := by rw [HC.out]; exact HS.out.act _
        have hnxC : C.1.nx ≤ t.nx + 1 := by rw [HC.out]; exact (act_nx t _).1
        have G2 := Lib.hid (fun w' (hb : Below w6.heap.size w6 w') => get_any (K6.out.below hb) (bs c) (fun k hk => by
          have := (hSC.short hk).2; omega) (by rw [bs_size]; omega))
        have hgv : getV C.1 (bs c).data.toList = .tuple #[ndv (C.1.file q), .nilIface] := getV_of hlk
        rw [hgv, hfl] at G2
        unfold ndv ndc at G2
        have EQ := Lib.hid (fun w => node_same ⟨m0, m1, m2, m3, m4, m5, m6, m7, m8, m9⟩ w)
        unfold ndv ndc at EQ
        simp only at G2 EQ
        have hEQ := EQ.out
        clear hgv hlk hfl hgg hSC hnxC HGN HGB
        go_wp2_with fail
        refine CU.out.mono ?_
        rintro e w7 ⟨rfl, h7⟩
        have B7 := Lib.hid (thenB B6.out h7)
        have C7 := Lib.hid h7
        clear h7
        go_wp2_with fail
        refine (G2.out _ C7.out).mono ?_
        rintro e w9 ⟨rfl, h9⟩
        have B9 := Lib.hid (thenB B7.out h9)
        have C9 := thenB C7.out h9
        have bb7 := BB6.out.below C9 BB6.out.lt
        have hlp := (HP6.out.below C9 HP6.out.lt).lt
        have hp9 : w9.cell? ⟨p, 0, none⟩ = some (.string (bs a)) := (HP6.out.below C9 HP6.out.lt).cell 0
        have hl7 := bb7.lt
        have _d0 : w9.cell? ⟨w4.heap.size, 0, none⟩ = some (.int .u8 m0) := bb7.cell 0
        have _d1 : w9.cell? ⟨w4.heap.size, 1, none⟩ = some (.int .i64 m1) := bb7.cell 1
        have _d2 : w9.cell? ⟨w4.heap.size, 2, none⟩ = some (.int .i64 m2) := bb7.cell 2
        have _d3 : w9.cell? ⟨w4.heap.size, 3, none⟩ = some (.int .i64 m3) := bb7.cell 3
        have _d4 : w9.cell? ⟨w4.heap.size, 4, none⟩ = some (.int .i64 m4) := bb7.cell 4
        have _d5 : w9.cell? ⟨w4.heap.size, 5, none⟩ = some (.int .i64 m5) := bb7.cell 5
        have _d6 : w9.cell? ⟨w4.heap.size, 6, none⟩ = some (.string (bs m6)) := bb7.cell 6
        have _d7 : w9.cell? ⟨w4.heap.size, 7, none⟩ = some (.string (bs m7)) := bb7.cell 7
        have _d8 : w9.cell? ⟨w4.heap.size, 8, none⟩ = some (.int .i64 m8) := bb7.cell 8
        have _d9 : w9.cell? ⟨w4.heap.size, 9, none⟩ = some (.int .i64 m9) := bb7.cell 9
        clear h9 bb7 C9
        have hbe : ((bs a).toList == (bs c).toList) = false := by
          rw [Lib.toList_data, Lib.toList_data, bs_list, bs_list]
          exact beq_eq_false_iff_ne.2 hac
        go_wp2_with fail
        all_goals go_ret
        all_goals exact ⟨rfl, B9.out.alloc B9.out.size _⟩

set_option maxRecDepth 100000 in
theorem treeLeaves_walk {H : Type} {enc : TypeId × Value → H} {w : World} {d : DataW H} {ps : List MemPlace} {base : Nat} (v : Value) (hok : Value.okWide Tryz.prog w .any base 22 v)
    (h : DataW.Trod enc Tryz.prog w 0 (fun _ => true) true 22 v d ps) (hz : ∀ n ∈ d.weights Tryz.prog 22, n ≤ reachBytes) (which : Int) (_hw : (Lit.int .i64 which).wf = true) (look : Int) (_hl : (Lit.int .i64 look).wf = true) (hE : EnvL w) :
    Calls Tryz.prog 3 #[v, .int .i64 which, .int .i64 look] w fun e w' => e = .returned (.bool true) ∧ Below w.heap.size w w' := by
  obtain ⟨l, hl⟩ := deeds_of hok h hz
  exact treeLeaves_main v l which look w hl hE

end Go.Proofs.YtehooifcgfkngaaGreatDoor
