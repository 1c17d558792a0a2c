/-
  The walk of TreeOne.
-/
import Derived.Test.YtehooifcgfkngaaDoorTreeR
import Derived.Test.YtehooifcgfkngaaDoorPick
namespace Go.Proofs.YtehooifcgfkngaaDoor
open Go.RowKit Go.Maps Tre

set_option maxRecDepth 100000 in
set_option maxHeartbeats 8000000 in
theorem treeOne_main (v : Value) (l : List Deed) (which look : Int) (dl : Pth.Bs) (w : World) (hD : DeedsIn w v l) (hm : ML w) :
    Calls Tryd.prog 5 #[v, .int .i64 which, .int .i64 look, .string (bs dl)] w fun e w' => e = .returned (.bool true) ∧ Below w.heap.size w w' := by
  have GR := Lib.hid (grown_any w hm)
  have PL := Lib.hid (fun w' (hb : Below w.heap.size w w') => planted_any (hD.below hb) (hm.below hb))
  have HM := Lib.hid hm
  have hD2 := hD
  obtain ⟨X, cap, rfl, _⟩ := hD2
  clear hD hm
  go_enter Tryd.func5, Tryd.ntmps5
  go_wp2_with fail
  refine GR.out.mono ?_
  rintro e w1 ⟨rfl, h1⟩
  have B1 := Lib.hid h1
  clear h1
  go_wp2_with fail
  refine (PL.out _ B1.out).mono ?_
  rintro e w2 ⟨h2, ⟨hb, rfl⟩ | ⟨hb, g, on, of, rfl, hT, hO⟩⟩
  · have B2 := Lib.hid (thenB B1.out h2)
    clear h2
    go_wp2_with fail
    go_ret
    exact ⟨rfl, B2.out⟩
  have B2 := Lib.hid (thenB B1.out h2)
  have hl60 := bigL_len hb
  have hnx0 := plant_nx l
  have HS := Lib.hid (plant_std l)
  have HT := Lib.hid hT
  have HO := Lib.hid (fun b hb => Nat.le_trans B1.out.size (hO b hb))
  obtain ⟨t, ht⟩ : ∃ t, t = plant l := ⟨_, rfl⟩
  rw [← ht] at HT HS hnx0
  have hnx : t.nx ≤ 60 := by omega
  have NM := Lib.hid (names_any HT.out HS.out (HM.out.below B2.out))
  clear h2 hb hT hO ht GR PL hnx0
  by_cases hd : 600 < (bs dl).size
  · have hdi : (600 : Int) < (bs dl).size := by omega
    go_wp2_with fail
    go_ret
    exact ⟨rfl, B2.out⟩
  have hdi : ¬ (600 : Int) < (bs dl).size := by omega
  go_wp2_with fail
  refine NM.out.mono ?_
  rintro e w3 ⟨v3, rfl, hv, h3⟩
  have B3 := Lib.hid (thenB B2.out h3)
  have T3 := Lib.hid (HT.out.below h3)
  have hs := hv.has
  clear hv h3 NM
  have hln : t.names.length ≤ 60 := by rw [names_len]; exact HS.out.cn
  rcases hs.ways with ⟨A, c3, rfl, h0⟩ | ⟨b, off, c3, rfl, hc3, _, hb, hpos, hrow⟩
  · go_wp2_with fail
    go_ret
    exact ⟨rfl, B3.out⟩
  have HR := Lib.hid hrow
  have HNAME := Lib.hid (fun (s : Pth.Bs) (h : s ∈ t.names) => HS.out.name h)
  obtain ⟨L, hL⟩ : ∃ L, L = t.names := ⟨_, rfl⟩
  rw [← hL] at HR HNAME hln hpos hc3 ⊢
  have p1 := pickN_lo which L.length (by omega)
  have p2 := pickN_hi which L.length (by omega)
  have PK := Lib.hid (fun w => pick_any which L.length w (by omega) (by omega))
  obtain ⟨k0, hk0⟩ : ∃ k0, k0 = pickN which L.length := ⟨_, rfl⟩
  rw [← hk0] at p1 p2 PK
  obtain ⟨k, rfl⟩ := Int.eq_ofNat_of_zero_le p1
  have q1 := pickN_lo look L.length (by omega)
  have q2 := pickN_hi look L.length (by omega)
  have PQ := Lib.hid (fun w => pick_any look L.length w (by omega) (by omega))
  obtain ⟨m0, hm0⟩ : ∃ m0, m0 = pickN look L.length := ⟨_, rfl⟩
  rw [← hm0] at q1 q2 PQ
  obtain ⟨m, rfl⟩ := Int.eq_ofNat_of_zero_le q1
  have hkl : k < L.length := by omega
  have hml : m < L.length := by omega
  have hne : ((L.length : Int) == 0) = false := beq_eq_false_iff_ne.2 (by omega)
  have c0 := HR.out k hkl
  have c1 := HR.out m hml
  have hmemk : L[k] ∈ L := List.getElem_mem hkl
  have hmemm : L[m] ∈ L := List.getElem_mem hml
  obtain ⟨a, ha⟩ : ∃ a, a = L[k] := ⟨_, rfl⟩
  obtain ⟨c, hc⟩ : ∃ c, c = L[m] := ⟨_, rfl⟩
  rw [← ha] at c0 hmemk
  rw [← hc] at c1 hmemm
  obtain ⟨ka, hka, har, _, _⟩ := HNAME.out a hmemk
  obtain ⟨kc, hkc, hcr, _, _⟩ := HNAME.out c hmemm
  have hal := (right_len har).1
  have hcl := (right_len hcr).1
  have hll : (L.length : Int) ≤ 60 := by omega
  have HKA := Lib.hid hka
  have HKC := Lib.hid hkc
  clear hs hL hk0 hm0 ha hc hmemk hmemm hka hkc har hcr hrow HNAME HR
  have hnn : ∀ s k, Tre.look t.ents s = some k → k ≤ 1000000 := fun s k h => by have := (HS.out.short h).2; omega
  have GB := Lib.hid (fun w' (hb : Below w3.heap.size w3 w') => get_any (T3.out.below hb) (bs c) (fun k hk => hnn _ k hk) (by rw [bs_size]; omega))
  have hgv : getV t (bs c).data.toList = .tuple #[ndv (t.file kc), .nilIface] := getV_of HKC.out
  rw [hgv] at GB
  obtain ⟨n, hn⟩ : ∃ n, n = t.file kc := ⟨_, rfl⟩
  rw [← hn] at GB
  have HN := Lib.hid hn
  obtain ⟨m0, m1, m2, m3, m4, m5, m6, m7, m8, m9⟩ := n
  unfold ndv ndc at GB
  simp only at GB
  have DO := Lib.hid (fun w' (hb : Below w3.heap.size w3 w') => do_tree (T3.out.below hb) HS.out (by omega) ((HM.out.below B3.out).below hb) ⟨5, a, dl, 0, zero⟩ (Nat.zero_le _) (by simp only; omega) (by have : (bs dl).size = dl.length := rfl; simp only; omega) (Nat.zero_le _) (Nat.zero_le _))
  obtain ⟨C, hC⟩ : ∃ C, C = act t ⟨5, a, dl, 0, zero⟩ := ⟨_, rfl⟩
  rw [← hC] at DO
  have HC := Lib.hid hC
  unfold dv dvc zero at DO
  simp only at DO
  clear hC hn hgv hnn
  go_wp2_with fail
  go_quiet ((first | (go_at_call 13; exact Calls.quiet_of_same (PK.out _)) | (go_at_call 13; exact Calls.quiet_of_same (PQ.out _))))
  go_wp2_with fail
  refine (GB.out _ (below_drewN (Below.refl _ _) _)).mono ?_
  rintro e w4 ⟨rfl, h4⟩
  have B4 := Lib.hid (thenB (below_drewN (Below.refl w3.heap.size w3) _) h4)
  clear h4 c0 c1
  go_wp2_with fail
  refine (DO.out _ (B4.out.alloc B4.out.size _)).mono ?_
  rintro e w6 ⟨rfl, on', of', k1, k2, k3⟩
  have HO3 := Lib.hid (fun b hb => (T3.out.lt b hb : b < w3.heap.size))
  have bb6 := Kept.blk (Blk.new w4 35 #[.int .u8 m0, .int .i64 m1, .int .i64 m2, .int .i64 m3, .int .i64 m4, .int .i64 m5, .string (bs m6), .string (bs m7), .int .i64 m8, .int .i64 m9]) k3 (fun hm => by have := HO3.out _ hm; have := B4.out.size; omega)
  have hOw : ∀ b ∈ own g on of, w.heap.size ≤ b := HO.out
  have B5 := B3.out.trans ((B4.out.alloc B4.out.size (.cells #[.int .u8 m0, .int .i64 m1, .int .i64 m2, .int .i64 m3, .int .i64 m4, .int .i64 m5, .string (bs m6), .string (bs m7), .int .i64 m8, .int .i64 m9] 35)).mono B3.out.size)
  have B6 := Lib.hid (B5.trans (k3.down hOw B5.size))
  have K6 := Lib.hid k1
  have BB6 := Lib.hid bb6
  clear k1 k2 k3 bb6 hOw B5
  by_cases h0 : C.2 = 0
  rotate_left
  · have e1 : errV C.2 = .iface 67 (.int .i64 C.2) := if_neg h0
    rw [e1]
    go_wp2_with fail
    go_ret
    exact ⟨rfl, B6.out⟩
  · have e1 : errV C.2 = .nilIface := by rw [h0]; rfl
    rw [e1]
    clear e1
    have hch : C = change t ⟨5, a, dl, 0, zero⟩ ka := by rw [HC.out]; exact act_change HKA.out ⟨(Int.le_refl 5 : (5 : Int) ≤ 5), ((by decide) : (5 : Int) ≤ 8)⟩ rfl
    have hcg := change_get HKA.out (x := ⟨5, a, dl, 0, zero⟩) (by rw [← hch]; exact h0) c
    rw [← hch] at hcg
    obtain ⟨hcg, hen⟩ := hcg
    have hlk : Tre.look C.1.ents c = some kc := by rw [hen]; exact HKC.out
    have hg2 := get_of hlk
    rw [hg2, get_of HKC.out, ← HN.out] at hcg
    have G2 := Lib.hid (get_any K6.out (bs c) (fun k hk => by
      have e : Tre.look C.1.ents c = some k := hk
      rw [hlk] at e
      have := (HS.out.short HKC.out).2
      cases e; omega) (by rw [bs_size]; omega))
    have hgv : getV C.1 (bs c).data.toList = .tuple #[ndv (C.1.file kc), .nilIface] := getV_of hlk
    rw [hgv] at G2
    have hali := alike_ents hen a c
    cases hq : t.alike a c with
    | true =>
      rw [hq, if_pos rfl] at hcg
      rw [hq] at hali
      have HAL := Lib.hid hali
      have hka : ka = kc := by
        have := alike_of HKA.out HKC.out
        rw [hq] at this; simpa using this.symm
      have hfl : C.1.file kc = ⟨m0, m1, m2, m3, m4, m5, dl, m7, m8, m9⟩ := by
        have := Option.some.inj hcg
        rw [this, hka, ← HN.out]; rfl
      rw [hfl] at G2
      clear hali hq hch hen hlk hg2 hgv hka
      clear hcg hfl
      unfold ndv ndc at G2
      have EQ := Lib.hid (fun w => node_same ⟨m0, m1, m2, m3, m4, m5, dl, m7, m8, m9⟩ w)
      unfold ndv ndc at EQ
      simp only at G2 EQ
      have hEQ := EQ.out
      go_wp2_with fail
      refine G2.out.mono ?_
      rintro e w7 ⟨rfl, k7⟩
      have T7 := Lib.hid (K6.out.below k7)
      have bb7 := BB6.out.below k7 BB6.out.lt
      have B7 := Lib.hid (thenB B6.out k7)
      have f6 := bb7.frozen 6
      have hl7 := bb7.lt
      have _d0 : w7.cell? ⟨w4.heap.size, 0, none⟩ = some (.int .u8 m0) := bb7.cell 0
      have _d1 : w7.cell? ⟨w4.heap.size, 1, none⟩ = some (.int .i64 m1) := bb7.cell 1
      have _d2 : w7.cell? ⟨w4.heap.size, 2, none⟩ = some (.int .i64 m2) := bb7.cell 2
      have _d3 : w7.cell? ⟨w4.heap.size, 3, none⟩ = some (.int .i64 m3) := bb7.cell 3
      have _d4 : w7.cell? ⟨w4.heap.size, 4, none⟩ = some (.int .i64 m4) := bb7.cell 4
      have _d5 : w7.cell? ⟨w4.heap.size, 5, none⟩ = some (.int .i64 m5) := bb7.cell 5
      have _d6 : w7.cell? ⟨w4.heap.size, 6, none⟩ = some (.string (bs m6)) := bb7.cell 6
      have _d7 : w7.cell? ⟨w4.heap.size, 7, none⟩ = some (.string (bs m7)) := bb7.cell 7
      have _d8 : w7.cell? ⟨w4.heap.size, 8, none⟩ = some (.int .i64 m8) := bb7.cell 8
      have _d9 : w7.cell? ⟨w4.heap.size, 9, none⟩ = some (.int .i64 m9) := bb7.cell 9
      have AL := Lib.hid (fun w' (hb : Below w7.heap.size w7 w') => alike_any (T7.out.below hb) (bs a) (bs c) (by rw [bs_size]; omega) (by rw [bs_size]; omega))
      have AL2 : Hid (∀ w', Below w7.heap.size w7 w' → Calls Tryd.prog 14 #[.pointer (some ⟨g, 0, none⟩), .string (bs a), .string (bs c)] w' fun e w'' => e = .returned (.bool true) ∧ w'' = w') := Lib.hid (fun w' hb => by
        have := AL.out w' hb
        rw [bs_list, bs_list, HAL.out] at this
        exact this)
      clear k7 bb7 AL
      go_wp2_with fail
      refine (AL2.out _ ((Below.refl _ _).alloc (Nat.le_refl _) _)).mono ?_
      rintro e w' ⟨rfl, hw⟩
      subst w'
      go_wp2_with fail
      go_ret
      exact ⟨rfl, ((B7.out.setCell (p := ⟨w4.heap.size, 6, none⟩) (Nat.le_trans B3.out.size B4.out.size) _).alloc (B7.out.setCell (p := ⟨w4.heap.size, 6, none⟩) (Nat.le_trans B3.out.size B4.out.size) _).size _)⟩
    | false =>
      rw [hq, if_neg (by simp)] at hcg
      rw [hq] at hali
      have HAL := Lib.hid hali
      have hfl : C.1.file kc = ⟨m0, m1, m2, m3, m4, m5, m6, m7, m8, m9⟩ := Option.some.inj hcg
      rw [hfl] at G2
      clear hali hq hch hen hlk hg2 hgv
      clear hcg hfl
      unfold ndv ndc at G2
      have EQ := Lib.hid (fun w => node_same ⟨m0, m1, m2, m3, m4, m5, m6, m7, m8, m9⟩ w)
      unfold ndv ndc at EQ
      simp only at G2 EQ
      have hEQ := EQ.out
      go_wp2_with fail
      refine G2.out.mono ?_
      rintro e w7 ⟨rfl, k7⟩
      have T7 := Lib.hid (K6.out.below k7)
      have bb7 := BB6.out.below k7 BB6.out.lt
      have B7 := Lib.hid (thenB B6.out k7)
      have f6 := bb7.frozen 6
      have hl7 := bb7.lt
      have _d0 : w7.cell? ⟨w4.heap.size, 0, none⟩ = some (.int .u8 m0) := bb7.cell 0
      have _d1 : w7.cell? ⟨w4.heap.size, 1, none⟩ = some (.int .i64 m1) := bb7.cell 1
      have _d2 : w7.cell? ⟨w4.heap.size, 2, none⟩ = some (.int .i64 m2) := bb7.cell 2
      have _d3 : w7.cell? ⟨w4.heap.size, 3, none⟩ = some (.int .i64 m3) := bb7.cell 3
      have _d4 : w7.cell? ⟨w4.heap.size, 4, none⟩ = some (.int .i64 m4) := bb7.cell 4
      have _d5 : w7.cell? ⟨w4.heap.size, 5, none⟩ = some (.int .i64 m5) := bb7.cell 5
      have _d6 : w7.cell? ⟨w4.heap.size, 6, none⟩ = some (.string (bs m6)) := bb7.cell 6
      have _d7 : w7.cell? ⟨w4.heap.size, 7, none⟩ = some (.string (bs m7)) := bb7.cell 7
      have _d8 : w7.cell? ⟨w4.heap.size, 8, none⟩ = some (.int .i64 m8) := bb7.cell 8
      have _d9 : w7.cell? ⟨w4.heap.size, 9, none⟩ = some (.int .i64 m9) := bb7.cell 9
      have AL := Lib.hid (fun w' (hb : Below w7.heap.size w7 w') => alike_any (T7.out.below hb) (bs a) (bs c) (by rw [bs_size]; omega) (by rw [bs_size]; omega))
      have AL2 : Hid (∀ w', Below w7.heap.size w7 w' → Calls Tryd.prog 14 #[.pointer (some ⟨g, 0, none⟩), .string (bs a), .string (bs c)] w' fun e w'' => e = .returned (.bool false) ∧ w'' = w') := Lib.hid (fun w' hb => by
        have := AL.out w' hb
        rw [bs_list, bs_list, HAL.out] at this
        exact this)
      clear k7 bb7 AL
      go_wp2_with fail
      refine (AL2.out _ ((Below.refl _ _).alloc (Nat.le_refl _) _)).mono ?_
      rintro e w' ⟨rfl, hw⟩
      subst w'
      go_wp2_with fail
      go_ret
      exact ⟨rfl, B7.out.alloc B7.out.size _⟩

set_option maxRecDepth 100000 in
theorem treeOne_walk {H : Type} {enc : TypeId × Value → H} {w : World} {d : DataW H} {ps : List MemPlace} {base : Nat} (v : Value) (hok : Value.okWide Tryd.prog w .any base 22 v)
    (h : DataW.Trod enc Tryd.prog w 0 (fun _ => true) true 22 v d ps) (hz : ∀ n ∈ d.weights Tryd.prog 22, n ≤ reachBytes) (which : Int) (_hw : (Lit.int .i64 which).wf = true) (look : Int) (_hl : (Lit.int .i64 look).wf = true) (data : ByteArray) (_hd : data.size ≤ 140737488351232) (hsh : ML w) :
    Calls Tryd.prog 5 #[v, .int .i64 which, .int .i64 look, .string data] w fun e w' => e = .returned (.bool true) ∧ Below w.heap.size w w' := by
  obtain ⟨l, hl⟩ := deeds_of hok h hz
  have := treeOne_main v l which look data.data.toList w hl hsh
  rw [bs_of] at this
  exact this

end Go.Proofs.YtehooifcgfkngaaDoor
