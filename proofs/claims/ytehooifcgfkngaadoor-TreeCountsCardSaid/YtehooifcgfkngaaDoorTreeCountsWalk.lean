/-
  The walk of TreeCounts.
-/
import Derived.Test.YtehooifcgfkngaaDoorTreeQ
import Derived.Test.YtehooifcgfkngaaDoorPick
namespace Go.Proofs.YtehooifcgfkngaaDoor
open Go.RowKit Go.Maps Tre

theorem count_take {L : List Pth.Bs} {p : Pth.Bs → Bool} {j : Nat} (hj : j < L.length) : ((L.take (j + 1)).filter p).length = ((L.take j).filter p).length + (if p L[j] = true then 1 else 0) := by
  rw [List.take_succ_eq_append_getElem hj, List.filter_append, List.length_append]
  congr 1
  by_cases h : p L[j] = true
  · rw [List.filter_cons_of_pos h, if_pos h]; rfl
  · rw [List.filter_cons_of_neg h, if_neg h]; rfl

set_option maxRecDepth 100000 in
set_option maxHeartbeats 8000000 in
theorem treeCounts_main (v : Value) (l : List Deed) (which : Int) (w : World) (hD : DeedsIn w v l) (hm : ML w) :
    Calls Tryd.prog 3 #[v, .int .i64 which] w fun e w' => e = .returned (.bool true) ∧ Below w.heap.size w w' := by
  have GR := Lib.hid (grown_any w hm)
  have PL := Lib.hid (fun w' (hb : Below w.heap.size w w') => planted_any (hD.below hb) (hm.below hb))
  have HM := Lib.hid hm
  have hD2 := hD
  obtain ⟨X, cap, rfl, _⟩ := hD2
  clear hD hm
  go_enter Tryd.func3, Tryd.ntmps3
  go_wp2_with fail
  refine GR.out.mono ?_
  rintro e w1 ⟨rfl, h1⟩
  have B1 := Lib.hid h1
  clear h1
  go_wp2_with fail
  refine (PL.out _ B1.out).mono ?_
  rintro e w2 ⟨h2, ⟨hb, rfl⟩ | ⟨hb, g, on, of, rfl, hT, hO⟩⟩
  · have B2 := Lib.hid (thenB B1.out h2)
    clear h2
    go_wp2_with fail
    go_ret
    exact ⟨rfl, B2.out⟩
  have B2 := Lib.hid (thenB B1.out h2)
  have hl60 := bigL_len hb
  have hnx := plant_nx l
  have HS := Lib.hid (plant_std l)
  have HT := Lib.hid hT
  obtain ⟨t, ht⟩ : ∃ t, t = plant l := ⟨_, rfl⟩
  rw [← ht] at HT HS hnx
  have NM := Lib.hid (names_any HT.out HS.out (HM.out.below B2.out))
  clear h2 hb hT hO ht GR PL
  go_wp2_with fail
  refine NM.out.mono ?_
  rintro e w3 ⟨v3, rfl, hv, h3⟩
  have B3 := Lib.hid (thenB B2.out h3)
  have T3 := Lib.hid (HT.out.below h3)
  have hs := hv.has
  clear hv h3 NM
  have hln : t.names.length ≤ 60 := by rw [names_len]; exact HS.out.cn
  have LK := Lib.hid (fun (s : ByteArray) (hs : s.size ≤ 1000000) w' (hb : Below w3.heap.size w3 w') => links_any (T3.out.below hb) HS.out s hs)
  rcases hs.ways with ⟨A, c3, rfl, h0⟩ | ⟨b, off, c3, rfl, hc3, _, hb, hpos, hrow⟩
  · have he : t.ents = [] := by
      have := names_len (t := t)
      rw [h0] at this
      exact List.length_eq_zero_iff.1 this.symm
    have L0 := LK.out ⟨#[97]⟩ (by decide) w3 (Below.refl _ _)
    rw [links_nil he] at L0
    have LL := Lib.hid L0
    clear hs he h0 L0
    go_wp2_with fail
    refine LL.out.mono ?_
    rintro e w4 ⟨rfl, h4⟩
    have B4 := Lib.hid (thenB B3.out h4)
    clear h4
    go_wp2_with fail
    go_ret
    exact ⟨rfl, B4.out⟩
  · have HR := Lib.hid hrow
    have HLN := Lib.hid (links_names t)
    have HNAME := Lib.hid (fun (s : Pth.Bs) (h : s ∈ t.names) => HS.out.name h)
    obtain ⟨L, hL⟩ : ∃ L, L = t.names := ⟨_, rfl⟩
    rw [← hL] at HR HLN HNAME hln hpos hc3 ⊢
    have p1 := pickN_lo which L.length (by omega)
    have p2 := pickN_hi which L.length (by omega)
    have PK := Lib.hid (fun w => pick_any which L.length w (by omega) (by omega))
    obtain ⟨k0, hk0⟩ : ∃ k0, k0 = pickN which L.length := ⟨_, rfl⟩
    rw [← hk0] at p1 p2 PK
    obtain ⟨k, rfl⟩ := Int.eq_ofNat_of_zero_le p1
    have hkl : k < L.length := by omega
    have hne : ((L.length : Int) == 0) = false := beq_eq_false_iff_ne.2 (by omega)
    have c0 := HR.out k hkl
    have hmemk : L[k] ∈ L := List.getElem_mem hkl
    obtain ⟨a, ha⟩ : ∃ a, a = L[k] := ⟨_, rfl⟩
    rw [← ha] at c0 hmemk
    obtain ⟨ka, hka, har, _, hlk1⟩ := HNAME.out a hmemk
    have hal := (right_len har).1
    have hll : (L.length : Int) ≤ 60 := by omega
    have LKA := Lib.hid (fun w' (hb : Below w3.heap.size w3 w') => LK.out (bs a) (by rw [bs_size]; omega) w' hb)
    have LKA2 : Hid (∀ w', Below w3.heap.size w3 w' → Calls Tryd.prog 12 #[.pointer (some ⟨g, 0, none⟩), .string (bs a)] w' fun e w'' => e = .returned (.int .i64 (t.links a)) ∧ Below w'.heap.size w' w'') := LKA
    have hcnt := HLN.out a
    have HCN := Lib.hid hcnt
    have hlk1i : (1 : Int) ≤ t.links a := by omega
    clear hs hL hk0 ha hmemk hka har hcnt hrow LKA LK
    go_wp2_with fail
    refine (PK.out _).mono ?_
    rintro e w' ⟨rfl, hw⟩
    subst w'
    go_wp2_with fail
    go_loopg [8, 34] L.length (fun gg s8 s34 wr => ∃ j : Nat, s34 = .int .i64 j ∧ j + gg = L.length ∧ s8 = .int .i64 (((L.take j).filter fun x => t.alike a x).length : Nat) ∧ wr = w3 ∧ True)
    case atStart => exact ⟨0, rfl, by omega, rfl, rfl, trivial⟩
    case round =>
      obtain ⟨j, rfl, hg, rfl, hw, _⟩ := hrel
      subst wr
      have HG := Lib.hid hg
      clear hg
      have hcl : ((L.take j).filter fun x => t.alike a x).length ≤ 60 := by
        have h1 := List.length_filter_le (fun x => t.alike a x) (L.take j)
        rw [List.length_take] at h1
        omega
      by_cases hj : j < L.length
      · have hji : (j : Int) < L.length := by omega
        have c1 := HR.out j hj
        have hct := count_take (p := fun x => t.alike a x) hj
        obtain ⟨x, hx⟩ : ∃ x, x = L[j] := ⟨_, rfl⟩
        obtain ⟨kx, hkx, hxr, _⟩ := HNAME.out x (by rw [hx]; exact List.getElem_mem hj)
        have hxl := (right_len hxr).1
        rw [← hx] at c1 hct
        have A1 := Lib.hid (alike_any T3.out (bs a) (bs x) (by rw [bs_size]; omega) (by rw [bs_size]; omega))
        have A2 := Lib.hid (alike_any T3.out (bs x) (bs a) (by rw [bs_size]; omega) (by rw [bs_size]; omega))
        rw [bs_list, bs_list, alike_comm t x a] at A2
        rw [bs_list, bs_list] at A1
        obtain ⟨n, hn⟩ : ∃ n, n = ((L.take j).filter fun x => t.alike a x).length := ⟨_, rfl⟩
        rw [← hn] at hct hcl ⊢
        obtain ⟨q, hq⟩ : ∃ q, q = t.alike a x := ⟨_, rfl⟩
        rw [← hq] at A1 A2 hct
        have HC := Lib.hid hct
        have hni : (n : Int) ≤ 60 := by omega
        clear hx hkx hxr hxl hn hq hct
        cases q
        · go_wp2_with fail
          refine A1.out.mono ?_
          rintro e w' ⟨rfl, hw⟩
          subst w'
          go_wp2_with fail
          refine A1.out.mono ?_
          rintro e w' ⟨rfl, hw⟩
          subst w'
          go_wp2_with fail
          refine A2.out.mono ?_
          rintro e w' ⟨rfl, hw⟩
          subst w'
          go_wp2_with fail
          go_roundg (L.length - (j + 1))
          case measure => have := HG.out; omega
          case rel => exact ⟨j + 1, by go_num, by omega, by rw [HC.out]; rfl, rfl, trivial⟩
        · go_wp2_with fail
          refine A1.out.mono ?_
          rintro e w' ⟨rfl, hw⟩
          subst w'
          go_wp2_with fail
          refine A1.out.mono ?_
          rintro e w' ⟨rfl, hw⟩
          subst w'
          go_wp2_with fail
          refine A2.out.mono ?_
          rintro e w' ⟨rfl, hw⟩
          subst w'
          go_wp2_with fail
          go_roundg (L.length - (j + 1))
          case measure => have := HG.out; omega
          case rel => exact ⟨j + 1, by go_num, by omega, by rw [HC.out]; go_num, rfl, trivial⟩
      · have hji : (L.length : Int) ≤ j := by omega
        have e1 : ((L.take j).filter fun x => t.alike a x).length = t.links a := by
          rw [List.take_of_length_le (by omega)]; exact HCN.out
        rw [e1]
        have ee : ((t.links a : Int) == (t.links a : Int)) = true := by simp
        clear e1 hcl
        go_wp2_with fail
        refine (LKA2.out _ (Below.refl _ _)).mono ?_
        rintro e w4 ⟨rfl, h4⟩
        have B4 := Lib.hid (thenB B3.out h4)
        clear h4
        go_wp2_with fail
        go_ret
        exact ⟨rfl, B4.out⟩

set_option maxRecDepth 100000 in
theorem treeCounts_walk {H : Type} {enc : TypeId × Value → H} {w : World} {d : DataW H} {ps : List MemPlace} {base : Nat} (v : Value) (hok : Value.okWide Tryd.prog w .any base 22 v)
    (h : DataW.Trod enc Tryd.prog w 0 (fun _ => true) true 22 v d ps) (hz : ∀ n ∈ d.weights Tryd.prog 22, n ≤ reachBytes) (which : Int) (_hw : (Lit.int .i64 which).wf = true) (hsh : ML w) :
    Calls Tryd.prog 3 #[v, .int .i64 which] w fun e w' => e = .returned (.bool true) ∧ Below w.heap.size w w' := by
  obtain ⟨l, hl⟩ := deeds_of hok h hz
  exact treeCounts_main v l which w hl hsh

end Go.Proofs.YtehooifcgfkngaaDoor
