/-
  The walk of PaxBack.
-/
import Derived.Test.YtjafjhhmjfpmoaaDoorPaxM
import Derived.Test.YtjafjhhmjfpmoaaDoorPaxI
import Derived.Test.YtjafjhhmjfpmoaaDoorPick
namespace Go.Proofs.YtjafjhhmjfpmoaaDoor
open Go.RowKit

/-- Write at a slice of valid records that some call made. -/
theorem write_ok {w : World} {B : Nat} {v : Value} {l : List Px.Rec} (hE : Env w) (h : HasR w B v l) (hl : l.length ≤ 20) (hr : ∀ r ∈ l, Px.right r = true) :
    Calls Tryd.prog 10 #[v] w fun e w' => e = .returned (.tuple #[.string (bs (Px.texts l)), .nilIface]) ∧ Below w.heap.size w w' := by
  rcases h.ways with ⟨rfl, rfl⟩ | ⟨g, cap, rfl, _, hg, _, hrow⟩
  · go_enter Tryd.func10, Tryd.ntmps10
    go_wp2_with fail
    refine wp_loop_rounds 1 ?_
    rw [rounds_succ]
    go_wp2_with fail
    go_ret2
    exact ⟨rfl, Below.refl _ _⟩
  · exact write_row l g cap w hE hg hrow hl hr

theorem fairL_right (l : List Px.Rec) : ∀ r ∈ fairL l, Px.right r = true := fun r hr => (List.mem_filter.1 hr).2
theorem fairL_len (l : List Px.Rec) : (fairL l).length ≤ 10 := by
  have := List.length_filter_le Px.right (l.take 10)
  rw [List.length_take] at this
  unfold fairL
  omega
theorem cut_text {r : Px.Rec} : Px.cut1 32 (Px.text r) = (Lib.decDigits (Px.tot r), r.1 ++ 61 :: (r.2 ++ [10]), true) := by
  unfold Px.text
  refine Px.cut1_hit 32 _ _ fun h => ?_
  have := Px.decDigits_is _ _ h
  simp at this

set_option maxRecDepth 100000 in
set_option maxHeartbeats 2000000 in
theorem paxBack_main (v : Value) (l0 : List Px.Rec) (which : Int) (w : World) (hE : Env w) (hv0 : PairsIn w v l0) :
    Calls Tryd.prog 4 #[v, .int .i64 which] w fun e w' => e = .returned (.bool true) ∧ Below w.heap.size w w' := by
  have RC := Lib.hid (recorded_any w hE)
  have HE := Lib.hid hE
  have V0 := Lib.hid hv0
  have hR := fairL_right l0
  have hL := fairL_len l0
  have FA := Lib.hid (fun w' (h : Below w.heap.size w w') => fair_any v l0 w' (hv0.below h))
  obtain ⟨l, hl⟩ : ∃ l, l = fairL l0 := ⟨_, rfl⟩
  rw [← hl] at hR hL FA
  have hread : Px.read (bs (Px.texts l)).data.toList = some l := (Px.read_iff _ _).2 ⟨hR, rfl, by omega⟩
  have htl := texts_len l hR
  have RD := Lib.hid (fun w' (h : Below w.heap.size w w') => read_some (bs (Px.texts l)) (by rw [bs_size]; omega) l hread w' (HE.out.below h))
  have HR := Lib.hid hR
  have hLi : (l.length : Int) ≤ 10 := by omega
  clear hread htl hl hR hE hv0
  by_cases h0 : l = []
  · subst h0
    have he0 : (bs (Px.texts [])).toList.isEmpty = true := by rw [Lib.toList_data, bs_list]; rfl
    go_enter Tryd.func4, Tryd.ntmps4
    go_wp2_with fail
    refine RC.out.mono ?_
    rintro e w1 ⟨rfl, h1⟩
    have B1 := Lib.hid h1
    clear h1
    go_wp2_with fail
    refine (FA.out _ B1.out).mono ?_
    rintro e w2 ⟨v2, rfl, hv2, h2⟩
    obtain ⟨X2, c2, rfl⟩ := hv2.form
    have V2 := Lib.hid hv2
    have B2 := Lib.hid (thenB B1.out h2)
    clear h2 hv2
    go_wp2_with fail
    refine (write_ok (HE.out.below B2.out) V2.out (by simp) HR.out).mono ?_
    rintro e w3 ⟨rfl, h3⟩
    have V3 := Lib.hid (V2.out.later h3)
    have B3 := Lib.hid (thenB B2.out h3)
    clear h3
    go_wp2_with fail
    refine (RD.out _ B3.out).mono ?_
    rintro e w4 ⟨v4, rfl, hv4, h4⟩
    obtain ⟨X4, c4, rfl⟩ := hv4.form
    have V4 := Lib.hid hv4
    have V34 := Lib.hid (V3.out.later h4)
    have B4 := Lib.hid (thenB B3.out h4)
    clear h4 hv4
    go_wp2_with fail
    refine (eq_same V4.out V34.out (by simp)).mono ?_
    rintro e w5 ⟨rfl, h5⟩
    have B5 := Lib.hid (thenB B4.out h5)
    clear h5
    go_wp2_with fail
    go_ret
    exact ⟨rfl, B5.out⟩
  · have hlp : 0 < l.length := List.length_pos_iff.2 h0
    have hlpI : (0 : Int) < (l.length : Int) := by omega
    have hl0 : ((l.length : Int) == 0) = false := beq_eq_false_iff_ne.2 (by omega)
    have p1 := pickN_lo which l.length hlpI
    have p2 := pickN_hi which l.length hlpI
    have PK := Lib.hid (fun w => pick_any which l.length w hlpI (by omega))
    obtain ⟨K, hK⟩ : ∃ K, K = pickN which l.length := ⟨_, rfl⟩
    rw [← hK] at p1 p2 PK
    obtain ⟨k, rfl⟩ := Int.eq_ofNat_of_zero_le p1
    have hk : k < l.length := by omega
    have hrk := HR.out l[k] (List.getElem_mem hk)
    clear hK h0
    go_enter Tryd.func4, Tryd.ntmps4
    go_wp2_with fail
    refine RC.out.mono ?_
    rintro e w1 ⟨rfl, h1⟩
    have B1 := Lib.hid h1
    clear h1
    go_wp2_with fail
    refine (FA.out _ B1.out).mono ?_
    rintro e w2 ⟨v2, rfl, hv2, h2⟩
    rcases hv2.ways with ⟨_, h0⟩ | ⟨g, c2, rfl, _⟩
    · exact absurd hlp (by rw [h0]; simp)
    have V2 := Lib.hid hv2
    have B2 := Lib.hid (thenB B1.out h2)
    clear h2 hv2
    go_wp2_with fail
    refine (write_ok (HE.out.below B2.out) V2.out (by omega) HR.out).mono ?_
    rintro e w3 ⟨rfl, h3⟩
    have V3 := Lib.hid (V2.out.later h3)
    have B3 := Lib.hid (thenB B2.out h3)
    clear h3
    go_wp2_with fail
    refine (RD.out _ B3.out).mono ?_
    rintro e w4 ⟨v4, rfl, hv4, h4⟩
    obtain ⟨X4, c4, rfl⟩ := hv4.form
    have V4 := Lib.hid hv4
    have V34 := Lib.hid (V3.out.later h4)
    have B4 := Lib.hid (thenB B3.out h4)
    clear h4 hv4
    go_wp2_with fail
    refine (eq_same V4.out V34.out (by omega)).mono ?_
    rintro e w5 ⟨rfl, h5⟩
    have V35 := Lib.hid (V34.out.later h5)
    have B5 := Lib.hid (thenB B4.out h5)
    clear h5
    go_wp2_with fail
    refine (PK.out _).mono ?_
    rintro e w' ⟨rfl, hw⟩
    subst hw
    rcases V35.out.ways with ⟨h0, _⟩ | ⟨g', c', e', _, hg, _, hrow⟩
    · cases h0
    cases e'
    obtain ⟨k0, k1⟩ := hrow k hk
    rw [Nat.zero_add] at k0 k1
    obtain ⟨r, hr⟩ : ∃ r, r = l[k] := ⟨_, rfl⟩
    rw [← hr] at k0 k1 hrk
    clear hrow
    have RCD := Lib.hid (fun w' (h : Below w.heap.size w w') => record_any (bs r.1) (bs r.2) (by rw [bs_list, bs_list]; exact hrk) w' (HE.out.below h))
    have hts := Px.text_len hrk
    have htb := Px.tot_bounds hrk
    have CT := Lib.hid (fun w' (h : Below w.heap.size w w') => cut_any (bs (Px.text r)) 32 (by rw [bs_size]; omega) w' (HE.out.below h))
    have DC := Lib.hid (fun w' => decimal_any (Px.text r).length (by omega) (by omega) w')
    simp only [bs_list] at RCD CT
    rw [cut_text] at CT
    rw [hts] at DC
    have hsz : ((bs (Px.text r)).size : Int) = Px.tot r := by rw [bs_size, hts]
    obtain ⟨T, hT⟩ : ∃ T, T = bs (Px.text r) := ⟨_, rfl⟩
    obtain ⟨D, hD⟩ : ∃ D, D = bs (Lib.decDigits (Px.tot r)) := ⟨_, rfl⟩
    obtain ⟨n, hn⟩ : ∃ n, n = Px.tot r := ⟨_, rfl⟩
    rw [← hT] at RCD CT hsz
    rw [← hD] at CT DC
    rw [← hn] at DC hsz
    unfold prv at RCD
    clear hT hD hn hts htb hrk hr
    have k0' : w'.cell? ⟨g, k * 2, none⟩ = some (.string (bs r.1)) := k0
    have k1' : w'.cell? ⟨g, k * 2 + 1, none⟩ = some (.string (bs r.2)) := k1
    clear k0 k1
    go_wp2_with fail
    refine (RCD.out _ B5.out).mono ?_
    rintro e w6 ⟨rfl, h6⟩
    have B6 := Lib.hid (thenB B5.out h6)
    clear h6 k0' k1'
    go_wp2_with fail
    refine (CT.out _ B6.out).mono ?_
    rintro e w7 ⟨rfl, h7⟩
    have B7 := Lib.hid (thenB B6.out h7)
    clear h7
    go_wp2_with fail
    refine (DC.out _).mono ?_
    rintro e w8 ⟨rfl, h8⟩
    have B8 := Lib.hid (thenB B7.out h8)
    clear h8
    go_wp2_with fail
    go_ret
    exact ⟨by simp, B8.out⟩

set_option maxRecDepth 100000 in
theorem paxBack_walk {H : Type} {enc : TypeId × Value → H} (v : Value) {w : World} {d : DataW H} {ps : List MemPlace} {base : Nat} (hok : Value.okWide Tryd.prog w .any base 23 v)
    (h : DataW.Trod enc Tryd.prog w 0 (fun _ => true) true 23 v d ps) (hz : ∀ n ∈ d.weights Tryd.prog 23, n ≤ reachBytes) (which : Int) (_hw : (Lit.int .i64 which).wf = true) (hE : Env w) :
    Calls Tryd.prog 4 #[v, .int .i64 which] w fun e w' => e = .returned (.bool true) ∧ Below w.heap.size w w' := by
  obtain ⟨l, hl⟩ := pairs_of hok h hz
  exact paxBack_main v l which w hE hl

end Go.Proofs.YtjafjhhmjfpmoaaDoor
