/-
  The walk of PaxOne.
-/
import Derived.Test.YtjafjhhmjfpmoaaDoorPaxH
namespace Go.Proofs.YtjafjhhmjfpmoaaDoor
open Go.RowKit

/-- Write at a slice of valid records that some call made. -/
theorem write_any {w : World} {B : Nat} {v : Value} {l : List Px.Rec} (hE : Env w) (h : HasR w B v l) (hl : l.length ≤ 20) (hr : ∀ r ∈ l, Px.right r = true) :
    Calls Tryd.prog 10 #[v] w fun e w' => e = .returned (.tuple #[.string (bs (Px.texts l)), .nilIface]) ∧ Below w.heap.size w w' := by
  rcases h.ways with ⟨rfl, rfl⟩ | ⟨g, cap, rfl, _, hg, _, hrow⟩
  · go_enter Tryd.func10, Tryd.ntmps10
    go_wp2_with fail
    refine wp_loop_rounds 1 ?_
    rw [rounds_succ]
    go_wp2_with fail
    go_ret2
    exact ⟨rfl, Below.refl _ _⟩
  · exact write_row l g cap w hE hg hrow hl hr

set_option maxRecDepth 100000 in
set_option maxHeartbeats 2000000 in
theorem paxOne_walk (s : ByteArray) (_ss : s.size ≤ 140737488351232) (t : ByteArray) (_st : t.size ≤ 140737488351232) (w : World) (hE : Env w) :
    Calls Tryd.prog 3 #[.string s, .string t] w fun e w' => e = .returned (.bool true) ∧ Below w.heap.size w w' := by
  have RC := Lib.hid (recorded_any w hE)
  by_cases hbig : 600 < s.size + t.size
  · have hb' : (600 : Int) < (s.size : Int) + t.size := by omega
    clear hbig hE
    go_enter Tryd.func3, Tryd.ntmps3
    go_wp2_with fail
    refine RC.out.mono ?_
    rintro e w1 ⟨rfl, h1⟩
    have B1 := Lib.hid h1
    clear h1
    go_wp2_with fail
    go_ret
    exact ⟨rfl, B1.out⟩
  have hb' : ¬ (600 : Int) < (s.size : Int) + t.size := by omega
  have hE' := hE
  have HE := Lib.hid hE'
  clear hE hE'
  cases hs : Px.read s.data.toList with
  | none =>
    have r1 := fun w' (h : Below w.heap.size w w') => read_none s (by omega) hs w' (HE.out.below h)
    have R1 := Lib.hid r1
    cases ht : Px.read t.data.toList with
    | none =>
      have R2 := Lib.hid (fun w' (h : Below w.heap.size w w') => read_none t (by omega) ht w' (HE.out.below h))
      clear r1 hs ht hbig
      go_enter Tryd.func3, Tryd.ntmps3
      go_wp2_with fail
      refine RC.out.mono ?_
      rintro e w1 ⟨rfl, h1⟩
      have B1 := Lib.hid h1
      clear h1
      go_wp2_with fail
      refine (R1.out _ B1.out).mono ?_
      rintro e w2 ⟨T, N, rfl, h2⟩
      have B2 := Lib.hid (thenB B1.out h2)
      clear h2
      go_wp2_with fail
      refine (R2.out _ B2.out).mono ?_
      rintro e w3 ⟨T2, N2, rfl, h3⟩
      have B3 := Lib.hid (thenB B2.out h3)
      clear h3
      go_wp2_with fail
      go_ret
      exact ⟨rfl, B3.out⟩
    | some b =>
      have R2 := Lib.hid (fun w' (h : Below w.heap.size w w') => read_some t (by omega) b ht w' (HE.out.below h))
      clear r1 hs ht hbig
      go_enter Tryd.func3, Tryd.ntmps3
      go_wp2_with fail
      refine RC.out.mono ?_
      rintro e w1 ⟨rfl, h1⟩
      have B1 := Lib.hid h1
      clear h1
      go_wp2_with fail
      refine (R1.out _ B1.out).mono ?_
      rintro e w2 ⟨T, N, rfl, h2⟩
      have B2 := Lib.hid (thenB B1.out h2)
      clear h2
      go_wp2_with fail
      refine (R2.out _ B2.out).mono ?_
      rintro e w3 ⟨v2, rfl, _, h3⟩
      have B3 := Lib.hid (thenB B2.out h3)
      clear h3
      go_wp2_with fail
      go_ret
      exact ⟨rfl, B3.out⟩
  | some a =>
    have R1 := Lib.hid (fun w' (h : Below w.heap.size w w') => read_some s (by omega) a hs w' (HE.out.below h))
    cases ht : Px.read t.data.toList with
    | none =>
      have R2 := Lib.hid (fun w' (h : Below w.heap.size w w') => read_none t (by omega) ht w' (HE.out.below h))
      clear hs ht hbig
      go_enter Tryd.func3, Tryd.ntmps3
      go_wp2_with fail
      refine RC.out.mono ?_
      rintro e w1 ⟨rfl, h1⟩
      have B1 := Lib.hid h1
      clear h1
      go_wp2_with fail
      refine (R1.out _ B1.out).mono ?_
      rintro e w2 ⟨v1, rfl, _, h2⟩
      have B2 := Lib.hid (thenB B1.out h2)
      clear h2
      go_wp2_with fail
      refine (R2.out _ B2.out).mono ?_
      rintro e w3 ⟨T2, N2, rfl, h3⟩
      have B3 := Lib.hid (thenB B2.out h3)
      clear h3
      go_wp2_with fail
      go_ret
      exact ⟨rfl, B3.out⟩
    | some b =>
      have R2 := Lib.hid (fun w' (h : Below w.heap.size w w') => read_some t (by omega) b ht w' (HE.out.below h))
      obtain ⟨ra, _, la⟩ := (Px.read_iff _ _).1 hs
      obtain ⟨rb, _, lb⟩ := (Px.read_iff _ _).1 ht
      have lai : (a.length : Int) ≤ 20 := by omega
      have lbi : (b.length : Int) ≤ 20 := by omega
      by_cases h20 : 20 < a.length + b.length
      · have h20i : (20 : Int) < (a.length : Int) + b.length := by omega
        clear hs ht hbig ra rb h20
        go_enter Tryd.func3, Tryd.ntmps3
        go_wp2_with fail
        refine RC.out.mono ?_
        rintro e w1 ⟨rfl, h1⟩
        have B1 := Lib.hid h1
        clear h1
        go_wp2_with fail
        refine (R1.out _ B1.out).mono ?_
        rintro e w2 ⟨v1, rfl, hv1, h2⟩
        obtain ⟨X1, c1, rfl⟩ := hv1.form
        have B2 := Lib.hid (thenB B1.out h2)
        clear h2 hv1
        go_wp2_with fail
        refine (R2.out _ B2.out).mono ?_
        rintro e w3 ⟨v2, rfl, hv2, h3⟩
        obtain ⟨X2, c2, rfl⟩ := hv2.form
        have B3 := Lib.hid (thenB B2.out h3)
        clear h3 hv2
        go_wp2_with fail
        go_ret
        exact ⟨rfl, B3.out⟩
      · have h20i : ¬ (20 : Int) < (a.length : Int) + b.length := by omega
        obtain ⟨l1, l2⟩ := Px.one_law _ _ a b hs ht (by omega)
        have hbs : bs (Px.texts a) = s := by rw [l1]; exact bs_of s
        have R3 := Lib.hid (fun w' (h : Below w.heap.size w w') => read_some (s ++ t) (by rw [ByteArray.size_append]; omega) (a ++ b) (by rw [cat_list]; exact l2) w' (HE.out.below h))
        have hu := fun w => run_string_add_sum (P := Tryd.prog) w s t (by omega)
        have RA := Lib.hid ra
        have hab : (a ++ b).length ≤ 100 := by rw [List.length_append]; omega
        clear hs ht hbig ra rb h20 l1 l2
        go_enter Tryd.func3, Tryd.ntmps3
        go_wp2_with fail
        refine RC.out.mono ?_
        rintro e w1 ⟨rfl, h1⟩
        have B1 := Lib.hid h1
        clear h1
        go_wp2_with fail
        refine (R1.out _ B1.out).mono ?_
        rintro e w2 ⟨v1, rfl, hv1, h2⟩
        obtain ⟨X1, c1, rfl⟩ := hv1.form
        have V1 := Lib.hid hv1
        have B2 := Lib.hid (thenB B1.out h2)
        clear h2 hv1
        go_wp2_with fail
        refine (R2.out _ B2.out).mono ?_
        rintro e w3 ⟨v2, rfl, hv2, h3⟩
        obtain ⟨X2, c2, rfl⟩ := hv2.form
        have V2 := Lib.hid hv2
        have V13 := Lib.hid (V1.out.later h3)
        have B3 := Lib.hid (thenB B2.out h3)
        clear h3 hv2
        go_wp2_with fail
        refine (write_any (HE.out.below B3.out) V13.out la RA.out).mono ?_
        rw [hbs]
        rintro e w4 ⟨rfl, h4⟩
        have V14 := Lib.hid (V13.out.later h4)
        have V24 := Lib.hid (V2.out.later h4)
        have B4 := Lib.hid (thenB B3.out h4)
        clear h4
        go_wp2_with fail
        refine (R3.out _ B4.out).mono ?_
        rintro e w5 ⟨v5, rfl, hv5, h5⟩
        obtain ⟨X5, c5, rfl⟩ := hv5.form
        have V5 := Lib.hid hv5
        have V15 := Lib.hid (V14.out.later h5)
        have V25 := Lib.hid (V24.out.later h5)
        have B5 := Lib.hid (thenB B4.out h5)
        clear h5 hv5
        go_wp2_with fail
        have z := Blk.new w5 23 #[.slice X1 a.length c1, .slice X2 b.length c2]
        have h6 : Below w5.heap.size w5 (w5.alloc (.cells #[.slice X1 a.length c1, .slice X2 b.length c2] 23)) := (Below.refl _ _).alloc (Nat.le_refl _) _
        have hcat := concat_any (w0 := w) (by omega) (by omega) (z.cell 0) (z.cell 1) (V15.out.later h6) (V25.out.later h6)
        have V56 : HasR (w5.alloc (.cells #[.slice X1 a.length c1, .slice X2 b.length c2] 23)) w4.heap.size (.slice X5 (a.length + b.length) c5) (a ++ b) := by
          have := V5.out.later h6
          rw [List.length_append] at this
          exact this
        have B6 := Lib.hid (thenB B5.out h6)
        have V5' := Lib.hid V56
        clear z h6 V56
        refine hcat.mono ?_
        rintro e w7 ⟨v7, rfl, hv7, h7⟩
        have V7 := Lib.hid hv7
        have V57 := Lib.hid (V5'.out.later h7)
        have B7 := Lib.hid (thenB B6.out h7)
        clear h7 hv7 hcat
        go_wp2_with fail
        refine (eq_same V57.out V7.out hab).mono ?_
        rintro e w8 ⟨rfl, h8⟩
        have B8 := Lib.hid (thenB B7.out h8)
        clear h8
        go_wp2_with fail
        go_ret
        exact ⟨rfl, B8.out⟩

end Go.Proofs.YtjafjhhmjfpmoaaDoor
