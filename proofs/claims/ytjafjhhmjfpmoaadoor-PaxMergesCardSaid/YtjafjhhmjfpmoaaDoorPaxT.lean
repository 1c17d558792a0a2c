/-
  slices.Index, slices.Contains of records.
-/
import Derived.Test.YtjafjhhmjfpmoaaDoorPaxS
namespace Go.Proofs.YtjafjhhmjfpmoaaDoor
open Go.RowKit

set_option maxRecDepth 100000 in
set_option maxHeartbeats 2000000 in
theorem index_pair {w : World} {v : Value} {l : List Px.Rec} (h : PairsIn w v l) (x : Px.Rec) (hl : l.length ≤ 1000000) :
    Calls Tryd.prog 42 #[v, .agg #[.string (bs x.1), .string (bs x.2)]] w fun e w' => e = .returned (.int .i64 (idxP (fun r => x == r) l)) ∧ Below w.heap.size w w' := by
  obtain ⟨X, cap, rfl, _, _, _, hX⟩ := h
  have hB0 := (Below.refl _ w).alloc (Nat.le_refl _) (.cells #[.string (bs x.1), .string (bs x.2)] 32)
  have hk := Blk.new w 32 #[.string (bs x.1), .string (bs x.2)]
  rcases hX with rfl | ⟨b, off, rfl, hb, hr⟩
  · go_enter Tryd.func42, Tryd.ntmps42
    go_wp2_with fail
    refine wp_loop_rounds 1 ?_
    rw [rounds_succ]
    go_wp2_with fail
    go_ret
    exact ⟨rfl, hB0⟩
  · have HR := Lib.hid hr
    have B0 := Lib.hid hB0
    have K0 := Lib.hid hk
    have hli : (l.length : Int) ≤ 1000000 := by omega
    clear hr hB0 hk
    go_enter Tryd.func42, Tryd.ntmps42
    go_wp2_with fail
    go_loopg [5, 8] (l.length) (fun gg _ iv wr => ∃ i : Nat, iv = .int .i64 i ∧ i ≤ l.length ∧ gg = l.length - i ∧ Below w.heap.size w wr ∧ Blk wr w.heap.size 32 #[.string (bs x.1), .string (bs x.2)] ∧ Hid (∀ (j : Nat) (hj : j < l.length), j < i → (x == l[j]) = false))
    case atStart => exact ⟨0, rfl, by omega, by omega, B0.out, K0.out, Lib.hid (fun j hj h0 => absurd h0 (by omega))⟩
    case round =>
      obtain ⟨i, rfl, hi, hg, hbw, hkw, HN⟩ := hrel
      have HW := Lib.hid hbw
      have HK := Lib.hid hkw
      have HG := Lib.hid hg
      have x0 := hkw.cell 0
      have x1 := hkw.cell 1
      have k0 : wr.cell? ⟨w.heap.size, 0, none⟩ = some (.string (bs x.1)) := x0
      have k1 : wr.cell? ⟨w.heap.size, 1, none⟩ = some (.string (bs x.2)) := x1
      clear hbw hg hkw x0 x1
      by_cases hil : i < l.length
      · have hii : (i : Int) < l.length := by omega
        obtain ⟨a0, a1⟩ := HR.out i hil
        have HS := Lib.hid (fun (h : (x == l[i]) = false) j hj (h0 : j < i + 1) => (by
          by_cases e : j = i
          · subst e; exact h
          · exact HN.out j hj (by omega) : (x == l[j]) = false))
        have HH := Lib.hid (fun (h : (x == l[i]) = true) => idxP_hit (p := fun r => x == r) hil h HN.out)
        obtain ⟨r, hrd⟩ : ∃ r, r = l[i] := ⟨_, rfl⟩
        rw [← hrd] at a0 a1 HS HH
        have d0 : wr.cell? ⟨b, off + i * 2, none⟩ = some (.string (bs r.1)) := (HW.out.cell (p := ⟨b, off + i * 2, none⟩) hb).trans a0
        have d1 : wr.cell? ⟨b, off + i * 2 + 1, none⟩ = some (.string (bs r.2)) := (HW.out.cell (p := ⟨b, off + i * 2 + 1, none⟩) hb).trans a1
        clear a0 a1 hrd
        by_cases h1 : x.1 = r.1
        · by_cases h2 : x.2 = r.2
          · obtain rfl : x = r := Prod.ext h1 h2
            have HX := Lib.hid (HH.out (by simp))
            clear HH HS h1 h2
            go_wp2_with fail
            go_quiet (fail)
            go_wp2_with fail
            go_ret
            rw [HX.out]
            exact ⟨rfl, below_drewN HW.out _⟩
          · have e1 : ((bs x.1).toList == (bs r.1).toList) = true := by rw [h1]; simp
            have e2 : ((bs x.2).toList == (bs r.2).toList) = false := by rw [Lib.toList_data, Lib.toList_data, bs_list, bs_list]; exact beq_eq_false_iff_ne.2 h2
            have HX := Lib.hid (HS.out (by cases x; cases r; simp at h2 ⊢; exact fun _ => h2))
            clear HH HS h1 h2
            go_wp2_with fail
            go_quiet (fail)
            go_wp2_with fail
            go_roundg (l.length - (i + 1))
            case measure => have := HG.out; omega
            case rel => exact ⟨i + 1, by go_num, by omega, by omega, below_drewN HW.out _, HK.out.drewN _, Lib.hid HX.out⟩
        · have e1 : ((bs x.1).toList == (bs r.1).toList) = false := by rw [Lib.toList_data, Lib.toList_data, bs_list, bs_list]; exact beq_eq_false_iff_ne.2 h1
          have HX := Lib.hid (HS.out (by cases x; cases r; simp at h1 ⊢; exact fun h => absurd h h1))
          clear HH HS h1
          go_wp2_with fail
          go_quiet (fail)
          go_wp2_with fail
          go_roundg (l.length - (i + 1))
          case measure => have := HG.out; omega
          case rel => exact ⟨i + 1, by go_num, by omega, by omega, below_drewN HW.out _, HK.out.drewN _, Lib.hid HX.out⟩
      · have hii : (l.length : Int) ≤ i := by omega
        go_wp2_with fail
        go_ret
        exact ⟨by rw [idxP_miss (fun j hj => HN.out j hj (by omega))]; rfl, HW.out⟩

set_option maxRecDepth 100000 in
theorem contains_pair {w : World} {v : Value} {l : List Px.Rec} (h : PairsIn w v l) (x : Px.Rec) (hl : l.length ≤ 1000000) :
    Calls Tryd.prog 27 #[v, .agg #[.string (bs x.1), .string (bs x.2)]] w fun e w' => e = .returned (.bool (l.any fun r => x == r)) ∧ Below w.heap.size w w' := by
  have hB0 := (Below.refl _ w).alloc (Nat.le_refl _) (.cells #[.string (bs x.1), .string (bs x.2)] 32)
  have IX := Lib.hid (index_pair (h.below hB0) x hl)
  have B0 := Lib.hid hB0
  have HA := Lib.hid (idxP_any (fun r => x == r) l)
  obtain ⟨K, hK⟩ : ∃ K, K = idxP (fun r => x == r) l := ⟨_, rfl⟩
  rw [← hK] at IX HA
  clear h hK hB0
  go_enter Tryd.func27, Tryd.ntmps27
  go_wp2_with fail
  refine IX.out.mono ?_
  rintro e w1 ⟨rfl, h1⟩
  have B1 := Lib.hid (thenB B0.out h1)
  clear h1
  go_wp2_with fail
  go_ret
  exact ⟨by have := HA.out; simp_all, B1.out⟩

end Go.Proofs.YtjafjhhmjfpmoaaDoor
