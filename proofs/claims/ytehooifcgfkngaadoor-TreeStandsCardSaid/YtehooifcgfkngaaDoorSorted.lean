/-
  slices.IsSortedFunc at names that are in their order.
-/
import Derived.Test.YtehooifcgfkngaaDoorTreeR
import Derived.Deep.RegionHeld3
import Derived.BigRegion
namespace Go.Proofs.YtehooifcgfkngaaDoor
open Go.RowKit Go.Maps Tre

theorem keep2 {w w' : World} {b i j : Nat} {u v : Value} (hb : b < w.heap.size) (h1 : w.cell? ⟨b, i, none⟩ = some u) (h2 : w.cell? ⟨b, j, none⟩ = some v) (h : Below w.heap.size w w') :
    w'.cell? ⟨b, i, none⟩ = some u ∧ w'.cell? ⟨b, j, none⟩ = some v ∧ Below w.heap.size w w' :=
  ⟨(h.cell (p := ⟨b, i, none⟩) hb).trans h1, (h.cell (p := ⟨b, j, none⟩) hb).trans h2, h⟩

set_option maxRecDepth 100000 in
set_option maxHeartbeats 4000000 in
theorem sorted_names {w : World} {B : Nat} {v : Value} {l : List Pth.Bs} (h : HasS w B v l) (hl : l.length ≤ 60) (hm : ML w) (hz : ∀ s ∈ l, s.length ≤ 1000) (hs : l.Pairwise fun a b => Pth.cmp (Pth.parts a) (Pth.parts b) ≤ 0) :
    Calls Tryd.prog 39 #[v, .func (.func 28) #[] #[]] w fun e w' => e = .returned (.bool true) ∧ Below w.heap.size w w' := by
  rcases h.ways with ⟨A, c3, rfl, rfl⟩ | ⟨b, off, c3, rfl, _, _, hb, hpos, hrow⟩
  · go_enter Tryd.func39, Tryd.ntmps39
    go_wp2_with fail
    refine wp_loop_rounds 1 ?_
    rw [rounds_succ]
    go_wp2_with fail
    go_ret
    exact ⟨rfl, Below.refl _ _⟩
  · have HR := Lib.hid hrow
    have HS := Lib.hid hs
    have HZ := Lib.hid hz
    have HM := Lib.hid hm
    have hli : (l.length : Int) ≤ 60 := by omega
    clear hrow hs hz hm h
    go_enter Tryd.func39, Tryd.ntmps39
    go_wp2_with fail
    go_loopg [5] (l.length) (fun gg iv wr => ∃ i : Int, iv = .int .i64 i ∧ i < l.length ∧ -1 ≤ i ∧ gg = (i + 1).toNat ∧ Below w.heap.size w wr)
    case atStart => exact ⟨(l.length : Int) - 1, by go_num, by omega, by omega, by omega, Below.refl _ _⟩
    case round =>
      obtain ⟨i, rfl, hi, hi1, hgg, hbw⟩ := hrel
      have HG := Lib.hid hgg
      have HW := Lib.hid hbw
      clear hgg hbw
      by_cases h0 : 0 < i
      · obtain ⟨k, hk⟩ : ∃ k : Nat, i = (k : Int) + 1 := ⟨(i - 1).toNat, by omega⟩
        have hk1 : k + 1 < l.length := by omega
        have a0 := HR.out (k + 1) hk1
        have b0 := HR.out k (by omega)
        have hcmp : ¬ Pth.cmp (Pth.parts l[k + 1]) (Pth.parts l[k]) < 0 := fun hc => by
          have h2 := List.pairwise_iff_getElem.1 HS.out k (k + 1) (by omega) hk1 (by omega)
          have h3 := (Pth.cmp_anti _ _).1 hc
          omega
        have hzx := HZ.out l[k + 1] (List.getElem_mem hk1)
        have hzy := HZ.out l[k] (List.getElem_mem (by omega))
        obtain ⟨x, hx⟩ : ∃ x, x = l[k + 1] := ⟨_, rfl⟩
        obtain ⟨y, hy⟩ : ∃ y, y = l[k] := ⟨_, rfl⟩
        rw [← hx] at a0 hcmp hzx
        rw [← hy] at b0 hcmp hzy
        have c0 : wr.cell? ⟨b, off + (k + 1), none⟩ = some (.string (bs x)) := (HW.out.cell (p := ⟨b, off + (k + 1), none⟩) hb).trans a0
        have d0 : wr.cell? ⟨b, off + k, none⟩ = some (.string (bs y)) := (HW.out.cell (p := ⟨b, off + k, none⟩) hb).trans b0
        have CM := Lib.hid (fun w' (h : Below wr.heap.size wr w') => order_any (bs x) (bs y) w' (by rw [bs_size]; omega) (by rw [bs_size]; omega) (HM.out.below (HW.out.trans (h.mono HW.out.size))))
        rw [bs_list, bs_list] at CM
        obtain ⟨C, hC⟩ : ∃ C, C = Pth.cmp (Pth.parts x) (Pth.parts y) := ⟨_, rfl⟩
        rw [← hC] at CM hcmp
        have n1 : i.toNat = k + 1 := by omega
        have n2 : (i - 1).toNat = k := by omega
        have n3 : 0 ≤ C := by omega
        have n4 : decide (C < 0) = false := decide_eq_false (by omega)
        have m1 : (0 : Int) ≤ i - 1 := by omega
        have m2 : i - 1 < (l.length : Int) := by omega
        have m4 : (0 : Int) ≤ i := by omega
        have m5 : i ≤ 1000000 := by omega
        have m6 : 1 ≤ i := by omega
        have m9 : IntKind.i64.wrap (i - 1) = i - 1 := IntWalk.i64_in _ (by omega)
        have m7 : i ≤ (l.length : Int) := by omega
        have m8 : i < (l.length : Int) + 1 := by omega
        have KI := Lib.hid hk
        have bw := Below.refl wr.heap.size wr
        have hbr : b < wr.heap.size := Nat.lt_of_lt_of_le hb HW.out.size
        have KP := Lib.hid (fun w' (h : Below wr.heap.size wr w') => keep2 hbr c0 d0 h)
        clear a0 b0 hx hy hC hk
        go_wp2_with fail
        go_region_held3 (fun w' => w'.cell? ⟨b, off + (k + 1), none⟩ = some (.string (bs x)) ∧ w'.cell? ⟨b, off + k, none⟩ = some (.string (bs y)) ∧ Below wr.heap.size wr w')
          (first | (go_split_ands; refine KP.out _ ?_; first | with_reducible assumption | with_reducible exact Below.drew bw | with_reducible exact thenB (by assumption) TT))
          (first | (go_at_call 28; go_split_ands; refine (CM.out _ (by with_reducible assumption)).mono ?_; rintro e wt ⟨rfl, TT⟩; have TB : Below wr.heap.size wr wt := (by with_reducible exact thenB (by assumption) TT)))
        all_goals go_wp2_with fail
        all_goals go_roundg (k + 1)
        case measure => have := HG.out; have := KI.out; omega
        case rel => exact ⟨i - 1, by go_num, by omega, by omega, by have := KI.out; omega, HW.out.trans (TB.mono HW.out.size)⟩
      · have h0' : i ≤ 0 := by omega
        go_wp2_with fail
        go_ret
        exact ⟨rfl, HW.out⟩

end Go.Proofs.YtehooifcgfkngaaDoor
