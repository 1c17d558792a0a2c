/-
  The walk of TreeStands.
-/
import Derived.Test.YtehooifcgfkngaaDoorTreeCopy
import Derived.Test.YtehooifcgfkngaaDoorTreeSame
import Derived.Test.YtehooifcgfkngaaDoorStanding
namespace Go.Proofs.YtehooifcgfkngaaDoor
open Go.RowKit Go.Maps Tre

section
variable {H : Type} {enc : TypeId × Value → H}
set_option maxRecDepth 100000 in
theorem act_open {W : World} {v : Value} {d : DataW H} {ps : List MemPlace} {base : Nat} (hok : Value.okWide Tryd.prog W .any base 43 v)
    (h : DataW.Trod enc Tryd.prog W 0 (fun _ => true) true 43 v d ps) (hz : ∀ n ∈ d.weights Tryd.prog 43, n ≤ reachBytes) : ∃ x : Deed, v = dv x ∧ Fits x := by
  obtain ⟨cs, rfl, hsz⟩ := WideShapes.okWide_struct Tryd.underlying43 hok
  obtain ⟨fuel, hf⟩ := h
  obtain ⟨x, e, e2, hk⟩ := deed_of hf
  simp only at e2
  subst e2
  rw [deed_weights] at hz
  have a1 := hz x.name.length (by simp)
  have a2 := hz x.to.length (by simp)
  have a3 := hz x.node.data.length (by simp)
  have a4 := hz x.node.link.length (by simp)
  unfold reachBytes at a1 a2 a3 a4
  refine ⟨x, ?_, hk, by omega, by omega, by omega, by omega⟩
  unfold dv
  simp only [Value.cells] at e
  rw [Array.toList_inj.1 e]
end

set_option maxRecDepth 100000 in
set_option maxHeartbeats 8000000 in
theorem treeStands_main (v : Value) (l : List Deed) (x : Deed) (w : World) (hD : DeedsIn w v l) (hF : Fits x) (hm : ML w) :
    Calls Tryd.prog 7 #[v, dv x] w fun e w' => e = .returned (.bool true) ∧ Below w.heap.size w w' := by
  have GR := Lib.hid (fun w' (hb : Below w.heap.size w w') => grown_any w' (hm.below hb))
  have PL := Lib.hid (fun w' (hb : Below w.heap.size w w') => planted_any (hD.below hb) (hm.below hb))
  have HM := Lib.hid hm
  have hD2 := hD
  obtain ⟨X, cap, rfl, _⟩ := hD2
  obtain ⟨x0, x1, x2, x3, m0, m1, m2, m3, m4, m5, m6, m7, m8, m9⟩ := x
  obtain ⟨f0, f1, f2, f3, f4⟩ := hF
  simp only at f0 f1 f2 f3 f4
  have b1 : ((bs x1).size : Int) ≤ 140737488351232 := by rw [bs_size]; omega
  have b2 : ((bs x2).size : Int) ≤ 140737488351232 := by rw [bs_size]; omega
  have b3 : ((bs m6).size : Int) ≤ 140737488351232 := by rw [bs_size]; omega
  have b4 : ((bs m7).size : Int) ≤ 140737488351232 := by rw [bs_size]; omega
  unfold dv dvc
  simp only
  clear hD hm f1 f2 f3 f4
  go_enter Tryd.func7, Tryd.ntmps7
  go_wp2_with fail
  refine (GR.out _ ((Below.refl _ _).alloc (Nat.le_refl _) _)).mono ?_
  rintro e w1 ⟨rfl, h1⟩
  have B1 := Lib.hid (thenB ((Below.refl w.heap.size w).alloc (Nat.le_refl _) (.cells #[.int .i64 x0, .string (bs x1), .string (bs x2), .int .i64 x3, .int .u8 m0, .int .i64 m1, .int .i64 m2, .int .i64 m3, .int .i64 m4, .int .i64 m5, .string (bs m6), .string (bs m7), .int .i64 m8, .int .i64 m9] 43)) h1)
  have BK1 := (Blk.new w 43 #[.int .i64 x0, .string (bs x1), .string (bs x2), .int .i64 x3, .int .u8 m0, .int .i64 m1, .int .i64 m2, .int .i64 m3, .int .i64 m4, .int .i64 m5, .string (bs m6), .string (bs m7), .int .i64 m8, .int .i64 m9]).below h1 (by simp)
  have hp1 := BK1.lt
  have BP1 := Lib.hid BK1
  have HP1 := Lib.hid hp1
  clear h1 BK1 hp1
  go_wp2_with fail
  refine (PL.out _ B1.out).mono ?_
  rintro e w2 ⟨h2, ⟨hb, rfl⟩ | ⟨hb, g, on, of, rfl, hT, hO⟩⟩
  · have B2 := Lib.hid (thenB B1.out h2)
    clear h2
    go_wp2_with fail
    go_ret
    exact ⟨rfl, B2.out⟩
  have B2 := Lib.hid (thenB B1.out h2)
  have BK2 := BP1.out.below h2 HP1.out
  have c1 : w2.cell? ⟨w.heap.size, 1, none⟩ = some (.string (bs x1)) := BK2.cell 1
  have c2 : w2.cell? ⟨w.heap.size, 2, none⟩ = some (.string (bs x2)) := BK2.cell 2
  have c10 : w2.cell? ⟨w.heap.size, 10, none⟩ = some (.string (bs m6)) := BK2.cell 10
  have c11 : w2.cell? ⟨w.heap.size, 11, none⟩ = some (.string (bs m7)) := BK2.cell 11
  have BP2 := Lib.hid BK2
  have hl60 := bigL_len hb
  have hnx0 := plant_nx l
  have HS := Lib.hid (plant_std l)
  have HT := Lib.hid hT
  have NP := Lib.hid (fun b (hb : b ∈ own g on of) => (by have := hO b hb; have := HP1.out; omega : w.heap.size ≠ b))
  have HO := Lib.hid (fun b hb => Nat.le_trans B1.out.size (hO b hb))
  obtain ⟨t, ht⟩ : ∃ t, t = plant l := ⟨_, rfl⟩
  rw [← ht] at HT HS hnx0
  have hnx : t.nx ≤ 60 := by omega
  clear h2 hb hT hO ht GR PL hnx0 BK2
  by_cases hbig : 600 < x1.length + x2.length + m7.length
  · have hgi : (600 : Int) < (bs x1).size + (bs x2).size + (bs m7).size := by rw [bs_size, bs_size, bs_size]; omega
    go_wp2_with fail
    go_ret
    exact ⟨rfl, B2.out⟩
  have hgi : ¬ (600 : Int) < (bs x1).size + (bs x2).size + (bs m7).size := by rw [bs_size, bs_size, bs_size]; omega
  by_cases hdat : 1500 < m6.length
  · have hdi : (1500 : Int) < (bs m6).size := by rw [bs_size]; omega
    go_wp2_with fail
    go_ret
    exact ⟨rfl, B2.out⟩
  have hdi : ¬ (1500 : Int) < (bs m6).size := by rw [bs_size]; omega
  have STA := Lib.hid (fun w' (h : TreeAt w' g on of t) (hm : ML w') => standing_any h HS.out (by omega) hm)
  have CPY := Lib.hid (fun w' (h : TreeAt w' g on of t) => copy_any h)
  have D1 := Lib.hid (fun w' (h : TreeAt w' g on of t) (hm : ML w') => do_tree h HS.out (by omega) hm ⟨x0, x1, x2, x3, m0, m1, m2, m3, m4, m5, m6, m7, m8, m9⟩ f0 (by simp only; omega) (by simp only; omega) (by simp only; omega) (by simp only; omega))
  obtain ⟨C, hC⟩ : ∃ C, C = act t ⟨x0, x1, x2, x3, m0, m1, m2, m3, m4, m5, m6, m7, m8, m9⟩ := ⟨_, rfl⟩
  rw [← hC] at D1
  have S1 := Lib.hid (show Std C.1 by rw [hC]; exact HS.out.act _)
  have x1' : C.1.nx ≤ t.nx + 1 := by rw [hC]; exact (act_nx t _).1
  have STC := Lib.hid (fun w' n f (h : TreeAt w' g n f C.1) (hm : ML w') => standing_any h S1.out (by omega) hm)
  have ERR1 := Lib.hid (fun (h : C.2 ≠ 0) => (show C.1 = t by rw [hC] at h ⊢; exact act_err h))
  have SELF := Lib.hid (same_self HS.out.nd)
  have SAME := Lib.hid (fun w' g1 n1 f1 g2 n2 f2 (h1 : TreeAt w' g1 n1 f1 t) (h2 : TreeAt w' g2 n2 f2 t) => same_any h1 h2 HS.out HS.out (by omega) (by omega) true ⟨fun _ => SELF.out, fun _ => rfl⟩)
  unfold dv dvc at D1
  simp only at D1
  clear hC x1' f0
  go_wp2_with fail
  refine (STA.out _ HT.out (HM.out.below B2.out)).mono ?_
  rintro e w3 ⟨rfl, h3⟩
  have B3 := Lib.hid (thenB B2.out h3)
  have T3 := Lib.hid (HT.out.below h3)
  have BP3 := Lib.hid (BP2.out.below h3 BP2.out.lt)
  clear h3 c1 c2 c10 c11
  go_wp2_with fail
  refine (CPY.out _ T3.out).mono ?_
  rintro e w4 ⟨g', o1, o2, rfl, hcp, hfr, h4⟩
  have T4 := Lib.hid (T3.out.below h4)
  have U4 := Lib.hid hcp
  have B4 := Lib.hid (thenB B3.out h4)
  have BP4 := Lib.hid (BP3.out.below h4 BP3.out.lt)
  have NE4 := Lib.hid (fun b (hb : b ∈ own g' o1 o2) (hn : b ∈ own g on of) => (by have := hfr b hb; have := T3.out.lt b hn; omega : False))
  clear hcp hfr h4 CPY
  go_wp2_with fail
  refine (SAME.out _ _ _ _ _ _ _ U4.out T4.out).mono ?_
  rintro e w5 ⟨rfl, h5⟩
  have T5 := Lib.hid (T4.out.below h5)
  have U5 := Lib.hid (U4.out.below h5)
  have B5 := Lib.hid (thenB B4.out h5)
  have BP5 := Lib.hid (BP4.out.below h5 BP4.out.lt)
  clear h5
  go_wp2_with fail
  refine (SAME.out _ _ _ _ _ _ _ T5.out U5.out).mono ?_
  rintro e w6 ⟨rfl, h6⟩
  have T6 := Lib.hid (T5.out.below h6)
  have U6 := Lib.hid (U5.out.below h6)
  have B6 := Lib.hid (thenB B5.out h6)
  have BK6 := BP5.out.below h6 BP5.out.lt
  have c0 : w6.cell? ⟨w.heap.size, 0, none⟩ = some (.int .i64 x0) := BK6.cell 0
  have c1 : w6.cell? ⟨w.heap.size, 1, none⟩ = some (.string (bs x1)) := BK6.cell 1
  have c2 : w6.cell? ⟨w.heap.size, 2, none⟩ = some (.string (bs x2)) := BK6.cell 2
  have c3 : w6.cell? ⟨w.heap.size, 3, none⟩ = some (.int .i64 x3) := BK6.cell 3
  have c4 : w6.cell? ⟨w.heap.size, 4, none⟩ = some (.int .u8 m0) := BK6.cell 4
  have c5 : w6.cell? ⟨w.heap.size, 5, none⟩ = some (.int .i64 m1) := BK6.cell 5
  have c6 : w6.cell? ⟨w.heap.size, 6, none⟩ = some (.int .i64 m2) := BK6.cell 6
  have c7 : w6.cell? ⟨w.heap.size, 7, none⟩ = some (.int .i64 m3) := BK6.cell 7
  have c8 : w6.cell? ⟨w.heap.size, 8, none⟩ = some (.int .i64 m4) := BK6.cell 8
  have c9 : w6.cell? ⟨w.heap.size, 9, none⟩ = some (.int .i64 m5) := BK6.cell 9
  have c10 : w6.cell? ⟨w.heap.size, 10, none⟩ = some (.string (bs m6)) := BK6.cell 10
  have c11 : w6.cell? ⟨w.heap.size, 11, none⟩ = some (.string (bs m7)) := BK6.cell 11
  have c12 : w6.cell? ⟨w.heap.size, 12, none⟩ = some (.int .i64 m8) := BK6.cell 12
  have c13 : w6.cell? ⟨w.heap.size, 13, none⟩ = some (.int .i64 m9) := BK6.cell 13
  have cl := BK6.lt
  clear h6 BK6
  go_wp2_with fail
  refine (D1.out _ T6.out (HM.out.below B6.out)).mono ?_
  rintro e w7 ⟨rfl, n1, f1, k1, k2, k3⟩
  have OW6 : ∀ b ∈ own g on of, w.heap.size ≤ b := HO.out
  have U7 := Lib.hid (U6.out.kept k3.size (fun b hb => k3.block b (U6.out.lt b hb) (fun hn => NE4.out b hb hn)))
  have B7 := Lib.hid (B6.out.trans (k3.down OW6 B6.out.size))
  have T7 := Lib.hid k1
  clear k1 k2 k3 OW6 c0 c1 c2 c3 c4 c5 c6 c7 c8 c9 c10 c11 c12 c13 cl D1
  go_wp2_with fail
  refine (STC.out _ _ _ T7.out (HM.out.below B7.out)).mono ?_
  rintro e w8 ⟨rfl, h8⟩
  have B8 := Lib.hid (thenB B7.out h8)
  have T8 := T7.out.below h8
  have U8 := Lib.hid (U7.out.below h8)
  clear h8
  by_cases h0 : C.2 = 0
  · have e1 : errV C.2 = .nilIface := by rw [h0]; rfl
    rw [e1]
    clear e1
    go_wp2_with fail
    go_ret
    exact ⟨rfl, B8.out⟩
  · have e1 : errV C.2 = .iface 67 (.int .i64 C.2) := if_neg h0
    rw [e1]
    rw [ERR1.out h0] at T8
    have T8' := Lib.hid T8
    clear e1 T8
    go_wp2_with fail
    refine (SAME.out _ _ _ _ _ _ _ T8'.out U8.out).mono ?_
    rintro e w9 ⟨rfl, h9⟩
    go_wp2_with fail
    go_ret
    exact ⟨rfl, thenB B8.out h9⟩

set_option maxRecDepth 100000 in
theorem treeStands_walk {H : Type} {enc : TypeId × Value → H} {w : World} {d d1 : DataW H} {ps ps1 : List MemPlace} {base : Nat} (v : Value) (hok : Value.okWide Tryd.prog w .any base 22 v)
    (h : DataW.Trod enc Tryd.prog w 0 (fun _ => true) true 22 v d ps) (hz : ∀ n ∈ d.weights Tryd.prog 22, n ≤ reachBytes)
    (v1 : Value) (hok1 : Value.okWide Tryd.prog w .any base 43 v1) (h1 : DataW.Trod enc Tryd.prog w 0 (fun _ => true) true 43 v1 d1 ps1) (hz1 : ∀ n ∈ d1.weights Tryd.prog 43, n ≤ reachBytes) (hsh : ML w) :
    Calls Tryd.prog 7 #[v, v1] w fun e w' => e = .returned (.bool true) ∧ Below w.heap.size w w' := by
  obtain ⟨l, hl⟩ := deeds_of hok h hz
  obtain ⟨x, rfl, hx⟩ := act_open hok1 h1 hz1
  exact treeStands_main v l x w hl hx hsh

end Go.Proofs.YtehooifcgfkngaaDoor
