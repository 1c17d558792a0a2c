/-
  (*Tree).Do.
-/
import Derived.Test.YtehooifcgfkngaaDoorTreeL
namespace Go.Proofs.YtehooifcgfkngaaDoor
open Go.RowKit Go.Maps Tre

theorem Turned.from {w w1 w' : World} {g : Nat} {on of : Option Nat} {t t' : T} (h : TreeAt w g on of t) (hb : Below w.heap.size w w1) (k : Turned w1 g on of t' w') : Turned w g on of t' w' := by
  obtain ⟨on', of', h1, h2, h3⟩ := k
  refine ⟨on', of', h1, fun b hb' => (h2 b hb').imp id fun h => Nat.le_trans hb.size h, (Kept.of_below hb).trans h3⟩


set_option maxRecDepth 100000 in
set_option maxHeartbeats 4000000 in
theorem do_make {w : World} {g : Nat} {on of : Option Nat} {t : T} (h : TreeAt w g on of t) (ht : Std t) (hx : t.nx ≤ 100000) (hm : ML w) (x : Deed) (hk : x.node.kind ≤ 255) (h1 : x.name.length ≤ 10000) (h2 : x.to.length ≤ 10000) (h3 : x.node.link.length ≤ 10000) (h4 : x.node.data.length ≤ 10000) (hw : x.what = 1) :
    Calls Tryd.prog 17 #[.pointer (some ⟨g, 0, none⟩), dv x] w fun e w' => e = .returned (errV (act t x).2) ∧ Turned w g on of (act t x).1 w' := by
  have hb0 : Below w.heap.size w (w.alloc (.cells (dvc x) 43)) := (Below.refl _ _).alloc (Nat.le_refl _) _
  have HT := Lib.hid h
  have HB0 := Lib.hid hb0
  have CL := Lib.hid (create_any (h.below hb0) ht hx (hm.below hb0) x hk h1 h3 h4)
  have e : act t x = create t x := by unfold act; rw [if_pos hw]
  rw [e]
  obtain ⟨C, hC⟩ : ∃ C, C = create t x := ⟨_, rfl⟩
  rw [← hC] at CL ⊢
  unfold dv dvc at CL ⊢
  unfold dvc at HB0
  clear e h ht hm hb0 hC
  obtain ⟨what, name, dest, n, node⟩ := x
  obtain ⟨n0, n1, n2, n3, n4, n5, n6, n7, n8, n9⟩ := node
  simp only at hw CL HB0 ⊢
  subst hw
  go_enter Tryd.func17, Tryd.ntmps17
  go_wp2_with fail
  refine (of_any g _ (HT.out.below HB0.out).blk).mono ?_
  rintro e w' ⟨rfl, hw'⟩
  subst w'
  go_wp2_with fail
  refine CL.out.mono ?_
  rintro e w2 ⟨rfl, k⟩
  have K := Lib.hid (Turned.from HT.out HB0.out k)
  clear k
  go_wp2_with fail
  go_ret
  exact ⟨rfl, K.out⟩

set_option maxRecDepth 100000 in
set_option maxHeartbeats 4000000 in
theorem do_wild {w : World} {g : Nat} {on of : Option Nat} {t : T} (h : TreeAt w g on of t) (ht : Std t) (hx : t.nx ≤ 100000) (hm : ML w) (x : Deed) (hk : x.node.kind ≤ 255) (h1 : x.name.length ≤ 10000) (h2 : x.to.length ≤ 10000) (h3 : x.node.link.length ≤ 10000) (h4 : x.node.data.length ≤ 10000) (hw : x.what < 1 ∨ 8 < x.what) :
    Calls Tryd.prog 17 #[.pointer (some ⟨g, 0, none⟩), dv x] w fun e w' => e = .returned (errV (act t x).2) ∧ Turned w g on of (act t x).1 w' := by
  have hb0 : Below w.heap.size w (w.alloc (.cells (dvc x) 43)) := (Below.refl _ _).alloc (Nat.le_refl _) _
  have HT := Lib.hid h
  have HB0 := Lib.hid hb0
  have e : act t x = (t, 1) := by unfold act; rw [if_neg (by omega), if_pos hw]
  rw [e]
  unfold dv dvc
  unfold dvc at HB0
  clear e h ht hm hb0
  obtain ⟨what, name, dest, n, node⟩ := x
  obtain ⟨n0, n1, n2, n3, n4, n5, n6, n7, n8, n9⟩ := node
  simp only at hw HB0 ⊢
  have q1 : ((what : Int) == 1) = false := beq_eq_false_iff_ne.2 (by omega)
  have hways : what < 1 ∨ (¬ what < 1 ∧ 8 < what) := by omega
  clear hw
  rcases hways with p1 | ⟨p1, p2⟩
  all_goals
    go_enter Tryd.func17, Tryd.ntmps17
    go_wp2_with fail
    refine (of_any g _ (HT.out.below HB0.out).blk).mono ?_
    rintro e w' ⟨rfl, hw'⟩
    subst w'
    go_wp2_with fail
    go_ret
    exact ⟨rfl, Turned.still HT.out HB0.out⟩

set_option maxRecDepth 100000 in
set_option maxHeartbeats 4000000 in
theorem do_lacks {w : World} {g : Nat} {on of : Option Nat} {t : T} (h : TreeAt w g on of t) (ht : Std t) (hx : t.nx ≤ 100000) (hm : ML w) (x : Deed) (hk : x.node.kind ≤ 255) (h1 : x.name.length ≤ 10000) (h2 : x.to.length ≤ 10000) (h3 : x.node.link.length ≤ 10000) (h4 : x.node.data.length ≤ 10000) (hw : 2 ≤ x.what ∧ x.what ≤ 8) (hl : Tre.look t.ents x.name = none) :
    Calls Tryd.prog 17 #[.pointer (some ⟨g, 0, none⟩), dv x] w fun e w' => e = .returned (errV (act t x).2) ∧ Turned w g on of (act t x).1 w' := by
  have hb0 : Below w.heap.size w (w.alloc (.cells (dvc x) 43)) := (Below.refl _ _).alloc (Nat.le_refl _) _
  have HT := Lib.hid h
  have HB0 := Lib.hid hb0
  have e : act t x = (t, 7) := by unfold act; rw [if_neg (by omega), if_neg (by omega), hl]
  rw [e]
  have HA := Lib.hid (thas_any (h.below hb0) (bs x.name) (by rw [bs_size]; omega))
  have hh : T.has t (bs x.name).data.toList = false := by rw [bs_list]; unfold T.has; rw [hl]; rfl
  rw [hh] at HA
  unfold dv
  unfold dvc at HA HB0 ⊢
  clear e h ht hm hb0 hh hl
  obtain ⟨what, name, dest, n, node⟩ := x
  obtain ⟨n0, n1, n2, n3, n4, n5, n6, n7, n8, n9⟩ := node
  simp only at hw HB0 HA ⊢
  obtain ⟨hw1, hw2⟩ := hw
  have q1 : ((what : Int) == 1) = false := beq_eq_false_iff_ne.2 (by omega)
  have p1 : ¬ what < 1 := by omega
  have p2 : ¬ 8 < what := by omega
  go_enter Tryd.func17, Tryd.ntmps17
  go_wp2_with fail
  refine (of_any g _ (HT.out.below HB0.out).blk).mono ?_
  rintro e w' ⟨rfl, hw'⟩
  subst w'
  go_wp2_with fail
  refine HA.out.mono ?_
  rintro e w' ⟨rfl, hw'⟩
  subst w'
  go_wp2_with fail
  go_ret
  exact ⟨rfl, Turned.still HT.out HB0.out⟩

set_option maxRecDepth 100000 in
set_option maxHeartbeats 4000000 in
theorem do_w2 {w : World} {g : Nat} {on of : Option Nat} {t : T} (h : TreeAt w g on of t) (ht : Std t) (hx : t.nx ≤ 100000) (hm : ML w) (x : Deed) (hk : x.node.kind ≤ 255) (h1 : x.name.length ≤ 10000) (h2 : x.to.length ≤ 10000) (h3 : x.node.link.length ≤ 10000) (h4 : x.node.data.length ≤ 10000) (hw : x.what = 2) (i : Nat) (hl : Tre.look t.ents x.name = some i) :
    Calls Tryd.prog 17 #[.pointer (some ⟨g, 0, none⟩), dv x] w fun e w' => e = .returned (errV (act t x).2) ∧ Turned w g on of (act t x).1 w' := by
  have hb0 : Below w.heap.size w (w.alloc (.cells (dvc x) 43)) := (Below.refl _ _).alloc (Nat.le_refl _) _
  have HT := Lib.hid h
  have HB0 := Lib.hid hb0
  have CL := Lib.hid (again_tree (h.below hb0) ht hx (hm.below hb0) x i hl h2)
  have e : act t x = again t x i := by unfold act; rw [if_neg (by omega), if_neg (by omega), hl]; simp only; rw [if_pos hw]
  rw [e]
  obtain ⟨C, hC⟩ : ∃ C, C = again t x i := ⟨_, rfl⟩
  rw [← hC] at CL ⊢
  have HA := Lib.hid (thas_any (h.below hb0) (bs x.name) (by rw [bs_size]; omega))
  have hh : T.has t (bs x.name).data.toList = true := by rw [bs_list]; unfold T.has; rw [hl]; rfl
  rw [hh] at HA
  unfold dv dvc at CL ⊢
  unfold dvc at HA HB0
  clear e h ht hm hb0 hC hh hl
  obtain ⟨what, name, dest, n, node⟩ := x
  obtain ⟨n0, n1, n2, n3, n4, n5, n6, n7, n8, n9⟩ := node
  simp only at hw CL HB0 HA ⊢
  subst hw
  go_enter Tryd.func17, Tryd.ntmps17
  go_wp2_with fail
  refine (of_any g _ (HT.out.below HB0.out).blk).mono ?_
  rintro e w' ⟨rfl, hw'⟩
  subst w'
  go_wp2_with fail
  refine HA.out.mono ?_
  rintro e w' ⟨rfl, hw'⟩
  subst w'
  go_wp2_with fail
  refine CL.out.mono ?_
  rintro e w2 ⟨rfl, k⟩
  have K := Lib.hid (Turned.from HT.out HB0.out k)
  clear k
  go_wp2_with fail
  go_ret
  exact ⟨rfl, K.out⟩

set_option maxRecDepth 100000 in
set_option maxHeartbeats 4000000 in
theorem do_w3 {w : World} {g : Nat} {on of : Option Nat} {t : T} (h : TreeAt w g on of t) (ht : Std t) (hx : t.nx ≤ 100000) (hm : ML w) (x : Deed) (hk : x.node.kind ≤ 255) (h1 : x.name.length ≤ 10000) (h2 : x.to.length ≤ 10000) (h3 : x.node.link.length ≤ 10000) (h4 : x.node.data.length ≤ 10000) (hw : x.what = 3) (i : Nat) (hl : Tre.look t.ents x.name = some i) :
    Calls Tryd.prog 17 #[.pointer (some ⟨g, 0, none⟩), dv x] w fun e w' => e = .returned (errV (act t x).2) ∧ Turned w g on of (act t x).1 w' := by
  have hb0 : Below w.heap.size w (w.alloc (.cells (dvc x) 43)) := (Below.refl _ _).alloc (Nat.le_refl _) _
  have HT := Lib.hid h
  have HB0 := Lib.hid hb0
  have CL := Lib.hid (remove_tree (h.below hb0) ht hx (hm.below hb0) x i hl)
  have e : act t x = remove t x i := by unfold act; rw [if_neg (by omega), if_neg (by omega), hl]; simp only; rw [if_neg (by omega), if_pos hw]
  rw [e]
  obtain ⟨C, hC⟩ : ∃ C, C = remove t x i := ⟨_, rfl⟩
  rw [← hC] at CL ⊢
  have HA := Lib.hid (thas_any (h.below hb0) (bs x.name) (by rw [bs_size]; omega))
  have hh : T.has t (bs x.name).data.toList = true := by rw [bs_list]; unfold T.has; rw [hl]; rfl
  rw [hh] at HA
  unfold dv dvc at CL ⊢
  unfold dvc at HA HB0
  clear e h ht hm hb0 hC hh hl
  obtain ⟨what, name, dest, n, node⟩ := x
  obtain ⟨n0, n1, n2, n3, n4, n5, n6, n7, n8, n9⟩ := node
  simp only at hw CL HB0 HA ⊢
  subst hw
  go_enter Tryd.func17, Tryd.ntmps17
  go_wp2_with fail
  refine (of_any g _ (HT.out.below HB0.out).blk).mono ?_
  rintro e w' ⟨rfl, hw'⟩
  subst w'
  go_wp2_with fail
  refine HA.out.mono ?_
  rintro e w' ⟨rfl, hw'⟩
  subst w'
  go_wp2_with fail
  refine CL.out.mono ?_
  rintro e w2 ⟨rfl, k⟩
  have K := Lib.hid (Turned.from HT.out HB0.out k)
  clear k
  go_wp2_with fail
  go_ret
  exact ⟨rfl, K.out⟩

set_option maxRecDepth 100000 in
set_option maxHeartbeats 4000000 in
theorem do_w4 {w : World} {g : Nat} {on of : Option Nat} {t : T} (h : TreeAt w g on of t) (ht : Std t) (hx : t.nx ≤ 100000) (hm : ML w) (x : Deed) (hk : x.node.kind ≤ 255) (h1 : x.name.length ≤ 10000) (h2 : x.to.length ≤ 10000) (h3 : x.node.link.length ≤ 10000) (h4 : x.node.data.length ≤ 10000) (hw : x.what = 4) (i : Nat) (hl : Tre.look t.ents x.name = some i) :
    Calls Tryd.prog 17 #[.pointer (some ⟨g, 0, none⟩), dv x] w fun e w' => e = .returned (errV (act t x).2) ∧ Turned w g on of (act t x).1 w' := by
  have hb0 : Below w.heap.size w (w.alloc (.cells (dvc x) 43)) := (Below.refl _ _).alloc (Nat.le_refl _) _
  have HT := Lib.hid h
  have HB0 := Lib.hid hb0
  have CL := Lib.hid (move_tree (h.below hb0) ht hx (hm.below hb0) x i hl h2)
  have e : act t x = Tre.move t x := by unfold act; rw [if_neg (by omega), if_neg (by omega), hl]; simp only; rw [if_neg (by omega), if_neg (by omega), if_pos hw]
  rw [e]
  obtain ⟨C, hC⟩ : ∃ C, C = Tre.move t x := ⟨_, rfl⟩
  rw [← hC] at CL ⊢
  have HA := Lib.hid (thas_any (h.below hb0) (bs x.name) (by rw [bs_size]; omega))
  have hh : T.has t (bs x.name).data.toList = true := by rw [bs_list]; unfold T.has; rw [hl]; rfl
  rw [hh] at HA
  unfold dv dvc at CL ⊢
  unfold dvc at HA HB0
  clear e h ht hm hb0 hC hh hl
  obtain ⟨what, name, dest, n, node⟩ := x
  obtain ⟨n0, n1, n2, n3, n4, n5, n6, n7, n8, n9⟩ := node
  simp only at hw CL HB0 HA ⊢
  subst hw
  go_enter Tryd.func17, Tryd.ntmps17
  go_wp2_with fail
  refine (of_any g _ (HT.out.below HB0.out).blk).mono ?_
  rintro e w' ⟨rfl, hw'⟩
  subst w'
  go_wp2_with fail
  refine HA.out.mono ?_
  rintro e w' ⟨rfl, hw'⟩
  subst w'
  go_wp2_with fail
  refine CL.out.mono ?_
  rintro e w2 ⟨rfl, k⟩
  have K := Lib.hid (Turned.from HT.out HB0.out k)
  clear k
  go_wp2_with fail
  go_ret
  exact ⟨rfl, K.out⟩

set_option maxRecDepth 100000 in
set_option maxHeartbeats 4000000 in
theorem do_w5 {w : World} {g : Nat} {on of : Option Nat} {t : T} (h : TreeAt w g on of t) (ht : Std t) (hx : t.nx ≤ 100000) (hm : ML w) (x : Deed) (hk : x.node.kind ≤ 255) (h1 : x.name.length ≤ 10000) (h2 : x.to.length ≤ 10000) (h3 : x.node.link.length ≤ 10000) (h4 : x.node.data.length ≤ 10000) (hw : x.what = 5) (i : Nat) (hl : Tre.look t.ents x.name = some i) :
    Calls Tryd.prog 17 #[.pointer (some ⟨g, 0, none⟩), dv x] w fun e w' => e = .returned (errV (act t x).2) ∧ Turned w g on of (act t x).1 w' := by
  have hb0 : Below w.heap.size w (w.alloc (.cells (dvc x) 43)) := (Below.refl _ _).alloc (Nat.le_refl _) _
  have HT := Lib.hid h
  have HB0 := Lib.hid hb0
  have CL := Lib.hid (change_5 (h.below hb0) ht hx x i hl hw h2)
  have e : act t x = change t x i := by unfold act; rw [if_neg (by omega), if_neg (by omega), hl]; simp only; rw [if_neg (by omega), if_neg (by omega), if_neg (by omega)]
  rw [e]
  obtain ⟨C, hC⟩ : ∃ C, C = change t x i := ⟨_, rfl⟩
  rw [← hC] at CL ⊢
  have HA := Lib.hid (thas_any (h.below hb0) (bs x.name) (by rw [bs_size]; omega))
  have hh : T.has t (bs x.name).data.toList = true := by rw [bs_list]; unfold T.has; rw [hl]; rfl
  rw [hh] at HA
  unfold dv dvc at CL ⊢
  unfold dvc at HA HB0
  clear e h ht hm hb0 hC hh hl
  obtain ⟨what, name, dest, n, node⟩ := x
  obtain ⟨n0, n1, n2, n3, n4, n5, n6, n7, n8, n9⟩ := node
  simp only at hw CL HB0 HA ⊢
  subst hw
  go_enter Tryd.func17, Tryd.ntmps17
  go_wp2_with fail
  refine (of_any g _ (HT.out.below HB0.out).blk).mono ?_
  rintro e w' ⟨rfl, hw'⟩
  subst w'
  go_wp2_with fail
  refine HA.out.mono ?_
  rintro e w' ⟨rfl, hw'⟩
  subst w'
  go_wp2_with fail
  refine CL.out.mono ?_
  rintro e w2 ⟨rfl, k⟩
  have K := Lib.hid (Turned.from HT.out HB0.out k)
  clear k
  go_wp2_with fail
  go_ret
  exact ⟨rfl, K.out⟩

set_option maxRecDepth 100000 in
set_option maxHeartbeats 4000000 in
theorem do_w6 {w : World} {g : Nat} {on of : Option Nat} {t : T} (h : TreeAt w g on of t) (ht : Std t) (hx : t.nx ≤ 100000) (hm : ML w) (x : Deed) (hk : x.node.kind ≤ 255) (h1 : x.name.length ≤ 10000) (h2 : x.to.length ≤ 10000) (h3 : x.node.link.length ≤ 10000) (h4 : x.node.data.length ≤ 10000) (hw : x.what = 6) (i : Nat) (hl : Tre.look t.ents x.name = some i) :
    Calls Tryd.prog 17 #[.pointer (some ⟨g, 0, none⟩), dv x] w fun e w' => e = .returned (errV (act t x).2) ∧ Turned w g on of (act t x).1 w' := by
  have hb0 : Below w.heap.size w (w.alloc (.cells (dvc x) 43)) := (Below.refl _ _).alloc (Nat.le_refl _) _
  have HT := Lib.hid h
  have HB0 := Lib.hid hb0
  have CL := Lib.hid (change_6 (h.below hb0) ht hx x i hl hw h2)
  have e : act t x = change t x i := by unfold act; rw [if_neg (by omega), if_neg (by omega), hl]; simp only; rw [if_neg (by omega), if_neg (by omega), if_neg (by omega)]
  rw [e]
  obtain ⟨C, hC⟩ : ∃ C, C = change t x i := ⟨_, rfl⟩
  rw [← hC] at CL ⊢
  have HA := Lib.hid (thas_any (h.below hb0) (bs x.name) (by rw [bs_size]; omega))
  have hh : T.has t (bs x.name).data.toList = true := by rw [bs_list]; unfold T.has; rw [hl]; rfl
  rw [hh] at HA
  unfold dv dvc at CL ⊢
  unfold dvc at HA HB0
  clear e h ht hm hb0 hC hh hl
  obtain ⟨what, name, dest, n, node⟩ := x
  obtain ⟨n0, n1, n2, n3, n4, n5, n6, n7, n8, n9⟩ := node
  simp only at hw CL HB0 HA ⊢
  subst hw
  go_enter Tryd.func17, Tryd.ntmps17
  go_wp2_with fail
  refine (of_any g _ (HT.out.below HB0.out).blk).mono ?_
  rintro e w' ⟨rfl, hw'⟩
  subst w'
  go_wp2_with fail
  refine HA.out.mono ?_
  rintro e w' ⟨rfl, hw'⟩
  subst w'
  go_wp2_with fail
  refine CL.out.mono ?_
  rintro e w2 ⟨rfl, k⟩
  have K := Lib.hid (Turned.from HT.out HB0.out k)
  clear k
  go_wp2_with fail
  go_ret
  exact ⟨rfl, K.out⟩

set_option maxRecDepth 100000 in
set_option maxHeartbeats 4000000 in
theorem do_w7 {w : World} {g : Nat} {on of : Option Nat} {t : T} (h : TreeAt w g on of t) (ht : Std t) (hx : t.nx ≤ 100000) (hm : ML w) (x : Deed) (hk : x.node.kind ≤ 255) (h1 : x.name.length ≤ 10000) (h2 : x.to.length ≤ 10000) (h3 : x.node.link.length ≤ 10000) (h4 : x.node.data.length ≤ 10000) (hw : x.what = 7) (i : Nat) (hl : Tre.look t.ents x.name = some i) :
    Calls Tryd.prog 17 #[.pointer (some ⟨g, 0, none⟩), dv x] w fun e w' => e = .returned (errV (act t x).2) ∧ Turned w g on of (act t x).1 w' := by
  have hb0 : Below w.heap.size w (w.alloc (.cells (dvc x) 43)) := (Below.refl _ _).alloc (Nat.le_refl _) _
  have HT := Lib.hid h
  have HB0 := Lib.hid hb0
  have CL := Lib.hid (change_7 (h.below hb0) ht hx x i hl hw h2)
  have e : act t x = change t x i := by unfold act; rw [if_neg (by omega), if_neg (by omega), hl]; simp only; rw [if_neg (by omega), if_neg (by omega), if_neg (by omega)]
  rw [e]
  obtain ⟨C, hC⟩ : ∃ C, C = change t x i := ⟨_, rfl⟩
  rw [← hC] at CL ⊢
  have HA := Lib.hid (thas_any (h.below hb0) (bs x.name) (by rw [bs_size]; omega))
  have hh : T.has t (bs x.name).data.toList = true := by rw [bs_list]; unfold T.has; rw [hl]; rfl
  rw [hh] at HA
  unfold dv dvc at CL ⊢
  unfold dvc at HA HB0
  clear e h ht hm hb0 hC hh hl
  obtain ⟨what, name, dest, n, node⟩ := x
  obtain ⟨n0, n1, n2, n3, n4, n5, n6, n7, n8, n9⟩ := node
  simp only at hw CL HB0 HA ⊢
  subst hw
  go_enter Tryd.func17, Tryd.ntmps17
  go_wp2_with fail
  refine (of_any g _ (HT.out.below HB0.out).blk).mono ?_
  rintro e w' ⟨rfl, hw'⟩
  subst w'
  go_wp2_with fail
  refine HA.out.mono ?_
  rintro e w' ⟨rfl, hw'⟩
  subst w'
  go_wp2_with fail
  refine CL.out.mono ?_
  rintro e w2 ⟨rfl, k⟩
  have K := Lib.hid (Turned.from HT.out HB0.out k)
  clear k
  go_wp2_with fail
  go_ret
  exact ⟨rfl, K.out⟩

set_option maxRecDepth 100000 in
set_option maxHeartbeats 4000000 in
theorem do_w8 {w : World} {g : Nat} {on of : Option Nat} {t : T} (h : TreeAt w g on of t) (ht : Std t) (hx : t.nx ≤ 100000) (hm : ML w) (x : Deed) (hk : x.node.kind ≤ 255) (h1 : x.name.length ≤ 10000) (h2 : x.to.length ≤ 10000) (h3 : x.node.link.length ≤ 10000) (h4 : x.node.data.length ≤ 10000) (hw : x.what = 8) (i : Nat) (hl : Tre.look t.ents x.name = some i) :
    Calls Tryd.prog 17 #[.pointer (some ⟨g, 0, none⟩), dv x] w fun e w' => e = .returned (errV (act t x).2) ∧ Turned w g on of (act t x).1 w' := by
  have hb0 : Below w.heap.size w (w.alloc (.cells (dvc x) 43)) := (Below.refl _ _).alloc (Nat.le_refl _) _
  have HT := Lib.hid h
  have HB0 := Lib.hid hb0
  have CL := Lib.hid (change_8 (h.below hb0) ht hx x i hl hw h2)
  have e : act t x = change t x i := by unfold act; rw [if_neg (by omega), if_neg (by omega), hl]; simp only; rw [if_neg (by omega), if_neg (by omega), if_neg (by omega)]
  rw [e]
  obtain ⟨C, hC⟩ : ∃ C, C = change t x i := ⟨_, rfl⟩
  rw [← hC] at CL ⊢
  have HA := Lib.hid (thas_any (h.below hb0) (bs x.name) (by rw [bs_size]; omega))
  have hh : T.has t (bs x.name).data.toList = true := by rw [bs_list]; unfold T.has; rw [hl]; rfl
  rw [hh] at HA
  unfold dv dvc at CL ⊢
  unfold dvc at HA HB0
  clear e h ht hm hb0 hC hh hl
  obtain ⟨what, name, dest, n, node⟩ := x
  obtain ⟨n0, n1, n2, n3, n4, n5, n6, n7, n8, n9⟩ := node
  simp only at hw CL HB0 HA ⊢
  subst hw
  go_enter Tryd.func17, Tryd.ntmps17
  go_wp2_with fail
  refine (of_any g _ (HT.out.below HB0.out).blk).mono ?_
  rintro e w' ⟨rfl, hw'⟩
  subst w'
  go_wp2_with fail
  refine HA.out.mono ?_
  rintro e w' ⟨rfl, hw'⟩
  subst w'
  go_wp2_with fail
  refine CL.out.mono ?_
  rintro e w2 ⟨rfl, k⟩
  have K := Lib.hid (Turned.from HT.out HB0.out k)
  clear k
  go_wp2_with fail
  go_ret
  exact ⟨rfl, K.out⟩

theorem do_tree {w : World} {g : Nat} {on of : Option Nat} {t : T} (h : TreeAt w g on of t) (ht : Std t) (hx : t.nx ≤ 100000) (hm : ML w) (x : Deed) (hk : x.node.kind ≤ 255) (h1 : x.name.length ≤ 10000) (h2 : x.to.length ≤ 10000) (h3 : x.node.link.length ≤ 10000) (h4 : x.node.data.length ≤ 10000) :
    Calls Tryd.prog 17 #[.pointer (some ⟨g, 0, none⟩), dv x] w fun e w' => e = .returned (errV (act t x).2) ∧ Turned w g on of (act t x).1 w' := by
  by_cases a1 : x.what = 1
  · exact do_make h ht hx hm x hk h1 h2 h3 h4 a1
  · by_cases a2 : x.what < 1 ∨ 8 < x.what
    · exact do_wild h ht hx hm x hk h1 h2 h3 h4 a2
    · cases hl : Tre.look t.ents x.name with
      | none => exact do_lacks h ht hx hm x hk h1 h2 h3 h4 (by omega) hl
      | some i =>
        rcases (by omega : x.what = 2 ∨ x.what = 3 ∨ x.what = 4 ∨ x.what = 5 ∨ x.what = 6 ∨ x.what = 7 ∨ x.what = 8) with e | e | e | e | e | e | e
        · exact do_w2 h ht hx hm x hk h1 h2 h3 h4 e i hl
        · exact do_w3 h ht hx hm x hk h1 h2 h3 h4 e i hl
        · exact do_w4 h ht hx hm x hk h1 h2 h3 h4 e i hl
        · exact do_w5 h ht hx hm x hk h1 h2 h3 h4 e i hl
        · exact do_w6 h ht hx hm x hk h1 h2 h3 h4 e i hl
        · exact do_w7 h ht hx hm x hk h1 h2 h3 h4 e i hl
        · exact do_w8 h ht hx hm x hk h1 h2 h3 h4 e i hl

end Go.Proofs.YtehooifcgfkngaaDoor
