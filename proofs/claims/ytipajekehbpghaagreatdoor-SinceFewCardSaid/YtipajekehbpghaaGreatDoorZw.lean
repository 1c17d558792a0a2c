/-
  same: a member and itself, wherever they lie; all: lists of the same members.
-/
import Derived.Test.YtipajekehbpghaaGreatDoorZr
import Derived.Test.YtipajekehbpghaaGreatDoorZl
import Derived.Test.YtipajekehbpghaaGreatDoorZq
set_option linter.unusedVariables false
set_option linter.unusedSimpArgs false

namespace Go.Proofs.YtipajekehbpghaaGreatDoor
open Go.RowKit Go.Maps Tre Pk

theorem piece_neq (w : World) (a b : Int) : (binOp .neq 107 (.agg #[.int .i64 a, .int .i64 b]) (.agg #[.int .i64 a, .int .i64 b])).run Tryz.prog w = .ok (.bool false) w := by
  have h1 := Tryz.underlying3
  have h5 : Tryz.prog.stoodInHeld 107 = false := by kernel_rfl
  rw [run_neq_struct, run_equalIn_agg w 9999 107 _ _ (by kernel_rfl) (by kernel_rfl)]
  simp [go_sem, h1, h5]
theorem time_same (w : World) (a b : Int) : (binOp .eql 31 (.agg #[.int .i64 a, .int .i64 b]) (.agg #[.int .i64 a, .int .i64 b])).run Tryz.prog w = .ok (.bool true) w := by
  have h1 := Tryz.underlying3
  have h5 : Tryz.prog.stoodInHeld 31 = false := by kernel_rfl
  rw [run_eql_struct, run_equalIn_agg w 9999 31 _ _ (by kernel_rfl) (by kernel_rfl)]
  simp [go_sem, h1, h5]

set_option maxRecDepth 100000 in
set_option maxHeartbeats 2000000 in
theorem eqP_same (l : List (Int × Int)) (m1 m2 : Value) (w : World) (h1 : Pcs w m1 l) (h2 : Pcs w m2 l) (hl : l.length ≤ 1000) :
    Calls Tryz.prog 81 #[m1, m2] w fun e w' => e = .returned (.bool true) ∧ Below w.heap.size w w' := by
  obtain ⟨A1, k1, rfl, r1⟩ := h1
  obtain ⟨A2, k2, rfl, r2⟩ := h2
  have R1 := Lib.hid r1
  have R2 := Lib.hid r2
  have hli : (l.length : Int) ≤ 1000 := by omega
  clear r1 r2
  go_enter Tryz.func81, Tryz.ntmps81
  go_wp2_with fail
  go_loopg [13] (l.length) (fun g iv wr => ∃ i : Nat, iv = .int .i64 i ∧ i ≤ l.length ∧ g = l.length - i ∧ Below w.heap.size w wr)
  case atStart => exact ⟨0, rfl, by omega, by omega, Below.refl _ _⟩
  case round =>
    obtain ⟨i, rfl, hi, hg, hbw⟩ := hrel
    have HW := Lib.hid hbw
    have HG := Lib.hid hg
    clear hbw hg
    by_cases hil : i < l.length
    · have hii : (i : Int) < l.length := by omega
      have hi0 : (0 : Int) ≤ i := by omega
      obtain ⟨b1, o1, e1, hb1, k0, k1⟩ := R1.out i hil
      obtain ⟨b2, o2, e2, hb2, m0, m1⟩ := R2.out i hil
      obtain ⟨r, hrd⟩ : ∃ r, r = l[i] := ⟨_, rfl⟩
      rw [← hrd] at k0 k1 m0 m1
      subst e1 e2
      have d0 : wr.cell? ⟨b1, o1 + i * 2, none⟩ = some (.int .i64 r.1) := (HW.out.cell (p := ⟨b1, o1 + i * 2, none⟩) hb1).trans k0
      have d1 : wr.cell? ⟨b1, o1 + i * 2 + 1, none⟩ = some (.int .i64 r.2) := (HW.out.cell (p := ⟨b1, o1 + i * 2 + 1, none⟩) hb1).trans k1
      have e0 : wr.cell? ⟨b2, o2 + i * 2, none⟩ = some (.int .i64 r.1) := (HW.out.cell (p := ⟨b2, o2 + i * 2, none⟩) hb2).trans m0
      have e1 : wr.cell? ⟨b2, o2 + i * 2 + 1, none⟩ = some (.int .i64 r.2) := (HW.out.cell (p := ⟨b2, o2 + i * 2 + 1, none⟩) hb2).trans m1
      have hq := fun w => piece_neq w r.1 r.2
      clear k0 k1 m0 m1 hrd
      go_wp2_with fail
      go_quiet (fail)
      go_wp2_with fail
      go_roundg (l.length - (i + 1))
      case measure => have := HG.out; omega
      case rel => exact ⟨i + 1, by go_num, by omega, by omega, below_drewN HW.out _⟩
    · have hii : (l.length : Int) ≤ i := by omega
      go_wp2_with fail
      go_ret
      exact ⟨rfl, HW.out⟩

set_option maxRecDepth 100000 in
set_option maxHeartbeats 8000000 in
theorem sameE_any (e : Ent) (m1 m2 : Value) (w : World) (h1 : Pcs w m1 e.map) (h2 : Pcs w m2 e.map) (hl : e.map.length ≤ 1000) :
    Calls Tryz.prog 36 #[ev e m1, ev e m2] w fun r w' => r = .returned (.bool true) ∧ Below w.heap.size w w' := by
  obtain ⟨W, hW⟩ : ∃ W, W = (w.alloc (.cells #[.string (bs e.name), .int .u8 e.kind, .int .i64 e.mode, .int .i64 e.uid, .int .i64 e.gid, .int .i64 e.size, .int .i64 e.sec, .int .i64 e.nano, .string (bs e.link), .string (bs e.user), .string (bs e.group), .int .i64 e.major, .int .i64 e.minor, .string (bs e.data), m1] 40)).alloc (.cells #[.string (bs e.name), .int .u8 e.kind, .int .i64 e.mode, .int .i64 e.uid, .int .i64 e.gid, .int .i64 e.size, .int .i64 e.sec, .int .i64 e.nano, .string (bs e.link), .string (bs e.user), .string (bs e.group), .int .i64 e.major, .int .i64 e.minor, .string (bs e.data), m2] 40) := ⟨_, rfl⟩
  have HB0 := Lib.hid (show Below w.heap.size w W by rw [hW]; exact ((Below.refl _ _).alloc (Nat.le_refl _) _).alloc (by simp) _)
  have K1 := Lib.hid (show Blk W w.heap.size 40 #[.string (bs e.name), .int .u8 e.kind, .int .i64 e.mode, .int .i64 e.uid, .int .i64 e.gid, .int .i64 e.size, .int .i64 e.sec, .int .i64 e.nano, .string (bs e.link), .string (bs e.user), .string (bs e.group), .int .i64 e.major, .int .i64 e.minor, .string (bs e.data), m1] by rw [hW]; exact (Blk.new w 40 _).alloc _)
  have K2 := Lib.hid (show Blk W (w.heap.size + 1) 40 #[.string (bs e.name), .int .u8 e.kind, .int .i64 e.mode, .int .i64 e.uid, .int .i64 e.gid, .int .i64 e.size, .int .i64 e.sec, .int .i64 e.nano, .string (bs e.link), .string (bs e.user), .string (bs e.group), .int .i64 e.major, .int .i64 e.minor, .string (bs e.data), m2] by
    have := Blk.new (w.alloc (.cells #[.string (bs e.name), .int .u8 e.kind, .int .i64 e.mode, .int .i64 e.uid, .int .i64 e.gid, .int .i64 e.size, .int .i64 e.sec, .int .i64 e.nano, .string (bs e.link), .string (bs e.user), .string (bs e.group), .int .i64 e.major, .int .i64 e.minor, .string (bs e.data), m1] 40)) 40 #[.string (bs e.name), .int .u8 e.kind, .int .i64 e.mode, .int .i64 e.uid, .int .i64 e.gid, .int .i64 e.size, .int .i64 e.sec, .int .i64 e.nano, .string (bs e.link), .string (bs e.user), .string (bs e.group), .int .i64 e.major, .int .i64 e.minor, .string (bs e.data), m2]
    rw [show (w.alloc (.cells #[.string (bs e.name), .int .u8 e.kind, .int .i64 e.mode, .int .i64 e.uid, .int .i64 e.gid, .int .i64 e.size, .int .i64 e.sec, .int .i64 e.nano, .string (bs e.link), .string (bs e.user), .string (bs e.group), .int .i64 e.major, .int .i64 e.minor, .string (bs e.data), m1] 40)).heap.size = w.heap.size + 1 by simp] at this
    rw [hW]; exact this)
  have EP := Lib.hid (eqP_same e.map m1 m2 W (h1.below HB0.out) (h2.below HB0.out) hl)
  have HW := Lib.hid hW
  have l1 := K1.out.lt
  have l2 := K2.out.lt
  obtain ⟨A1, k1, rfl, _⟩ := h1
  obtain ⟨A2, k2, rfl, _⟩ := h2
  have c0 : W.cell? ⟨w.heap.size, 0, none⟩ = some (.string (bs e.name)) := K1.out.cell 0; have c1 : W.cell? ⟨w.heap.size, 1, none⟩ = some (.int .u8 e.kind) := K1.out.cell 1; have c2 : W.cell? ⟨w.heap.size, 2, none⟩ = some (.int .i64 e.mode) := K1.out.cell 2; have c3 : W.cell? ⟨w.heap.size, 3, none⟩ = some (.int .i64 e.uid) := K1.out.cell 3; have c4 : W.cell? ⟨w.heap.size, 4, none⟩ = some (.int .i64 e.gid) := K1.out.cell 4; have c5 : W.cell? ⟨w.heap.size, 5, none⟩ = some (.int .i64 e.size) := K1.out.cell 5; have c6 : W.cell? ⟨w.heap.size, 6, none⟩ = some (.int .i64 e.sec) := K1.out.cell 6; have c7 : W.cell? ⟨w.heap.size, 7, none⟩ = some (.int .i64 e.nano) := K1.out.cell 7; have c8 : W.cell? ⟨w.heap.size, 8, none⟩ = some (.string (bs e.link)) := K1.out.cell 8; have c9 : W.cell? ⟨w.heap.size, 9, none⟩ = some (.string (bs e.user)) := K1.out.cell 9; have c10 : W.cell? ⟨w.heap.size, 10, none⟩ = some (.string (bs e.group)) := K1.out.cell 10; have c11 : W.cell? ⟨w.heap.size, 11, none⟩ = some (.int .i64 e.major) := K1.out.cell 11; have c12 : W.cell? ⟨w.heap.size, 12, none⟩ = some (.int .i64 e.minor) := K1.out.cell 12; have c13 : W.cell? ⟨w.heap.size, 13, none⟩ = some (.string (bs e.data)) := K1.out.cell 13; have c14 : W.cell? ⟨w.heap.size, 14, none⟩ = some (.slice A1 e.map.length k1) := K1.out.cell 14
  have d0 : W.cell? ⟨w.heap.size + 1, 0, none⟩ = some (.string (bs e.name)) := K2.out.cell 0; have d1 : W.cell? ⟨w.heap.size + 1, 1, none⟩ = some (.int .u8 e.kind) := K2.out.cell 1; have d2 : W.cell? ⟨w.heap.size + 1, 2, none⟩ = some (.int .i64 e.mode) := K2.out.cell 2; have d3 : W.cell? ⟨w.heap.size + 1, 3, none⟩ = some (.int .i64 e.uid) := K2.out.cell 3; have d4 : W.cell? ⟨w.heap.size + 1, 4, none⟩ = some (.int .i64 e.gid) := K2.out.cell 4; have d5 : W.cell? ⟨w.heap.size + 1, 5, none⟩ = some (.int .i64 e.size) := K2.out.cell 5; have d6 : W.cell? ⟨w.heap.size + 1, 6, none⟩ = some (.int .i64 e.sec) := K2.out.cell 6; have d7 : W.cell? ⟨w.heap.size + 1, 7, none⟩ = some (.int .i64 e.nano) := K2.out.cell 7; have d8 : W.cell? ⟨w.heap.size + 1, 8, none⟩ = some (.string (bs e.link)) := K2.out.cell 8; have d9 : W.cell? ⟨w.heap.size + 1, 9, none⟩ = some (.string (bs e.user)) := K2.out.cell 9; have d10 : W.cell? ⟨w.heap.size + 1, 10, none⟩ = some (.string (bs e.group)) := K2.out.cell 10; have d11 : W.cell? ⟨w.heap.size + 1, 11, none⟩ = some (.int .i64 e.major) := K2.out.cell 11; have d12 : W.cell? ⟨w.heap.size + 1, 12, none⟩ = some (.int .i64 e.minor) := K2.out.cell 12; have d13 : W.cell? ⟨w.heap.size + 1, 13, none⟩ = some (.string (bs e.data)) := K2.out.cell 13; have d14 : W.cell? ⟨w.heap.size + 1, 14, none⟩ = some (.slice A2 e.map.length k2) := K2.out.cell 14
  have hts := fun w => time_same w e.sec e.nano
  unfold ev evc
  clear hW
  go_enter Tryz.func36, Tryz.ntmps36
  go_wp2_with fail
  rw [← HW.out]
  refine EP.out.mono ?_
  rintro r w1 ⟨rfl, h1⟩
  have B1 := Lib.hid (thenB HB0.out h1)
  clear h1
  go_wp2_with fail
  go_ret
  exact ⟨rfl, B1.out⟩

set_option maxRecDepth 100000 in
set_option maxHeartbeats 8000000 in
theorem equalE_any {w : World} {v1 v2 : Value} {ps qs : List (Ent × Value)} (h1 : EntsAt w v1 ps) (h2 : EntsAt w v2 qs) (hpq : ps.map Prod.fst = qs.map Prod.fst) (hl : ps.length ≤ 100) (hmp : ∀ p ∈ ps, p.1.map.length ≤ 1000) :
    Calls Tryz.prog 88 #[v1, v2, .func (.func 36) #[] #[]] w fun r w' => r = .returned (.bool true) ∧ Below w.heap.size w w' := by
  have E1 := Lib.hid h1
  have E2 := Lib.hid h2
  have hlen : ps.length = qs.length := by
    have := congrArg List.length hpq
    rwa [List.length_map, List.length_map] at this
  have HPQ := Lib.hid (fun i (h : i < ps.length) (h' : i < qs.length) => (show ps[i].1 = qs[i].1 from by
    have h3 : (ps.map Prod.fst)[i]'(by rw [List.length_map]; exact h) = (qs.map Prod.fst)[i]'(by rw [List.length_map]; exact h') := by congr 1
    rwa [List.getElem_map, List.getElem_map] at h3))
  have HMP := Lib.hid hmp
  obtain ⟨A, c, rfl, hc, hr⟩ := h1.row
  obtain ⟨A2, c2, rfl, hc2, hr2⟩ := h2.row
  have R1 := Lib.hid hr
  have R2 := Lib.hid hr2
  rw [← hlen]
  have HLN := Lib.hid hlen
  have hli : (ps.length : Int) ≤ 100 := by omega
  clear h1 h2 hpq hr hr2 hlen hmp
  go_enter Tryz.func88, Tryz.ntmps88
  go_wp2_with fail
  go_loopg [17] (ps.length) (fun g iv wr => ∃ i : Nat, iv = .int .i64 i ∧ i ≤ ps.length ∧ g = ps.length - i ∧ Hid (Below w.heap.size w wr))
  case atStart => exact ⟨0, rfl, by omega, by omega, Lib.hid (Below.refl _ _)⟩
  case round =>
    obtain ⟨i, rfl, hi, hg, HW⟩ := hrel
    have HG := Lib.hid hg
    clear hg
    by_cases hil : i < ps.length
    · have hii : (i : Int) < ps.length := by omega
      have hi0 : (0 : Int) ≤ i := by omega
      have hil2 : i < qs.length := by rw [← HLN.out]; exact hil
      rcases R1.out with h0 | ⟨b, off, rfl, hb, hrow⟩
      · rw [h0] at hil; cases hil
      rcases R2.out with h0 | ⟨b2, off2, rfl, hb2, hrow2⟩
      · rw [h0] at hil2; cases hil2
      have hc1 := (hrow.below HW.out hb) i hil
      have hc2' := (hrow2.below HW.out hb2) i hil2
      have hee := HPQ.out i hil hil2
      have lr1 : b < wr.heap.size := Nat.lt_of_lt_of_le hb HW.out.size
      have lr2 : b2 < wr.heap.size := Nat.lt_of_lt_of_le hb2 HW.out.size
      have hp1 := (E1.out.below HW.out).pc ps[i] (List.getElem_mem hil)
      have hp2 := (E2.out.below HW.out).pc qs[i] (List.getElem_mem hil2)
      have hml := HMP.out ps[i] (List.getElem_mem hil)
      obtain ⟨x, hx⟩ : ∃ x, x = ps[i] := ⟨_, rfl⟩
      obtain ⟨y, hy⟩ : ∃ y, y = qs[i] := ⟨_, rfl⟩
      rw [← hx] at hc1 hee hp1 hml
      rw [← hy] at hc2' hee hp2
      obtain ⟨e, m1⟩ := x
      obtain ⟨e', m2⟩ := y
      simp only at hee
      subst hee
      have hc2 := hc2'
      simp only at hc1 hc2 hp1 hp2 hml
      obtain ⟨P1, q1, rfl, _⟩ := id hp1
      obtain ⟨P2, q2, rfl, _⟩ := id hp2
      have d0 : wr.cell? ⟨b, off + i * 15, none⟩ = some (.string (bs e.name)) := hc1 0 (by omega)
      have d1 : wr.cell? ⟨b, off + i * 15 + 1, none⟩ = some (.int .u8 e.kind) := hc1 1 (by omega)
      have d2 : wr.cell? ⟨b, off + i * 15 + 2, none⟩ = some (.int .i64 e.mode) := hc1 2 (by omega)
      have d3 : wr.cell? ⟨b, off + i * 15 + 3, none⟩ = some (.int .i64 e.uid) := hc1 3 (by omega)
      have d4 : wr.cell? ⟨b, off + i * 15 + 4, none⟩ = some (.int .i64 e.gid) := hc1 4 (by omega)
      have d5 : wr.cell? ⟨b, off + i * 15 + 5, none⟩ = some (.int .i64 e.size) := hc1 5 (by omega)
      have d6 : wr.cell? ⟨b, off + i * 15 + 6, none⟩ = some (.int .i64 e.sec) := hc1 6 (by omega)
      have d7 : wr.cell? ⟨b, off + i * 15 + 7, none⟩ = some (.int .i64 e.nano) := hc1 7 (by omega)
      have d8 : wr.cell? ⟨b, off + i * 15 + 8, none⟩ = some (.string (bs e.link)) := hc1 8 (by omega)
      have d9 : wr.cell? ⟨b, off + i * 15 + 9, none⟩ = some (.string (bs e.user)) := hc1 9 (by omega)
      have d10 : wr.cell? ⟨b, off + i * 15 + 10, none⟩ = some (.string (bs e.group)) := hc1 10 (by omega)
      have d11 : wr.cell? ⟨b, off + i * 15 + 11, none⟩ = some (.int .i64 e.major) := hc1 11 (by omega)
      have d12 : wr.cell? ⟨b, off + i * 15 + 12, none⟩ = some (.int .i64 e.minor) := hc1 12 (by omega)
      have d13 : wr.cell? ⟨b, off + i * 15 + 13, none⟩ = some (.string (bs e.data)) := hc1 13 (by omega)
      have d14 : wr.cell? ⟨b, off + i * 15 + 14, none⟩ = some (.slice P1 e.map.length q1) := hc1 14 (by omega)
      have f0 : wr.cell? ⟨b2, off2 + i * 15, none⟩ = some (.string (bs e.name)) := hc2 0 (by omega)
      have f1 : wr.cell? ⟨b2, off2 + i * 15 + 1, none⟩ = some (.int .u8 e.kind) := hc2 1 (by omega)
      have f2 : wr.cell? ⟨b2, off2 + i * 15 + 2, none⟩ = some (.int .i64 e.mode) := hc2 2 (by omega)
      have f3 : wr.cell? ⟨b2, off2 + i * 15 + 3, none⟩ = some (.int .i64 e.uid) := hc2 3 (by omega)
      have f4 : wr.cell? ⟨b2, off2 + i * 15 + 4, none⟩ = some (.int .i64 e.gid) := hc2 4 (by omega)
      have f5 : wr.cell? ⟨b2, off2 + i * 15 + 5, none⟩ = some (.int .i64 e.size) := hc2 5 (by omega)
      have f6 : wr.cell? ⟨b2, off2 + i * 15 + 6, none⟩ = some (.int .i64 e.sec) := hc2 6 (by omega)
      have f7 : wr.cell? ⟨b2, off2 + i * 15 + 7, none⟩ = some (.int .i64 e.nano) := hc2 7 (by omega)
      have f8 : wr.cell? ⟨b2, off2 + i * 15 + 8, none⟩ = some (.string (bs e.link)) := hc2 8 (by omega)
      have f9 : wr.cell? ⟨b2, off2 + i * 15 + 9, none⟩ = some (.string (bs e.user)) := hc2 9 (by omega)
      have f10 : wr.cell? ⟨b2, off2 + i * 15 + 10, none⟩ = some (.string (bs e.group)) := hc2 10 (by omega)
      have f11 : wr.cell? ⟨b2, off2 + i * 15 + 11, none⟩ = some (.int .i64 e.major) := hc2 11 (by omega)
      have f12 : wr.cell? ⟨b2, off2 + i * 15 + 12, none⟩ = some (.int .i64 e.minor) := hc2 12 (by omega)
      have f13 : wr.cell? ⟨b2, off2 + i * 15 + 13, none⟩ = some (.string (bs e.data)) := hc2 13 (by omega)
      have f14 : wr.cell? ⟨b2, off2 + i * 15 + 14, none⟩ = some (.slice P2 e.map.length q2) := hc2 14 (by omega)
      obtain ⟨wa, hwa⟩ : ∃ wa, wa = (wr.alloc (.cells #[.string (bs e.name), .int .u8 e.kind, .int .i64 e.mode, .int .i64 e.uid, .int .i64 e.gid, .int .i64 e.size, .int .i64 e.sec, .int .i64 e.nano, .string (bs e.link), .string (bs e.user), .string (bs e.group), .int .i64 e.major, .int .i64 e.minor, .string (bs e.data), .slice P1 e.map.length q1] 40)).alloc (.cells #[.string (bs e.name), .int .u8 e.kind, .int .i64 e.mode, .int .i64 e.uid, .int .i64 e.gid, .int .i64 e.size, .int .i64 e.sec, .int .i64 e.nano, .string (bs e.link), .string (bs e.user), .string (bs e.group), .int .i64 e.major, .int .i64 e.minor, .string (bs e.data), .slice P2 e.map.length q2] 40) := ⟨_, rfl⟩
      have hba : Below wr.heap.size wr wa := by rw [hwa]; exact ((Below.refl _ _).alloc (Nat.le_refl _) _).alloc (by simp) _
      have BA := Lib.hid (thenB HW.out hba)
      have PP := Lib.hid (sameE_any e _ _ wa (hp1.below hba) (hp2.below hba) hml)
      have HWA := Lib.hid hwa
      unfold ev evc at PP
      clear hc1 hc2 hc2' hx hy hrow hrow2 hba hwa hp1 hp2 hml hil2
      go_wp2_with fail
      rw [← HWA.out]
      refine PP.out.mono ?_
      rintro r w1 ⟨rfl, hb1⟩
      have B1 := Lib.hid (thenB BA.out hb1)
      clear hb1
      go_wp2_with fail
      go_roundg (ps.length - (i + 1))
      case measure => have := HG.out; omega
      case rel => exact ⟨i + 1, by go_num, by omega, by omega, B1⟩
    · have hii : (ps.length : Int) ≤ i := by omega
      go_wp2_with fail
      go_ret
      exact ⟨rfl, HW.out⟩
theorem allE_any {w : World} {v1 v2 : Value} {ps qs : List (Ent × Value)} (h1 : EntsAt w v1 ps) (h2 : EntsAt w v2 qs) (hpq : ps.map Prod.fst = qs.map Prod.fst) (hl : ps.length ≤ 100) (hmp : ∀ p ∈ ps, p.1.map.length ≤ 1000) :
    Calls Tryz.prog 41 #[v1, v2] w fun r w' => r = .returned (.bool true) ∧ Below w.heap.size w w' := by
  have EE := Lib.hid (equalE_any h1 h2 hpq hl hmp)
  obtain ⟨A, c, rfl, _⟩ := h1.row
  obtain ⟨A2, c2, rfl, _⟩ := h2.row
  clear h1 h2 hpq hmp
  go_enter Tryz.func41, Tryz.ntmps41
  go_wp2_with fail
  refine EE.out.mono ?_
  rintro r w1 ⟨rfl, h1⟩
  have B1 := Lib.hid h1
  clear h1
  go_wp2_with fail
  go_ret
  exact ⟨rfl, B1.out⟩

end Go.Proofs.YtipajekehbpghaaGreatDoor
