/-
  The walk of StampRises.
-/
import Derived.Test.YtgkgjlcbappbkaaDoorStampM
namespace Go.Proofs.YtgkgjlcbappbkaaDoor
open Go.RowKit

theorem al1d {W w' : World} {T : TypeId} {cs : Array Value} (TT : Below (W.alloc (.cells cs T)).drew.heap.size (W.alloc (.cells cs T)).drew w') : Blk w' W.heap.size T cs := (Blk.new W T cs).drew.below TT (by show _ < (W.alloc _).heap.size; simp)
theorem al2ad {W w' : World} {T : TypeId} {cs : Array Value} {o : Obj} (TT : Below ((W.alloc (.cells cs T)).alloc o).drew.heap.size ((W.alloc (.cells cs T)).alloc o).drew w') : Blk w' W.heap.size T cs := ((Blk.new W T cs).alloc o).drew.below TT (by show _ < ((W.alloc _).alloc _).heap.size; simp; omega)
theorem al2bd {W w' : World} {T : TypeId} {cs : Array Value} {o : Obj} (TT : Below ((W.alloc o).alloc (.cells cs T)).drew.heap.size ((W.alloc o).alloc (.cells cs T)).drew w') : Blk w' (W.heap.size + 1) T cs := by
  have h := (Blk.new (W.alloc o) T cs).drew.below TT (by show _ < ((W.alloc _).alloc _).heap.size; simp)
  rw [World.size_alloc] at h; exact h
theorem lt1d {W w' : World} {o : Obj} (TT : Below (W.alloc o).drew.heap.size (W.alloc o).drew w') : W.heap.size + 1 ≤ w'.heap.size := by
  have h : (W.alloc o).heap.size ≤ w'.heap.size := TT.size
  rwa [World.size_alloc] at h
theorem lt2d {W w' : World} {o o' : Obj} (TT : Below ((W.alloc o).alloc o').drew.heap.size ((W.alloc o).alloc o').drew w') : W.heap.size + 2 ≤ w'.heap.size := by
  have h : ((W.alloc o).alloc o').heap.size ≤ w'.heap.size := TT.size
  rwa [World.size_alloc, World.size_alloc] at h
theorem newB (W : World) (o : Obj) (Z : Array Value) : Blk ((W.alloc o).alloc (.cells Z 26)) (W.heap.size + 1) 26 Z := by
  have h := Blk.new (W.alloc o) 26 Z
  rwa [World.size_alloc] at h

set_option maxRecDepth 100000 in
set_option maxHeartbeats 20000000 in
theorem stampRises_main (a b c d s n u m : Int) (s0 : -1099511627776 ≤ s) (s1 : s ≤ 1099511627776) (u0 : -1099511627776 ≤ u) (u1 : u ≤ 1099511627776) (w : World) (hE : Env w)
    (t1 : ∀ w, Calls Tryd.prog 9 #[.int .i64 a, .int .i64 b] w fun e w' => e = .returned (tm s n) ∧ Below w.heap.size w w')
    (t2 : ∀ w, Calls Tryd.prog 9 #[.int .i64 c, .int .i64 d] w fun e w' => e = .returned (tm u m) ∧ Below w.heap.size w w') :
    Calls Tryd.prog 6 #[.int .i64 a, .int .i64 b, .int .i64 c, .int .i64 d] w fun e w' => e = .returned (.bool true) ∧ Below w.heap.size w w' := by
  have HS := Lib.hid (stamped_any w hE)
  have d1 := fun w => date_any s n (by omega) (by omega) w
  have d2 := fun w => date_any u m (by omega) (by omega) w
  have hways : (Cal.cmpL (Cal.date s) (Cal.date u) = -1 ∧ (s == u) = false ∧ s < u) ∨ (Cal.cmpL (Cal.date s) (Cal.date u) = 1 ∧ (s == u) = false ∧ ¬ s < u) ∨ (Cal.cmpL (Cal.date s) (Cal.date u) = 0 ∧ (s == u) = true ∧ ¬ s < u) := by
    rcases Int.lt_trichotomy s u with h | h | h
    · exact .inl ⟨(Cal.date_cmp h).1, by simp; omega, h⟩
    · exact .inr (.inr ⟨by rw [h]; exact Cal.cmp_self _, by simpa using h, by omega⟩)
    · exact .inr (.inl ⟨(Cal.date_cmp h).2, by simp; omega, by omega⟩)
  obtain ⟨a0, a1, a2, a3, a4, a5, ea, fa⟩ := date_six s
  obtain ⟨b0, b1, b2, b3, b4, b5, eb, fb⟩ := date_six u
  rw [fa] at d1
  rw [fb] at d2
  obtain ⟨V1, hV1⟩ : ∃ V : Array Value, V = #[.int .i64 a0, .int .i64 a1, .int .i64 a2, .int .i64 a3, .int .i64 a4, .int .i64 a5] := ⟨_, rfl⟩
  obtain ⟨V2, hV2⟩ : ∃ V : Array Value, V = #[.int .i64 b0, .int .i64 b1, .int .i64 b2, .int .i64 b3, .int .i64 b4, .int .i64 b5] := ⟨_, rfl⟩
  rw [← hV1] at d1
  rw [← hV2] at d2
  have hv1 : V1.size = 6 := by rw [hV1]; rfl
  have hv2 : V2.size = 6 := by rw [hV2]; rfl
  have ho1 : ∀ v ∈ V1.toList, v.oneCell' = true := by rw [hV1]; intro v hv; simp at hv; rcases hv with rfl | rfl | rfl | rfl | rfl | rfl <;> rfl
  have ho2 : ∀ v ∈ V2.toList, v.oneCell' = true := by rw [hV2]; intro v hv; simp at hv; rcases hv with rfl | rfl | rfl | rfl | rfl | rfl <;> rfl
  have HV1 := Lib.hid hV1
  have HV2 := Lib.hid hV2
  have HO1 := Lib.hid ho1
  have HO2 := Lib.hid ho2
  have HZ1 := Lib.hid hv1
  have HZ2 := Lib.hid hv2
  clear hV1 hV2 hv1 hv2 ho1 ho2
  rw [ea, eb] at hways
  have T1 := Lib.hid t1
  have T2 := Lib.hid t2
  have D1 := Lib.hid d1
  have D2 := Lib.hid d2
  clear t1 t2 hE d1 d2 ea eb fa fb s0 s1 u0 u1
  go_enter Tryd.func6, Tryd.ntmps6
  go_wp2_with fail
  refine HS.out.mono ?_
  rintro e w1 ⟨rfl, h⟩
  have B1 := Lib.hid h
  clear h
  go_wp2_with fail
  refine (T1.out _).mono ?_
  rintro e w2 ⟨rfl, h⟩
  have B2 := Lib.hid (thenB B1.out h)
  clear h
  go_wp2_with fail
  refine (T2.out _).mono ?_
  rintro e w3 ⟨rfl, h⟩
  have B3 := Lib.hid (thenB B2.out h)
  clear h
  go_wp2_with fail
  have z1 := (Blk.new w3 24 #[.int .i64 s, .int .i64 n]).alloc (.cells #[.int .i64 u, .int .i64 m] 24)
  have z2 := Blk.new (w3.alloc (.cells #[.int .i64 s, .int .i64 n] 24)) 24 #[.int .i64 u, .int .i64 m]
  rw [World.size_alloc] at z2
  have hB4 := (B3.out.alloc B3.out.size (.cells #[.int .i64 s, .int .i64 n] 24)).alloc (by have := B3.out.size; simp; omega) (.cells #[.int .i64 u, .int .i64 m] 24)
  generalize ((w3.alloc (.cells #[.int .i64 s, .int .i64 n] 24)).alloc (.cells #[.int .i64 u, .int .i64 m] 24)) = w4 at z1 z2 hB4 ⊢
  generalize w3.heap.size = g at z1 z2 ⊢
  have c0 := z1.cell 0
  have c1 := z1.cell 1
  have c2 := z2.cell 0
  have c3 := z2.cell 1
  clear z1 z2
  have HB := Lib.hid hB4
  have HWAYS := Lib.hid hways
  clear hB4 hways
  go_cut [11, 12] (fun s11 s12 wx => ∃ p q : Nat, s11 = .pointer (some ⟨p, 0, none⟩) ∧ s12 = .pointer (some ⟨q, 0, none⟩) ∧ Blk wx p 26 V1 ∧ Blk wx q 26 V2 ∧ wx.cell? ⟨g, 0, none⟩ = some (.int .i64 s) ∧ wx.cell? ⟨g, 1, none⟩ = some (.int .i64 n) ∧ wx.cell? ⟨g + 1, 0, none⟩ = some (.int .i64 u) ∧ wx.cell? ⟨g + 1, 1, none⟩ = some (.int .i64 m) ∧ Below w.heap.size w wx)
  case first =>
    have HD := Lib.hid (show w4.drew.heap.size = w4.heap.size from rfl)
    go_region_held3 (fun w' => w'.cell? ⟨g, 0, none⟩ = some (.int .i64 s) ∧ w'.cell? ⟨g, 1, none⟩ = some (.int .i64 n) ∧ w'.cell? ⟨g + 1, 0, none⟩ = some (.int .i64 u) ∧ w'.cell? ⟨g + 1, 1, none⟩ = some (.int .i64 m) ∧ Below w4.heap.size w4 w')
      ((go_split_ands; refine keepS c0 c1 c2 c3 ?_; first
        | with_reducible assumption
        | (repeat' (first | with_reducible assumption | with_reducible refine below_drew ?_ | with_reducible refine below_alloc ?_ _ | with_reducible exact Below.refl _ _))))
      (first
      | (go_at_call 10; (with_reducible refine (D1.out _).mono ?_); rintro e wt ⟨rfl, TT⟩; clear D1; go_split_ands; have TB1 : Below w4.heap.size w4 wt := (by first | with_reducible exact thenB (by assumption) TT | with_reducible exact thenB (Below.refl _ _) TT); (with_reducible have y2 := al2bd TT); (with_reducible have y1 := al2ad TT); have Y2 : Hid (Blk wt (w4.heap.size + 1) 26 #[.int .i64 0, .int .i64 0, .int .i64 0, .int .i64 0, .int .i64 0, .int .i64 0]) := y2; have Y1 : Hid (Blk wt w4.heap.size 26 #[.int .i64 0, .int .i64 0, .int .i64 0, .int .i64 0, .int .i64 0, .int .i64 0]) := y1; clear y1 y2; (with_reducible have L1 := Lib.hid (lt2d TT)))
      | (go_at_call 10; (with_reducible refine (D1.out _).mono ?_); rintro e wt ⟨rfl, TT⟩; clear D1; go_split_ands; have TB1 : Below w4.heap.size w4 wt := (by first | with_reducible exact thenB (by assumption) TT | with_reducible exact thenB (Below.refl _ _) TT); (with_reducible have y1 := al1d TT); have Y1 : Hid (Blk wt w4.heap.size 26 #[.int .i64 0, .int .i64 0, .int .i64 0, .int .i64 0, .int .i64 0, .int .i64 0]) := y1; clear y1; (with_reducible have L1 := Lib.hid (lt1d TT)))
      | (go_at_call 10; (with_reducible refine (D1.out _).mono ?_); rintro e wt ⟨rfl, TT⟩; clear D1; go_split_ands; have TB1 : Below w4.heap.size w4 wt := (by first | with_reducible exact thenB (by assumption) TT | with_reducible exact thenB (Below.refl _ _) TT); (with_reducible have q : Below w4.drew.heap.size w4.drew wt := TT); clear q; have L1 := Lib.hid (lt0 TT))
      | (go_at_call 10; (with_reducible refine (D2.out _).mono ?_); rintro e wu ⟨rfl, TU⟩; go_split_ands; have TB2 : Below w4.heap.size w4 wu := (by with_reducible exact thenB (by assumption) TU); first | ((with_reducible have t2 := al2b TU); clear t2; (with_reducible have X2 := al2b TU); (with_reducible have X1 := al2a TU); (with_reducible have L2 := Lib.hid (lt2 TU)); obtain ⟨Wa, Wb, Wc, Wd, ra, rb, rc, rd, ba, bb, bc, bd, la, lb, lc, ld⟩ := two6 (P := Tryd.prog) (a := w4) X1 X2 rfl rfl HZ1.out HZ2.out HO1.out HO2.out (by have h1 := L1.out; have h2 := L2.out; have h3 := HD.out; omega) (TB2) (by have h1 := L1.out; have h2 := L2.out; have h3 := HD.out; omega) (by have h1 := L1.out; have h2 := L2.out; have h3 := HD.out; omega); have Ba := Lib.hid ba; have Bb := Lib.hid bb; have Bc := Lib.hid bc; have Bd := Lib.hid bd; clear ba bb bc bd; clear X1 X2) | ((with_reducible have t1 := al1 TU); clear t1; first | (revert Y1; intro Y1; (with_reducible have X2 := al1 TU); (with_reducible have X1 := ca1 Y1.out TU); (with_reducible have L2 := Lib.hid (lt1 TU)); obtain ⟨Wa, Wb, Wc, Wd, ra, rb, rc, rd, ba, bb, bc, bd, la, lb, lc, ld⟩ := two6 (P := Tryd.prog) (a := w4) X1 X2 rfl rfl HZ1.out HZ2.out HO1.out HO2.out (by have h1 := L1.out; have h2 := L2.out; have h3 := HD.out; omega) (TB2) (by have h1 := L1.out; have h2 := L2.out; have h3 := HD.out; omega) (by have h1 := L1.out; have h2 := L2.out; have h3 := HD.out; omega); have Ba := Lib.hid ba; have Bb := Lib.hid bb; have Bc := Lib.hid bc; have Bd := Lib.hid bd; clear ba bb bc bd; clear X1 X2) | ((with_reducible have X1 := al1 TU); (with_reducible have L2 := Lib.hid (lt1 TU)); obtain ⟨Wa, Wb, Wc, Wd, ra, rb, rc, rd, ba, bb, bc, bd, la, lb, lc, ld⟩ := two6 (P := Tryd.prog) (a := w4) (X1.alloc (.cells #[.int .i64 0, .int .i64 0, .int .i64 0, .int .i64 0, .int .i64 0, .int .i64 0] 26)) (Blk.new wu 26 #[.int .i64 0, .int .i64 0, .int .i64 0, .int .i64 0, .int .i64 0, .int .i64 0]) rfl rfl HZ1.out HZ2.out HO1.out HO2.out (by have h1 := L1.out; have h2 := L2.out; have h3 := HD.out; omega) (below_alloc TB2 _) (by have h1 := L1.out; have h2 := L2.out; have h3 := HD.out; omega) (by have h1 := L1.out; have h2 := L2.out; have h3 := HD.out; omega); have Ba := Lib.hid ba; have Bb := Lib.hid bb; have Bc := Lib.hid bc; have Bd := Lib.hid bd; clear ba bb bc bd; clear X1) | fail) | (revert Y2; intro Y2; (with_reducible have X2 := ca0 Y2.out TU); (with_reducible have X1 := ca0 Y1.out TU); have L2 := Lib.hid (lt0 TU); obtain ⟨Wa, Wb, Wc, Wd, ra, rb, rc, rd, ba, bb, bc, bd, la, lb, lc, ld⟩ := two6 (P := Tryd.prog) (a := w4) X1 X2 rfl rfl HZ1.out HZ2.out HO1.out HO2.out (by have h1 := L1.out; have h2 := L2.out; have h3 := HD.out; omega) (TB2) (by have h1 := L1.out; have h2 := L2.out; have h3 := HD.out; omega) (by have h1 := L1.out; have h2 := L2.out; have h3 := HD.out; omega); have Ba := Lib.hid ba; have Bb := Lib.hid bb; have Bc := Lib.hid bc; have Bd := Lib.hid bd; clear ba bb bc bd; clear X1 X2) | (revert Y1; intro Y1; (with_reducible have X1 := ca0 Y1.out TU); have L2 := Lib.hid (lt0 TU); obtain ⟨Wa, Wb, Wc, Wd, ra, rb, rc, rd, ba, bb, bc, bd, la, lb, lc, ld⟩ := two6 (P := Tryd.prog) (a := w4) (X1.alloc (.cells #[.int .i64 0, .int .i64 0, .int .i64 0, .int .i64 0, .int .i64 0, .int .i64 0] 26)) (Blk.new wu 26 #[.int .i64 0, .int .i64 0, .int .i64 0, .int .i64 0, .int .i64 0, .int .i64 0]) rfl rfl HZ1.out HZ2.out HO1.out HO2.out (by have h1 := L1.out; have h2 := L2.out; have h3 := HD.out; omega) (below_alloc TB2 _) (by have h1 := L1.out; have h2 := L2.out; have h3 := HD.out; omega) (by have h1 := L1.out; have h2 := L2.out; have h3 := HD.out; omega); have Ba := Lib.hid ba; have Bb := Lib.hid bb; have Bc := Lib.hid bc; have Bd := Lib.hid bd; clear ba bb bc bd; clear X1) | (have L2 := Lib.hid (lt0 TU); obtain ⟨Wa, Wb, Wc, Wd, ra, rb, rc, rd, ba, bb, bc, bd, la, lb, lc, ld⟩ := two6 (P := Tryd.prog) (a := w4) ((Blk.new wu 26 #[.int .i64 0, .int .i64 0, .int .i64 0, .int .i64 0, .int .i64 0, .int .i64 0]).alloc (.cells #[.int .i64 0, .int .i64 0, .int .i64 0, .int .i64 0, .int .i64 0, .int .i64 0] 26)) (newB wu (.cells #[.int .i64 0, .int .i64 0, .int .i64 0, .int .i64 0, .int .i64 0, .int .i64 0] 26) #[.int .i64 0, .int .i64 0, .int .i64 0, .int .i64 0, .int .i64 0, .int .i64 0]) rfl rfl HZ1.out HZ2.out HO1.out HO2.out (by have h1 := L1.out; have h2 := L2.out; have h3 := HD.out; omega) (below_alloc (below_alloc TB2 _) _) (by have h1 := L1.out; have h2 := L2.out; have h3 := HD.out; omega) (by have h1 := L1.out; have h2 := L2.out; have h3 := HD.out; omega); have Ba := Lib.hid ba; have Bb := Lib.hid bb; have Bc := Lib.hid bc; have Bd := Lib.hid bd; clear ba bb bc bd) | fail)
      | fail)
    all_goals go_wp2_with fail
    all_goals go_meet
    all_goals rename_i hHeld
    all_goals obtain ⟨q0, q1, q2, q3, qb⟩ := hHeld
    all_goals first | exact ⟨_, _, rfl, rfl, Ba.out, Bb.out, q0, q1, q2, q3, thenB HB.out qb⟩ | exact ⟨_, _, rfl, rfl, Bc.out, Bd.out, q0, q1, q2, q3, thenB HB.out qb⟩
  case rest =>
    obtain ⟨p, q, rfl, rfl, bp, bq, c0', c1', c2', c3', hbx⟩ := hcut
    have BX := Lib.hid hbx
    rw [HV1.out] at bp
    rw [HV2.out] at bq
    have BP := Lib.hid bp
    have BQ := Lib.hid bq
    clear hbx bp bq c0 c1 c2 c3 HB
    have rp : RowI wc p 0 [a0, a1, a2, a3, a4, a5] := fun j hj => by
      rw [Nat.zero_add, BP.out.cell j]
      rcases j with _ | _ | _ | _ | _ | _ | j <;> first | rfl | (simp at hj; omega)
    have rq : RowI wc q 0 [b0, b1, b2, b3, b4, b5] := fun j hj => by
      rw [Nat.zero_add, BQ.out.cell j]
      rcases j with _ | _ | _ | _ | _ | _ | j <;> first | rfl | (simp at hj; omega)
    have cmp : ∀ k : Nat, Calls Tryd.prog 15 #[.slice (some ⟨p, 0, none⟩) 6 6, .slice (some ⟨q, 0, none⟩) 6 6] (wc.drewN k) fun e w' => e = .returned (.int .i64 (Cal.cmpL [a0, a1, a2, a3, a4, a5] [b0, b1, b2, b3, b4, b5])) ∧ w' = wc.drewN k := fun k =>
      compare_rows p 0 6 q 0 6 [a0, a1, a2, a3, a4, a5] [b0, b1, b2, b3, b4, b5] (wc.drewN k) (by simp) (by simp) rp rq
    clear rp rq
    rcases HWAYS.out with ⟨hk, h1, h2⟩ | ⟨hk, h1, h2⟩ | ⟨hk, h1, h2⟩
    all_goals
      rw [hk] at cmp
      have CMP := Lib.hid cmp
      clear cmp hk HWAYS BP BQ
      go_wp2_with fail
      go_quiet ((go_at_call 15; refine (CMP.out _).mono ?_; rintro e w2 ⟨rfl, rfl⟩; exact ⟨rfl, _, rfl⟩))
      go_wp2_with fail
      go_ret
      exact ⟨by first | rfl | (simp; done) | (simp [h1, h2]; done) | (simp_all; done) | (simp_all; omega), BX.out.os, BX.out.tape, BX.out.output, BX.out.size, BX.out.block⟩

theorem stampRises_walk (a : Int) (_wa : (Lit.int .i64 a).wf = true) (b : Int) (_wb : (Lit.int .i64 b).wf = true) (c : Int) (_wc : (Lit.int .i64 c).wf = true) (d : Int) (_wd : (Lit.int .i64 d).wf = true) (w : World) (hE : Env w) :
    Calls Tryd.prog 6 #[.int .i64 a, .int .i64 b, .int .i64 c, .int .i64 d] w fun e w' => e = .returned (.bool true) ∧ Below w.heap.size w w' :=
  stampRises_main a b c d _ _ _ _ (timed_bd a b).1 (timed_bd a b).2.1 (timed_bd c d).1 (timed_bd c d).2.1 w hE (timed_any a b) (timed_any c d)

end Go.Proofs.YtgkgjlcbappbkaaDoor
