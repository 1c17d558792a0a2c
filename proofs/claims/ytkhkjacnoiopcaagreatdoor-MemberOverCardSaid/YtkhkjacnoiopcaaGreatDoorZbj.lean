/-
  member.Write in the two old dialects.
-/
import Derived.Test.YtkhkjacnoiopcaaGreatDoorZbi
import Derived.Test.YtkhkjacnoiopcaaGreatDoorZaw
import Derived.Test.YtkhkjacnoiopcaaGreatDoorZba
import Derived.Test.YtkhkjacnoiopcaaGreatDoorZaq
import Derived.Test.YtkhkjacnoiopcaaGreatDoorZbd
import Derived.Deep.RegionWith
set_option linter.unusedVariables false
set_option linter.unusedSimpArgs false

set_option linter.unusedVariables false
set_option linter.unusedSimpArgs false
namespace Go.Proofs.YtkhkjacnoiopcaaGreatDoor
open Go.RowKit Tre Pk

/-- What a writing call hands back, as a pair. -/
theorem wpair {o : Option Bl} {r : Ending} (h : (∃ m, o = some m ∧ r = .returned (.tuple #[.string (bs m), .nilIface])) ∨ (o = none ∧ ∃ (s : ByteArray) (x : Int), r = .returned (.tuple #[.string s, .iface 63 (.int .i64 x)]))) :
    ∃ (sv er : Value), r = .returned (.tuple #[sv, er]) ∧ ((∃ m, o = some m ∧ sv = .string (bs m) ∧ er = .nilIface) ∨ (o = none ∧ ∃ (s : ByteArray) (x : Int), sv = .string s ∧ er = .iface 63 (.int .i64 x))) := by
  rcases h with ⟨m, h, rfl⟩ | ⟨h, s, x, rfl⟩
  · exact ⟨_, _, rfl, .inl ⟨m, h, rfl, rfl⟩⟩
  · exact ⟨_, _, rfl, .inr ⟨h, s, x, rfl, rfl⟩⟩
theorem plainM_wf {e : Ent} (h : rightE e = true) : (plainM e).wf := wf_plain h _ _ _ _ _ (by have := right_data h; unfold i64; omega)

set_option maxRecDepth 100000 in
set_option maxHeartbeats 8000000 in
theorem write_two (e : Ent) (mv : Value) (w : World) (hc : Came w e mv) (hlg : largeE e = false) : Calls Tryz.prog 18 #[.int .i64 2, ev e mv] w (WPost (memM 2 e) w) := by
  obtain ⟨g1, g2, g3, g4⟩ := large_no hlg
  have RT := Lib.hid (fun w' (hb : Below w.heap.size w w') => memRight_any e mv w' (hc.pcs.below hb) hc.kind hc.data (by omega) hc.size hc.name)
  have SPC := Lib.hid (fun w' (hb : Below w.heap.size w w') => sparse_any e mv w' (hc.pcs.below hb) hc.data (by omega))
  have PLC := Lib.hid (fun w => mplain_any e mv hc.kind w)
  have NMC := Lib.hid (fun w => mnamed_any e mv (by omega) w)
  obtain ⟨O, hO⟩ : ∃ O, O = memM 2 e := ⟨_, rfl⟩
  rw [← hO]
  have hO1 : rightE e = false → O = none := fun h => by rw [hO]; unfold memM; rw [if_pos h]
  have hO2 : rightE e = true → O = oldM 2 e := fun h => by rw [hO]; unfold memM; rw [if_neg (by rw [h]; simp), if_neg (by decide), if_neg (by decide)]
  have hO3 : rightE e = true → (sparse e = true ∨ e.nano ≠ 0) → O = none := fun h h2 => by rw [hO2 h]; unfold oldM; rw [if_pos h2]
  have hO4 : rightE e = true → sparse e = false → e.nano = 0 → O = writtenM 2 (plainM e) (nameM e) e.link e.data := fun h h2 h3 => by rw [hO2 h]; unfold oldM; rw [if_neg (by rw [h2, h3]; simp), if_neg (by decide)]
  have WT := Lib.hid (fun (h : rightE e = true) w => written_any 2 (by decide) (by decide) (plainM e) (nameM e) e.link e.data (plainM_wf h) (by have := (name_texts h).1; omega) (by omega) w)
  obtain ⟨RE, hRE⟩ : ∃ RE, RE = rightE e := ⟨_, rfl⟩
  obtain ⟨SE, hSE⟩ : ∃ SE, SE = sparse e := ⟨_, rfl⟩
  rw [← hRE] at RT hO1 hO2 hO3 hO4 WT
  rw [← hSE] at SPC hO3 hO4
  have hk8 : e.kind.toUInt8.toNat = e.kind := by
    have := hc.kind
    rw [Nat.toUInt8, UInt8.toNat_ofNat', Nat.mod_eq_of_lt (by omega)]
  obtain ⟨NE, hNE⟩ : ∃ NE, NE = nameM e := ⟨_, rfl⟩
  rw [← hNE] at NMC WT hO4
  unfold rv plainM at PLC
  unfold rv at WT
  unfold plainM at WT
  simp only [hk8] at PLC WT
  obtain ⟨A, cap, hmv, _⟩ := hc.pcs
  subst hmv
  obtain ⟨n, k, m1, m2, m3, z, sc, na, l, u, gr, mj, mn, d, mp⟩ := e
  unfold ev evc at RT SPC PLC NMC ⊢
  simp only at RT SPC PLC NMC WT hO1 hO3 hO4 ⊢
  have H1 := Lib.hid hO1
  have H3 := Lib.hid hO3
  have H4 := Lib.hid hO4
  clear hO hO1 hO2 hO3 hO4 hRE hSE hNE hk8 hc hlg g1 g2 g3 g4
  obtain ⟨W, hW⟩ : ∃ W, W = w.alloc (.cells #[.string (bs n), .int .u8 k, .int .i64 m1, .int .i64 m2, .int .i64 m3, .int .i64 z, .int .i64 sc, .int .i64 na, .string (bs l), .string (bs u), .string (bs gr), .int .i64 mj, .int .i64 mn, .string (bs d), .slice A mp.length cap] 26) := ⟨_, rfl⟩
  have HB := Lib.hid (show Below w.heap.size w W by rw [hW]; exact (Below.refl _ _).alloc (Nat.le_refl _) _)
  have KB := Lib.hid (show Blk W w.heap.size 26 #[.string (bs n), .int .u8 k, .int .i64 m1, .int .i64 m2, .int .i64 m3, .int .i64 z, .int .i64 sc, .int .i64 na, .string (bs l), .string (bs u), .string (bs gr), .int .i64 mj, .int .i64 mn, .string (bs d), .slice A mp.length cap] by rw [hW]; exact Blk.new w _ _)
  have HW := Lib.hid hW
  have lw := KB.out.lt
  have c0 : W.cell? ⟨w.heap.size, 0, none⟩ = some (.string (bs n)) := KB.out.cell 0
  have c1 : W.cell? ⟨w.heap.size, 1, none⟩ = some (.int .u8 k) := KB.out.cell 1
  have c2 : W.cell? ⟨w.heap.size, 2, none⟩ = some (.int .i64 m1) := KB.out.cell 2
  have c3 : W.cell? ⟨w.heap.size, 3, none⟩ = some (.int .i64 m2) := KB.out.cell 3
  have c4 : W.cell? ⟨w.heap.size, 4, none⟩ = some (.int .i64 m3) := KB.out.cell 4
  have c5 : W.cell? ⟨w.heap.size, 5, none⟩ = some (.int .i64 z) := KB.out.cell 5
  have c6 : W.cell? ⟨w.heap.size, 6, none⟩ = some (.int .i64 sc) := KB.out.cell 6
  have c7 : W.cell? ⟨w.heap.size, 7, none⟩ = some (.int .i64 na) := KB.out.cell 7
  have c8 : W.cell? ⟨w.heap.size, 8, none⟩ = some (.string (bs l)) := KB.out.cell 8
  have c9 : W.cell? ⟨w.heap.size, 9, none⟩ = some (.string (bs u)) := KB.out.cell 9
  have c10 : W.cell? ⟨w.heap.size, 10, none⟩ = some (.string (bs gr)) := KB.out.cell 10
  have c11 : W.cell? ⟨w.heap.size, 11, none⟩ = some (.int .i64 mj) := KB.out.cell 11
  have c12 : W.cell? ⟨w.heap.size, 12, none⟩ = some (.int .i64 mn) := KB.out.cell 12
  have c13 : W.cell? ⟨w.heap.size, 13, none⟩ = some (.string (bs d)) := KB.out.cell 13
  have c14 : W.cell? ⟨w.heap.size, 14, none⟩ = some (.slice A mp.length cap) := KB.out.cell 14
  clear hW
  go_enter Tryz.func18, Tryz.ntmps18
  repeat' ((fail_if_success (with_reducible refine halt_at 1 ?_)); first | go_values | go_skip | go_guarded | go_step | go_upon | go_back | (simp only [Int.not_lt, Int.not_le] at *; go_simp) | (go_values <;> (try go_simp)) | (go_ite <;> go_prune <;> (try go_simp)) | (split <;> (first | (rename_i hx; exact (hx _ rfl).elim) | go_prune)))
  rw [← HW.out]
  go_wp2_with fail
  refine (RT.out _ HB.out).mono ?_
  rintro r w1 ⟨rfl, h1⟩
  have B1 := Lib.hid (thenB HB.out h1)
  have KB1 := Lib.hid (KB.out.below h1 KB.out.lt)
  have lw1 := KB1.out.lt
  clear h1 lw c0 c1 c2 c3 c4 c5 c6 c7 c8 c9 c10 c11 c12 c13 c14
  cases RE
  case false =>
    go_wp2_with fail
    go_ret2
    exact ⟨B1.out, .inr ⟨H1.out (by first | rfl | trivial), _, _, rfl⟩⟩
  case true =>
    have c0 : w1.cell? ⟨w.heap.size, 0, none⟩ = some (.string (bs n)) := KB1.out.cell 0
    have c1 : w1.cell? ⟨w.heap.size, 1, none⟩ = some (.int .u8 k) := KB1.out.cell 1
    have c2 : w1.cell? ⟨w.heap.size, 2, none⟩ = some (.int .i64 m1) := KB1.out.cell 2
    have c3 : w1.cell? ⟨w.heap.size, 3, none⟩ = some (.int .i64 m2) := KB1.out.cell 3
    have c4 : w1.cell? ⟨w.heap.size, 4, none⟩ = some (.int .i64 m3) := KB1.out.cell 4
    have c5 : w1.cell? ⟨w.heap.size, 5, none⟩ = some (.int .i64 z) := KB1.out.cell 5
    have c6 : w1.cell? ⟨w.heap.size, 6, none⟩ = some (.int .i64 sc) := KB1.out.cell 6
    have c7 : w1.cell? ⟨w.heap.size, 7, none⟩ = some (.int .i64 na) := KB1.out.cell 7
    have c8 : w1.cell? ⟨w.heap.size, 8, none⟩ = some (.string (bs l)) := KB1.out.cell 8
    have c9 : w1.cell? ⟨w.heap.size, 9, none⟩ = some (.string (bs u)) := KB1.out.cell 9
    have c10 : w1.cell? ⟨w.heap.size, 10, none⟩ = some (.string (bs gr)) := KB1.out.cell 10
    have c11 : w1.cell? ⟨w.heap.size, 11, none⟩ = some (.int .i64 mj) := KB1.out.cell 11
    have c12 : w1.cell? ⟨w.heap.size, 12, none⟩ = some (.int .i64 mn) := KB1.out.cell 12
    have c13 : w1.cell? ⟨w.heap.size, 13, none⟩ = some (.string (bs d)) := KB1.out.cell 13
    have c14 : w1.cell? ⟨w.heap.size, 14, none⟩ = some (.slice A mp.length cap) := KB1.out.cell 14
    go_wp2_with fail
    refine (PLC.out _).mono ?_
    rintro r w2 ⟨rfl, h2⟩
    have B2 := Lib.hid (thenB B1.out h2)
    have KB2 := Lib.hid (KB1.out.below h2 KB1.out.lt)
    clear h2 lw1 c0 c1 c2 c3 c4 c5 c6 c7 c8 c9 c10 c11 c12 c13 c14
    obtain ⟨W3, hW3⟩ : ∃ W3, W3 = w2.alloc (.cells #[.string (bs []), .string (bs []), .string (bs u), .string (bs gr), .string (bs []), .int .u8 k, .int .i64 m1, .int .i64 m2, .int .i64 m3, .int .i64 (d.length : Int), .int .i64 sc, .int .i64 mj, .int .i64 mn] 72) := ⟨_, rfl⟩
    have B3 := Lib.hid (show Below w.heap.size w W3 by rw [hW3]; exact B2.out.alloc B2.out.size _)
    have KB3 := Lib.hid (show Blk W3 w.heap.size 26 #[.string (bs n), .int .u8 k, .int .i64 m1, .int .i64 m2, .int .i64 m3, .int .i64 z, .int .i64 sc, .int .i64 na, .string (bs l), .string (bs u), .string (bs gr), .int .i64 mj, .int .i64 mn, .string (bs d), .slice A mp.length cap] by rw [hW3]; exact KB2.out.alloc _)
    have KR3 := Lib.hid (show Blk W3 w2.heap.size 72 #[.string (bs []), .string (bs []), .string (bs u), .string (bs gr), .string (bs []), .int .u8 k, .int .i64 m1, .int .i64 m2, .int .i64 m3, .int .i64 (d.length : Int), .int .i64 sc, .int .i64 mj, .int .i64 mn] by rw [hW3]; exact Blk.new w2 _ _)
    have HW3 := Lib.hid hW3
    obtain ⟨Rb, hRb⟩ : ∃ Rb, Rb = w2.heap.size := ⟨_, rfl⟩
    rw [← hRb] at KR3
    have HRb := Lib.hid hRb
    clear hRb hW3
    have c0 : W3.cell? ⟨w.heap.size, 0, none⟩ = some (.string (bs n)) := KB3.out.cell 0
    have c1 : W3.cell? ⟨w.heap.size, 1, none⟩ = some (.int .u8 k) := KB3.out.cell 1
    have c2 : W3.cell? ⟨w.heap.size, 2, none⟩ = some (.int .i64 m1) := KB3.out.cell 2
    have c3 : W3.cell? ⟨w.heap.size, 3, none⟩ = some (.int .i64 m2) := KB3.out.cell 3
    have c4 : W3.cell? ⟨w.heap.size, 4, none⟩ = some (.int .i64 m3) := KB3.out.cell 4
    have c5 : W3.cell? ⟨w.heap.size, 5, none⟩ = some (.int .i64 z) := KB3.out.cell 5
    have c6 : W3.cell? ⟨w.heap.size, 6, none⟩ = some (.int .i64 sc) := KB3.out.cell 6
    have c7 : W3.cell? ⟨w.heap.size, 7, none⟩ = some (.int .i64 na) := KB3.out.cell 7
    have c8 : W3.cell? ⟨w.heap.size, 8, none⟩ = some (.string (bs l)) := KB3.out.cell 8
    have c9 : W3.cell? ⟨w.heap.size, 9, none⟩ = some (.string (bs u)) := KB3.out.cell 9
    have c10 : W3.cell? ⟨w.heap.size, 10, none⟩ = some (.string (bs gr)) := KB3.out.cell 10
    have c11 : W3.cell? ⟨w.heap.size, 11, none⟩ = some (.int .i64 mj) := KB3.out.cell 11
    have c12 : W3.cell? ⟨w.heap.size, 12, none⟩ = some (.int .i64 mn) := KB3.out.cell 12
    have c13 : W3.cell? ⟨w.heap.size, 13, none⟩ = some (.string (bs d)) := KB3.out.cell 13
    have c14 : W3.cell? ⟨w.heap.size, 14, none⟩ = some (.slice A mp.length cap) := KB3.out.cell 14
    have lw3 := KB3.out.lt
    have lr3 := KR3.out.lt
    repeat' ((fail_if_success (with_reducible refine halt_at 9 ?_)); first | go_values | go_skip | go_guarded | go_step | go_upon | go_back | (simp only [Int.not_lt, Int.not_le] at *; go_simp) | (go_values <;> (try go_simp)) | (go_ite <;> go_prune <;> (try go_simp)) | (split <;> (first | (rename_i hx; exact (hx _ rfl).elim) | go_prune)))
    rw [← HW3.out, ← HRb.out]
    go_wp2_with fail
    refine (SPC.out _ B3.out).mono ?_
    rintro r w4 ⟨rfl, h4⟩
    have B4 := Lib.hid (thenB B3.out h4)
    have KB4 := Lib.hid (KB3.out.below h4 KB3.out.lt)
    have KR4 := Lib.hid (KR3.out.below h4 KR3.out.lt)
    clear h4 lw3 lr3 c0 c1 c2 c3 c4 c5 c6 c7 c8 c9 c10 c11 c12 c13 c14
    have lw4 := KB4.out.lt
    have lr4 := KR4.out.lt
    have c0 : w4.cell? ⟨w.heap.size, 0, none⟩ = some (.string (bs n)) := KB4.out.cell 0
    have c1 : w4.cell? ⟨w.heap.size, 1, none⟩ = some (.int .u8 k) := KB4.out.cell 1
    have c2 : w4.cell? ⟨w.heap.size, 2, none⟩ = some (.int .i64 m1) := KB4.out.cell 2
    have c3 : w4.cell? ⟨w.heap.size, 3, none⟩ = some (.int .i64 m2) := KB4.out.cell 3
    have c4 : w4.cell? ⟨w.heap.size, 4, none⟩ = some (.int .i64 m3) := KB4.out.cell 4
    have c5 : w4.cell? ⟨w.heap.size, 5, none⟩ = some (.int .i64 z) := KB4.out.cell 5
    have c6 : w4.cell? ⟨w.heap.size, 6, none⟩ = some (.int .i64 sc) := KB4.out.cell 6
    have c7 : w4.cell? ⟨w.heap.size, 7, none⟩ = some (.int .i64 na) := KB4.out.cell 7
    have c8 : w4.cell? ⟨w.heap.size, 8, none⟩ = some (.string (bs l)) := KB4.out.cell 8
    have c9 : w4.cell? ⟨w.heap.size, 9, none⟩ = some (.string (bs u)) := KB4.out.cell 9
    have c10 : w4.cell? ⟨w.heap.size, 10, none⟩ = some (.string (bs gr)) := KB4.out.cell 10
    have c11 : w4.cell? ⟨w.heap.size, 11, none⟩ = some (.int .i64 mj) := KB4.out.cell 11
    have c12 : w4.cell? ⟨w.heap.size, 12, none⟩ = some (.int .i64 mn) := KB4.out.cell 12
    have c13 : w4.cell? ⟨w.heap.size, 13, none⟩ = some (.string (bs d)) := KB4.out.cell 13
    have c14 : w4.cell? ⟨w.heap.size, 14, none⟩ = some (.slice A mp.length cap) := KB4.out.cell 14
    have r0 : w4.cell? ⟨Rb, 0, none⟩ = some (.string (bs [])) := KR4.out.cell 0
    have r1 : w4.cell? ⟨Rb, 1, none⟩ = some (.string (bs [])) := KR4.out.cell 1
    have r2 : w4.cell? ⟨Rb, 2, none⟩ = some (.string (bs u)) := KR4.out.cell 2
    have r3 : w4.cell? ⟨Rb, 3, none⟩ = some (.string (bs gr)) := KR4.out.cell 3
    have r4 : w4.cell? ⟨Rb, 4, none⟩ = some (.string (bs [])) := KR4.out.cell 4
    have r5 : w4.cell? ⟨Rb, 5, none⟩ = some (.int .u8 k) := KR4.out.cell 5
    have r6 : w4.cell? ⟨Rb, 6, none⟩ = some (.int .i64 m1) := KR4.out.cell 6
    have r7 : w4.cell? ⟨Rb, 7, none⟩ = some (.int .i64 m2) := KR4.out.cell 7
    have r8 : w4.cell? ⟨Rb, 8, none⟩ = some (.int .i64 m3) := KR4.out.cell 8
    have r9 : w4.cell? ⟨Rb, 9, none⟩ = some (.int .i64 (d.length : Int)) := KR4.out.cell 9
    have r10 : w4.cell? ⟨Rb, 10, none⟩ = some (.int .i64 sc) := KR4.out.cell 10
    have r11 : w4.cell? ⟨Rb, 11, none⟩ = some (.int .i64 mj) := KR4.out.cell 11
    have r12 : w4.cell? ⟨Rb, 12, none⟩ = some (.int .i64 mn) := KR4.out.cell 12
    have bw := Below.refl w4.heap.size w4
    have KC := Lib.hid (fun w' (hb : Below w4.heap.size w4 w') => (show w'.cell? ⟨w.heap.size, 0, none⟩ = some (.string (bs n)) ∧ w'.cell? ⟨w.heap.size, 1, none⟩ = some (.int .u8 k) ∧ w'.cell? ⟨w.heap.size, 2, none⟩ = some (.int .i64 m1) ∧ w'.cell? ⟨w.heap.size, 3, none⟩ = some (.int .i64 m2) ∧ w'.cell? ⟨w.heap.size, 4, none⟩ = some (.int .i64 m3) ∧ w'.cell? ⟨w.heap.size, 5, none⟩ = some (.int .i64 z) ∧ w'.cell? ⟨w.heap.size, 6, none⟩ = some (.int .i64 sc) ∧ w'.cell? ⟨w.heap.size, 7, none⟩ = some (.int .i64 na) ∧ w'.cell? ⟨w.heap.size, 8, none⟩ = some (.string (bs l)) ∧ w'.cell? ⟨w.heap.size, 9, none⟩ = some (.string (bs u)) ∧ w'.cell? ⟨w.heap.size, 10, none⟩ = some (.string (bs gr)) ∧ w'.cell? ⟨w.heap.size, 11, none⟩ = some (.int .i64 mj) ∧ w'.cell? ⟨w.heap.size, 12, none⟩ = some (.int .i64 mn) ∧ w'.cell? ⟨w.heap.size, 13, none⟩ = some (.string (bs d)) ∧ w'.cell? ⟨w.heap.size, 14, none⟩ = some (.slice A mp.length cap) ∧ w'.cell? ⟨Rb, 0, none⟩ = some (.string (bs [])) ∧ w'.cell? ⟨Rb, 1, none⟩ = some (.string (bs [])) ∧ w'.cell? ⟨Rb, 2, none⟩ = some (.string (bs u)) ∧ w'.cell? ⟨Rb, 3, none⟩ = some (.string (bs gr)) ∧ w'.cell? ⟨Rb, 4, none⟩ = some (.string (bs [])) ∧ w'.cell? ⟨Rb, 5, none⟩ = some (.int .u8 k) ∧ w'.cell? ⟨Rb, 6, none⟩ = some (.int .i64 m1) ∧ w'.cell? ⟨Rb, 7, none⟩ = some (.int .i64 m2) ∧ w'.cell? ⟨Rb, 8, none⟩ = some (.int .i64 m3) ∧ w'.cell? ⟨Rb, 9, none⟩ = some (.int .i64 (d.length : Int)) ∧ w'.cell? ⟨Rb, 10, none⟩ = some (.int .i64 sc) ∧ w'.cell? ⟨Rb, 11, none⟩ = some (.int .i64 mj) ∧ w'.cell? ⟨Rb, 12, none⟩ = some (.int .i64 mn) ∧ Below w4.heap.size w4 w' from ⟨(KB4.out.below hb KB4.out.lt).cell 0, (KB4.out.below hb KB4.out.lt).cell 1, (KB4.out.below hb KB4.out.lt).cell 2, (KB4.out.below hb KB4.out.lt).cell 3, (KB4.out.below hb KB4.out.lt).cell 4, (KB4.out.below hb KB4.out.lt).cell 5, (KB4.out.below hb KB4.out.lt).cell 6, (KB4.out.below hb KB4.out.lt).cell 7, (KB4.out.below hb KB4.out.lt).cell 8, (KB4.out.below hb KB4.out.lt).cell 9, (KB4.out.below hb KB4.out.lt).cell 10, (KB4.out.below hb KB4.out.lt).cell 11, (KB4.out.below hb KB4.out.lt).cell 12, (KB4.out.below hb KB4.out.lt).cell 13, (KB4.out.below hb KB4.out.lt).cell 14, (KR4.out.below hb KR4.out.lt).cell 0, (KR4.out.below hb KR4.out.lt).cell 1, (KR4.out.below hb KR4.out.lt).cell 2, (KR4.out.below hb KR4.out.lt).cell 3, (KR4.out.below hb KR4.out.lt).cell 4, (KR4.out.below hb KR4.out.lt).cell 5, (KR4.out.below hb KR4.out.lt).cell 6, (KR4.out.below hb KR4.out.lt).cell 7, (KR4.out.below hb KR4.out.lt).cell 8, (KR4.out.below hb KR4.out.lt).cell 9, (KR4.out.below hb KR4.out.lt).cell 10, (KR4.out.below hb KR4.out.lt).cell 11, (KR4.out.below hb KR4.out.lt).cell 12, hb⟩))
    cases SE
    case true =>
      go_wp2_with fail
      go_ret2
      exact ⟨B4.out, .inr ⟨H3.out (by first | rfl | trivial) (.inl (by first | rfl | trivial)), _, _, rfl⟩⟩
    case false =>
      by_cases h0 : na = 0
      case neg =>
        have q0 : (na != 0) = true := by rw [bne_iff_ne]; exact h0
        go_wp2_with fail
        go_ret2
        exact ⟨B4.out, .inr ⟨H3.out (by first | rfl | trivial) (.inr h0), _, _, rfl⟩⟩
      case pos =>
        have hO := H4.out (by first | rfl | trivial) (by first | rfl | trivial) h0
        have q0 : (na != 0) = false := by rw [h0]; rfl
        have HO := Lib.hid hO
        clear hO h0
        go_wp2_with fail
        refine wp_region_held_drew (S := fun w' => w'.cell? ⟨w.heap.size, 0, none⟩ = some (.string (bs n)) ∧ w'.cell? ⟨w.heap.size, 1, none⟩ = some (.int .u8 k) ∧ w'.cell? ⟨w.heap.size, 2, none⟩ = some (.int .i64 m1) ∧ w'.cell? ⟨w.heap.size, 3, none⟩ = some (.int .i64 m2) ∧ w'.cell? ⟨w.heap.size, 4, none⟩ = some (.int .i64 m3) ∧ w'.cell? ⟨w.heap.size, 5, none⟩ = some (.int .i64 z) ∧ w'.cell? ⟨w.heap.size, 6, none⟩ = some (.int .i64 sc) ∧ w'.cell? ⟨w.heap.size, 7, none⟩ = some (.int .i64 na) ∧ w'.cell? ⟨w.heap.size, 8, none⟩ = some (.string (bs l)) ∧ w'.cell? ⟨w.heap.size, 9, none⟩ = some (.string (bs u)) ∧ w'.cell? ⟨w.heap.size, 10, none⟩ = some (.string (bs gr)) ∧ w'.cell? ⟨w.heap.size, 11, none⟩ = some (.int .i64 mj) ∧ w'.cell? ⟨w.heap.size, 12, none⟩ = some (.int .i64 mn) ∧ w'.cell? ⟨w.heap.size, 13, none⟩ = some (.string (bs d)) ∧ w'.cell? ⟨w.heap.size, 14, none⟩ = some (.slice A mp.length cap) ∧ w'.cell? ⟨Rb, 0, none⟩ = some (.string (bs [])) ∧ w'.cell? ⟨Rb, 1, none⟩ = some (.string (bs [])) ∧ w'.cell? ⟨Rb, 2, none⟩ = some (.string (bs u)) ∧ w'.cell? ⟨Rb, 3, none⟩ = some (.string (bs gr)) ∧ w'.cell? ⟨Rb, 4, none⟩ = some (.string (bs [])) ∧ w'.cell? ⟨Rb, 5, none⟩ = some (.int .u8 k) ∧ w'.cell? ⟨Rb, 6, none⟩ = some (.int .i64 m1) ∧ w'.cell? ⟨Rb, 7, none⟩ = some (.int .i64 m2) ∧ w'.cell? ⟨Rb, 8, none⟩ = some (.int .i64 m3) ∧ w'.cell? ⟨Rb, 9, none⟩ = some (.int .i64 (d.length : Int)) ∧ w'.cell? ⟨Rb, 10, none⟩ = some (.int .i64 sc) ∧ w'.cell? ⟨Rb, 11, none⟩ = some (.int .i64 mj) ∧ w'.cell? ⟨Rb, 12, none⟩ = some (.int .i64 mn) ∧ Below w4.heap.size w4 w') (by kernel_rfl) (KC.out _ (Below.drew bw)) (fun hHeld => ?_)
        refine wpAnyH_takeD (i := 0) (d := 58) (listed' := #[true, false, false, false, false, false, false, false, false, false, false, false, false]) (v := ?_) rfl (by kernel_rfl) (by kernel_rfl) (by kernel_rfl) (by kernel_rfl) (by kernel_rfl) (fun _ _ _ h => h) (Or.inl ⟨by kernel_rfl, ?_⟩) (by assumption) ?_; rotate_left; (focus (intro w hSw; (try dsimp only at hSw); go_simp; (try with_reducible rfl))); (try simp only [List.foldl_cons, List.foldl_nil, Act.put, List.setIfInBounds_toArray, List.set_cons_zero, List.set_cons_succ])
        refine wpAnyH_takeD (i := 1) (d := 59) (listed' := #[true, true, false, false, false, false, false, false, false, false, false, false, false]) (v := ?_) rfl (by kernel_rfl) (by kernel_rfl) (by kernel_rfl) (by kernel_rfl) (by kernel_rfl) (fun _ _ _ h => h) (Or.inl ⟨by kernel_rfl, ?_⟩) (by assumption) ?_; rotate_left; (focus (intro w hSw; (try dsimp only at hSw); go_simp; (try with_reducible rfl))); (try simp only [List.foldl_cons, List.foldl_nil, Act.put, List.setIfInBounds_toArray, List.set_cons_zero, List.set_cons_succ])
        refine wpAnyH_takeD (i := 2) (d := 60) (listed' := #[true, true, true, false, false, false, false, false, false, false, false, false, false]) (v := ?_) rfl (by kernel_rfl) (by kernel_rfl) (by kernel_rfl) (by kernel_rfl) (by kernel_rfl) (fun _ _ _ h => h) (Or.inl ⟨by kernel_rfl, ?_⟩) (by assumption) ?_; rotate_left; (focus (intro w hSw; (try dsimp only at hSw); go_simp; (try with_reducible rfl))); (try simp only [List.foldl_cons, List.foldl_nil, Act.put, List.setIfInBounds_toArray, List.set_cons_zero, List.set_cons_succ])
        refine wpAnyH_takeD (i := 4) (d := 62) (listed' := #[true, true, true, false, true, false, false, false, false, false, false, false, false]) (v := ?_) rfl (by kernel_rfl) (by kernel_rfl) (by kernel_rfl) (by kernel_rfl) (by kernel_rfl) (fun _ _ _ h => h) (Or.inl ⟨by kernel_rfl, ?_⟩) (by assumption) ?_; rotate_left; (focus (intro w hSw; (try dsimp only at hSw); go_simp; (try with_reducible rfl))); (try simp only [List.foldl_cons, List.foldl_nil, Act.put, List.setIfInBounds_toArray, List.set_cons_zero, List.set_cons_succ])
        refine wpAnyH_takeD (i := 5) (d := 63) (listed' := #[true, true, true, false, true, true, false, false, false, false, false, false, false]) (v := ?_) rfl (by kernel_rfl) (by kernel_rfl) (by kernel_rfl) (by kernel_rfl) (by kernel_rfl) (fun _ _ _ h => h) (Or.inl ⟨by kernel_rfl, ?_⟩) (by assumption) ?_; rotate_left; (focus (intro w hSw; (try dsimp only at hSw); go_simp; (try with_reducible rfl))); (try simp only [List.foldl_cons, List.foldl_nil, Act.put, List.setIfInBounds_toArray, List.set_cons_zero, List.set_cons_succ])
        refine wpAnyH_takeD (i := 6) (d := 64) (listed' := #[true, true, true, false, true, true, true, false, false, false, false, false, false]) (v := ?_) rfl (by kernel_rfl) (by kernel_rfl) (by kernel_rfl) (by kernel_rfl) (by kernel_rfl) (fun _ _ _ h => h) (Or.inl ⟨by kernel_rfl, ?_⟩) (by assumption) ?_; rotate_left; (focus (intro w hSw; (try dsimp only at hSw); go_simp; (try with_reducible rfl))); (try simp only [List.foldl_cons, List.foldl_nil, Act.put, List.setIfInBounds_toArray, List.set_cons_zero, List.set_cons_succ])
        refine wpAnyH_takeD (i := 7) (d := 65) (listed' := #[true, true, true, false, true, true, true, true, false, false, false, false, false]) (v := ?_) rfl (by kernel_rfl) (by kernel_rfl) (by kernel_rfl) (by kernel_rfl) (by kernel_rfl) (fun _ _ _ h => h) (Or.inl ⟨by kernel_rfl, ?_⟩) (by assumption) ?_; rotate_left; (focus (intro w hSw; (try dsimp only at hSw); go_simp; (try with_reducible rfl))); (try simp only [List.foldl_cons, List.foldl_nil, Act.put, List.setIfInBounds_toArray, List.set_cons_zero, List.set_cons_succ])
        obtain ⟨x0, hx0⟩ : ∃ x, x = w4.drew := ⟨_, rfl⟩
        have BD := Lib.hid (show Below w4.heap.size w4 x0 by rw [hx0]; exact Below.drew bw)
        rw [← hx0]
        clear hx0 hHeld
        refine wpAnyH_ready (rs := [3]) (by kernel_rfl) (by simp) ?_
        refine AllReadyH.cons rfl (fun K hK => ?_) AllReadyH.nil
        go_simp
        refine (NMC.out _).mono ?_
        rintro r x1 ⟨rfl, hx⟩
        have B5 := Lib.hid (thenB BD.out hx)
        clear hx
        refine hK.out _ _ (KC.out _ B5.out) (fun hHeld1 => ?_)
        clear hK K
        (try simp only [List.foldl_cons, List.foldl_nil, Act.put, List.setIfInBounds_toArray, List.set_cons_zero, List.set_cons_succ])
        refine wpAnyH_ready (rs := [8]) (by kernel_rfl) (by simp) ?_
        refine AllReadyH.cons rfl (fun K hK => ?_) AllReadyH.nil
        go_simp
        refine (WT.out (by first | rfl | trivial) _).mono ?_
        rintro r x2 ⟨h6b, h6⟩
        obtain ⟨sv, er, rfl, h7⟩ := wpair h6
        have B6 := Lib.hid (thenB B5.out h6b)
        have H7 := Lib.hid h7
        clear h6b h6 h7
        refine hK.out _ _ (KC.out _ B6.out) (fun hHeld2 => ?_)
        clear hK K hHeld1
        (try simp only [List.foldl_cons, List.foldl_nil, Act.put, List.setIfInBounds_toArray, List.set_cons_zero, List.set_cons_succ])
        refine wpAnyH_takeD (i := 9) (d := 67) (listed' := #[true, true, true, true, true, true, true, true, true, true, false, false, false]) (v := ?_) rfl (by kernel_rfl) (by kernel_rfl) (by kernel_rfl) (by kernel_rfl) (by kernel_rfl) (fun _ _ _ h => h) (Or.inl ⟨by kernel_rfl, ?_⟩) (by assumption) ?_; rotate_left; (focus (intro w hSw; (try dsimp only at hSw); go_simp; (try with_reducible rfl))); (try simp only [List.foldl_cons, List.foldl_nil, Act.put, List.setIfInBounds_toArray, List.set_cons_zero, List.set_cons_succ])
        refine wpAnyH_takeD (i := 10) (d := 68) (listed' := #[true, true, true, true, true, true, true, true, true, true, true, false, false]) (v := ?_) rfl (by kernel_rfl) (by kernel_rfl) (by kernel_rfl) (by kernel_rfl) (by kernel_rfl) (fun _ _ _ h => h) (Or.inl ⟨by kernel_rfl, ?_⟩) (by assumption) ?_; rotate_left; (focus (intro w hSw; (try dsimp only at hSw); go_simp; (try with_reducible rfl))); (try simp only [List.foldl_cons, List.foldl_nil, Act.put, List.setIfInBounds_toArray, List.set_cons_zero, List.set_cons_succ])
        refine wpAnyH_takeD (i := 11) (d := 4) (listed' := #[true, true, true, true, true, true, true, true, true, true, true, true, false]) (v := ?_) rfl (by kernel_rfl) (by kernel_rfl) (by kernel_rfl) (by kernel_rfl) (by kernel_rfl) (fun _ _ _ h => h) (Or.inl ⟨by kernel_rfl, ?_⟩) (by assumption) ?_; rotate_left; (focus (intro w hSw; (try dsimp only at hSw); go_simp; (try with_reducible rfl))); (try simp only [List.foldl_cons, List.foldl_nil, Act.put, List.setIfInBounds_toArray, List.set_cons_zero, List.set_cons_succ])
        refine wpAnyH_takeD (i := 12) (d := 5) (listed' := #[true, true, true, true, true, true, true, true, true, true, true, true, true]) (v := ?_) rfl (by kernel_rfl) (by kernel_rfl) (by kernel_rfl) (by kernel_rfl) (by kernel_rfl) (fun _ _ _ h => h) (Or.inl ⟨by kernel_rfl, ?_⟩) (by assumption) ?_; rotate_left; (focus (intro w hSw; (try dsimp only at hSw); go_simp; (try with_reducible rfl))); (try simp only [List.foldl_cons, List.foldl_nil, Act.put, List.setIfInBounds_toArray, List.set_cons_zero, List.set_cons_succ])
        refine wpAnyH_done (by kernel_rfl) ?_ _
        go_wp2_with fail
        go_ret2
        refine ⟨thenB B4.out B6.out, ?_⟩
        rw [HO.out]
        rcases H7.out with ⟨m, h, rfl, rfl⟩ | ⟨h, s, x, rfl, rfl⟩
        · exact .inl ⟨m, h, rfl⟩
        · exact .inr ⟨h, s, x, rfl⟩

end Go.Proofs.YtkhkjacnoiopcaaGreatDoor
