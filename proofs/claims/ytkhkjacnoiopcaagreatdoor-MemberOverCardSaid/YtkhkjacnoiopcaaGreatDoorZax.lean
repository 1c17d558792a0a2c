/-
  member.settled: a member without what its kind does not have.
-/
import Derived.Test.YtkhkjacnoiopcaaGreatDoorZaw
import Derived.Test.YtkhkjacnoiopcaaGreatDoorZam
import Derived.BigQuiet
import Derived.Deep.QuietTactic
set_option linter.unusedVariables false
set_option linter.unusedSimpArgs false

set_option linter.unusedVariables false
set_option linter.unusedSimpArgs false
namespace Go.Proofs.YtkhkjacnoiopcaaGreatDoor
open Go.RowKit Tre Pk

theorem set15 {w : World} {g : Nat} {t : TypeId} {o0 o1 o2 o3 o4 o5 o6 o7 o8 o9 o10 o11 o12 o13 o14 : Value} (h : Blk w g t #[o0, o1, o2, o3, o4, o5, o6, o7, o8, o9, o10, o11, o12, o13, o14]) (v0 v1 v2 v3 v4 v5 v6 v7 v8 v9 v10 v11 v12 v13 v14 : Value) : Blk (((((((((((((((w.setCell ⟨g, 0, none⟩ v0).setCell ⟨g, 1, none⟩ v1).setCell ⟨g, 2, none⟩ v2).setCell ⟨g, 3, none⟩ v3).setCell ⟨g, 4, none⟩ v4).setCell ⟨g, 5, none⟩ v5).setCell ⟨g, 6, none⟩ v6).setCell ⟨g, 7, none⟩ v7).setCell ⟨g, 8, none⟩ v8).setCell ⟨g, 9, none⟩ v9).setCell ⟨g, 10, none⟩ v10).setCell ⟨g, 11, none⟩ v11).setCell ⟨g, 12, none⟩ v12).setCell ⟨g, 13, none⟩ v13).setCell ⟨g, 14, none⟩ v14) g t #[v0, v1, v2, v3, v4, v5, v6, v7, v8, v9, v10, v11, v12, v13, v14] := by
  have := (((((((((((((((h.set_ 0 v0).set_ 1 v1).set_ 2 v2).set_ 3 v3).set_ 4 v4).set_ 5 v5).set_ 6 v6).set_ 7 v7).set_ 8 v8).set_ 9 v9).set_ 10 v10).set_ 11 v11).set_ 12 v12).set_ 13 v13).set_ 14 v14)
  simpa using this
theorem below15 {B : Nat} {a w : World} {g : Nat} (h : Below B a w) (hg : B ≤ g) (v0 v1 v2 v3 v4 v5 v6 v7 v8 v9 v10 v11 v12 v13 v14 : Value) : Below B a (((((((((((((((w.setCell ⟨g, 0, none⟩ v0).setCell ⟨g, 1, none⟩ v1).setCell ⟨g, 2, none⟩ v2).setCell ⟨g, 3, none⟩ v3).setCell ⟨g, 4, none⟩ v4).setCell ⟨g, 5, none⟩ v5).setCell ⟨g, 6, none⟩ v6).setCell ⟨g, 7, none⟩ v7).setCell ⟨g, 8, none⟩ v8).setCell ⟨g, 9, none⟩ v9).setCell ⟨g, 10, none⟩ v10).setCell ⟨g, 11, none⟩ v11).setCell ⟨g, 12, none⟩ v12).setCell ⟨g, 13, none⟩ v13).setCell ⟨g, 14, none⟩ v14) := (((((((((((((((h.setCell (p := ⟨g, 0, none⟩) hg v0).setCell (p := ⟨g, 1, none⟩) hg v1).setCell (p := ⟨g, 2, none⟩) hg v2).setCell (p := ⟨g, 3, none⟩) hg v3).setCell (p := ⟨g, 4, none⟩) hg v4).setCell (p := ⟨g, 5, none⟩) hg v5).setCell (p := ⟨g, 6, none⟩) hg v6).setCell (p := ⟨g, 7, none⟩) hg v7).setCell (p := ⟨g, 8, none⟩) hg v8).setCell (p := ⟨g, 9, none⟩) hg v9).setCell (p := ⟨g, 10, none⟩) hg v10).setCell (p := ⟨g, 11, none⟩) hg v11).setCell (p := ⟨g, 12, none⟩) hg v12).setCell (p := ⟨g, 13, none⟩) hg v13).setCell (p := ⟨g, 14, none⟩) hg v14)

set_option maxRecDepth 100000 in
set_option maxHeartbeats 8000000 in
theorem settled_A (n l us gr d : Bl) (md ui gi z s a mj mn : Int) (mv : Value) (hn : n.length ≤ 1000000) (hs : Lib.hasSuffix n [47] = true) (w : World) :
    Calls Tryz.prog 94 #[.agg #[.string (bs n), .int .u8 48, .int .i64 md, .int .i64 ui, .int .i64 gi, .int .i64 z, .int .i64 s, .int .i64 a, .string (bs l), .string (bs us), .string (bs gr), .int .i64 mj, .int .i64 mn, .string (bs d), mv]] w fun r w' => r = .returned (.agg #[.string (bs (trimS n)), .int .u8 53, .int .i64 md, .int .i64 ui, .int .i64 gi, .int .i64 0, .int .i64 s, .int .i64 a, .string ⟨#[]⟩, .string (bs us), .string (bs gr), .int .i64 0, .int .i64 0, .string ⟨#[]⟩, .slice none 0 0]) ∧ Below w.heap.size w w' := by
  obtain ⟨W, hW⟩ : ∃ W, W = (w.alloc (.cells #[.string (bs n), .int .u8 48, .int .i64 md, .int .i64 ui, .int .i64 gi, .int .i64 z, .int .i64 s, .int .i64 a, .string (bs l), .string (bs us), .string (bs gr), .int .i64 mj, .int .i64 mn, .string (bs d), mv] 26)).alloc (.cells #[.string ⟨#[]⟩, .int .u8 0, .int .i64 0, .int .i64 0, .int .i64 0, .int .i64 0, .int .i64 0, .int .i64 0, .string ⟨#[]⟩, .string ⟨#[]⟩, .string ⟨#[]⟩, .int .i64 0, .int .i64 0, .string ⟨#[]⟩, .slice none 0 0] 26) := ⟨_, rfl⟩
  have HB := Lib.hid (show Below w.heap.size w W by rw [hW]; exact ((Below.refl _ _).alloc (Nat.le_refl _) _).alloc (by simp) _)
  have K1 := Lib.hid (show Blk W w.heap.size 26 #[.string (bs n), .int .u8 48, .int .i64 md, .int .i64 ui, .int .i64 gi, .int .i64 z, .int .i64 s, .int .i64 a, .string (bs l), .string (bs us), .string (bs gr), .int .i64 mj, .int .i64 mn, .string (bs d), mv] by rw [hW]; exact (Blk.new w 26 _).alloc _)
  have K2 := Lib.hid (show Blk W (w.heap.size + 1) 26 #[.string ⟨#[]⟩, .int .u8 0, .int .i64 0, .int .i64 0, .int .i64 0, .int .i64 0, .int .i64 0, .int .i64 0, .string ⟨#[]⟩, .string ⟨#[]⟩, .string ⟨#[]⟩, .int .i64 0, .int .i64 0, .string ⟨#[]⟩, .slice none 0 0] by
    have := Blk.new (w.alloc (.cells #[.string (bs n), .int .u8 48, .int .i64 md, .int .i64 ui, .int .i64 gi, .int .i64 z, .int .i64 s, .int .i64 a, .string (bs l), .string (bs us), .string (bs gr), .int .i64 mj, .int .i64 mn, .string (bs d), mv] 26)) 26 #[.string ⟨#[]⟩, .int .u8 0, .int .i64 0, .int .i64 0, .int .i64 0, .int .i64 0, .int .i64 0, .int .i64 0, .string ⟨#[]⟩, .string ⟨#[]⟩, .string ⟨#[]⟩, .int .i64 0, .int .i64 0, .string ⟨#[]⟩, .slice none 0 0]
    rw [show (w.alloc (.cells #[.string (bs n), .int .u8 48, .int .i64 md, .int .i64 ui, .int .i64 gi, .int .i64 z, .int .i64 s, .int .i64 a, .string (bs l), .string (bs us), .string (bs gr), .int .i64 mj, .int .i64 mn, .string (bs d), mv] 26)).heap.size = w.heap.size + 1 by simp] at this
    rw [hW]; exact this)
  have HW := Lib.hid hW
  have l1 := K1.out.lt
  have l2 := K2.out.lt
  have ne1 : ¬ w.heap.size = w.heap.size + 1 := by omega
  have ne2 : ¬ w.heap.size + 1 = w.heap.size := by omega
  have c0 : W.cell? ⟨w.heap.size, 0, none⟩ = some (.string (bs n)) := K1.out.cell 0
  have f0 := K1.out.frozen 0
  have d0 := K2.out.cell 0
  have g0 := K2.out.frozen 0
  have c1 : W.cell? ⟨w.heap.size, 1, none⟩ = some (.int .u8 48) := K1.out.cell 1
  have f1 := K1.out.frozen 1
  have d1 := K2.out.cell 1
  have g1 := K2.out.frozen 1
  have c2 : W.cell? ⟨w.heap.size, 2, none⟩ = some (.int .i64 md) := K1.out.cell 2
  have f2 := K1.out.frozen 2
  have d2 := K2.out.cell 2
  have g2 := K2.out.frozen 2
  have c3 : W.cell? ⟨w.heap.size, 3, none⟩ = some (.int .i64 ui) := K1.out.cell 3
  have f3 := K1.out.frozen 3
  have d3 := K2.out.cell 3
  have g3 := K2.out.frozen 3
  have c4 : W.cell? ⟨w.heap.size, 4, none⟩ = some (.int .i64 gi) := K1.out.cell 4
  have f4 := K1.out.frozen 4
  have d4 := K2.out.cell 4
  have g4 := K2.out.frozen 4
  have c5 : W.cell? ⟨w.heap.size, 5, none⟩ = some (.int .i64 z) := K1.out.cell 5
  have f5 := K1.out.frozen 5
  have d5 := K2.out.cell 5
  have g5 := K2.out.frozen 5
  have c6 : W.cell? ⟨w.heap.size, 6, none⟩ = some (.int .i64 s) := K1.out.cell 6
  have f6 := K1.out.frozen 6
  have d6 := K2.out.cell 6
  have g6 := K2.out.frozen 6
  have c7 : W.cell? ⟨w.heap.size, 7, none⟩ = some (.int .i64 a) := K1.out.cell 7
  have f7 := K1.out.frozen 7
  have d7 := K2.out.cell 7
  have g7 := K2.out.frozen 7
  have c8 : W.cell? ⟨w.heap.size, 8, none⟩ = some (.string (bs l)) := K1.out.cell 8
  have f8 := K1.out.frozen 8
  have d8 := K2.out.cell 8
  have g8 := K2.out.frozen 8
  have c9 : W.cell? ⟨w.heap.size, 9, none⟩ = some (.string (bs us)) := K1.out.cell 9
  have f9 := K1.out.frozen 9
  have d9 := K2.out.cell 9
  have g9 := K2.out.frozen 9
  have c10 : W.cell? ⟨w.heap.size, 10, none⟩ = some (.string (bs gr)) := K1.out.cell 10
  have f10 := K1.out.frozen 10
  have d10 := K2.out.cell 10
  have g10 := K2.out.frozen 10
  have c11 : W.cell? ⟨w.heap.size, 11, none⟩ = some (.int .i64 mj) := K1.out.cell 11
  have f11 := K1.out.frozen 11
  have d11 := K2.out.cell 11
  have g11 := K2.out.frozen 11
  have c12 : W.cell? ⟨w.heap.size, 12, none⟩ = some (.int .i64 mn) := K1.out.cell 12
  have f12 := K1.out.frozen 12
  have d12 := K2.out.cell 12
  have g12 := K2.out.frozen 12
  have c13 : W.cell? ⟨w.heap.size, 13, none⟩ = some (.string (bs d)) := K1.out.cell 13
  have f13 := K1.out.frozen 13
  have d13 := K2.out.cell 13
  have g13 := K2.out.frozen 13
  have c14 : W.cell? ⟨w.heap.size, 14, none⟩ = some (mv) := K1.out.cell 14
  have f14 := K1.out.frozen 14
  have d14 := K2.out.cell 14
  have g14 := K2.out.frozen 14
  have HS := Lib.hid (fun w => Tryz.strings_HasSuffix (bs n) ⟨#[47]⟩ w (by rw [bs_size]; omega))
  rw [bs_list, show (⟨#[47]⟩ : ByteArray).data.toList = [47] from rfl, hs] at HS
  have TR := Lib.hid (fun w => Tryz.strings_TrimRight_one (bs n) 47 (by decide) w (by rw [bs_size]; omega))
  have htr : (⟨(Lib.trimRightB (bs n).data.toList 47).toArray⟩ : ByteArray) = bs (trimS n) := by rw [bs_list]; rfl
  rw [htr] at TR
  clear htr
  have LK := Lib.hid (fun w => isLink_any 53 w)
  have DV := Lib.hid (fun w => isDevice_any 53 w)
  rw [show ((53 : Nat) == 49 || (53 : Nat) == 50) = false from rfl] at LK
  rw [show ((53 : Nat) == 51 || (53 : Nat) == 52) = false from rfl] at DV
  clear hW hs
  go_enter Tryz.func94, Tryz.ntmps94
  repeat' ((fail_if_success (with_reducible refine halt_at 1 ?_)); first | go_values | go_skip | go_guarded | go_step | go_upon | go_back | (simp only [Int.not_lt, Int.not_le] at *; go_simp) | (go_values <;> (try go_simp)) | (go_ite <;> go_prune <;> (try go_simp)) | (split <;> (first | (rename_i hx; exact (hx _ rfl).elim) | go_prune)))
  rw [← HW.out]
  go_wp2_with (first | (go_at_call 23; refine (HS.out _).mono ?_; rintro e w2 ⟨rfl, rfl⟩) | (go_at_call 22; refine (TR.out _).mono ?_; rintro e w2 ⟨rfl, rfl⟩) | (go_at_call 51; refine (LK.out _).mono ?_; rintro e w2 ⟨rfl, rfl⟩) | (go_at_call 39; refine (DV.out _).mono ?_; rintro e w2 ⟨rfl, rfl⟩))
  have hX := set15 ((((((((K2.out.far (p := ⟨w.heap.size, 1, none⟩) (by show w.heap.size + 1 ≠ w.heap.size; omega) (.int .u8 53)).far (p := ⟨w.heap.size, 0, none⟩) (by show w.heap.size + 1 ≠ w.heap.size; omega) (.string (bs (trimS n)))).far (p := ⟨w.heap.size, 5, none⟩) (by show w.heap.size + 1 ≠ w.heap.size; omega) (.int .i64 0)).far (p := ⟨w.heap.size, 13, none⟩) (by show w.heap.size + 1 ≠ w.heap.size; omega) (.string ⟨#[]⟩)).far (p := ⟨w.heap.size, 14, none⟩) (by show w.heap.size + 1 ≠ w.heap.size; omega) (.slice none 0 0)).far (p := ⟨w.heap.size, 8, none⟩) (by show w.heap.size + 1 ≠ w.heap.size; omega) (.string ⟨#[]⟩)).far (p := ⟨w.heap.size, 11, none⟩) (by show w.heap.size + 1 ≠ w.heap.size; omega) (.int .i64 0)).far (p := ⟨w.heap.size, 12, none⟩) (by show w.heap.size + 1 ≠ w.heap.size; omega) (.int .i64 0)) (.string (bs (trimS n))) (.int .u8 53) (.int .i64 md) (.int .i64 ui) (.int .i64 gi) (.int .i64 0) (.int .i64 s) (.int .i64 a) (.string ⟨#[]⟩) (.string (bs us)) (.string (bs gr)) (.int .i64 0) (.int .i64 0) (.string ⟨#[]⟩) (.slice none 0 0)
  have hXb := below15 ((((((((HB.out.setCell (p := ⟨w.heap.size, 1, none⟩) (Nat.le_refl _) (.int .u8 53)).setCell (p := ⟨w.heap.size, 0, none⟩) (Nat.le_refl _) (.string (bs (trimS n)))).setCell (p := ⟨w.heap.size, 5, none⟩) (Nat.le_refl _) (.int .i64 0)).setCell (p := ⟨w.heap.size, 13, none⟩) (Nat.le_refl _) (.string ⟨#[]⟩)).setCell (p := ⟨w.heap.size, 14, none⟩) (Nat.le_refl _) (.slice none 0 0)).setCell (p := ⟨w.heap.size, 8, none⟩) (Nat.le_refl _) (.string ⟨#[]⟩)).setCell (p := ⟨w.heap.size, 11, none⟩) (Nat.le_refl _) (.int .i64 0)).setCell (p := ⟨w.heap.size, 12, none⟩) (Nat.le_refl _) (.int .i64 0)) (by omega : w.heap.size ≤ w.heap.size + 1) (.string (bs (trimS n))) (.int .u8 53) (.int .i64 md) (.int .i64 ui) (.int .i64 gi) (.int .i64 0) (.int .i64 s) (.int .i64 a) (.string ⟨#[]⟩) (.string (bs us)) (.string (bs gr)) (.int .i64 0) (.int .i64 0) (.string ⟨#[]⟩) (.slice none 0 0)
  generalize hX0 : World.setCell _ ⟨w.heap.size + 1, 14, none⟩ (.slice none 0 0) = X at hX hXb ⊢
  have e0 := hX.cell 0
  have e1 := hX.cell 1
  have e2 := hX.cell 2
  have e3 := hX.cell 3
  have e4 := hX.cell 4
  have e5 := hX.cell 5
  have e6 := hX.cell 6
  have e7 := hX.cell 7
  have e8 := hX.cell 8
  have e9 := hX.cell 9
  have e10 := hX.cell 10
  have e11 := hX.cell 11
  have e12 := hX.cell 12
  have e13 := hX.cell 13
  have e14 := hX.cell 14
  try simp only [Exit.inBlock, Exit.then]
  refine bodyPost_ret (v := .agg #[.string (bs (trimS n)), .int .u8 53, .int .i64 md, .int .i64 ui, .int .i64 gi, .int .i64 0, .int .i64 s, .int .i64 a, .string ⟨#[]⟩, .string (bs us), .string (bs gr), .int .i64 0, .int .i64 0, .string ⟨#[]⟩, .slice none 0 0]) ?_ rfl ⟨rfl, hXb⟩
  simp [results, Tryz.results94, go_sem, e0, e1, e2, e3, e4, e5, e6, e7, e8, e9, e10, e11, e12, e13, e14]

set_option maxRecDepth 100000 in
set_option maxHeartbeats 8000000 in
theorem settled_B (n l us gr d : Bl) (md ui gi z s a mj mn : Int) (A0 : Option Addr) (m0 cq : Nat) (hn : n.length ≤ 1000000) (hs : Lib.hasSuffix n [47] = false) (w : World) :
    Calls Tryz.prog 94 #[.agg #[.string (bs n), .int .u8 48, .int .i64 md, .int .i64 ui, .int .i64 gi, .int .i64 z, .int .i64 s, .int .i64 a, .string (bs l), .string (bs us), .string (bs gr), .int .i64 mj, .int .i64 mn, .string (bs d), .slice A0 m0 cq]] w fun r w' => r = .returned (.agg #[.string (bs n), .int .u8 48, .int .i64 md, .int .i64 ui, .int .i64 gi, .int .i64 z, .int .i64 s, .int .i64 a, .string ⟨#[]⟩, .string (bs us), .string (bs gr), .int .i64 0, .int .i64 0, .string (bs d), .slice A0 m0 cq]) ∧ Below w.heap.size w w' := by
  obtain ⟨W, hW⟩ : ∃ W, W = (w.alloc (.cells #[.string (bs n), .int .u8 48, .int .i64 md, .int .i64 ui, .int .i64 gi, .int .i64 z, .int .i64 s, .int .i64 a, .string (bs l), .string (bs us), .string (bs gr), .int .i64 mj, .int .i64 mn, .string (bs d), .slice A0 m0 cq] 26)).alloc (.cells #[.string ⟨#[]⟩, .int .u8 0, .int .i64 0, .int .i64 0, .int .i64 0, .int .i64 0, .int .i64 0, .int .i64 0, .string ⟨#[]⟩, .string ⟨#[]⟩, .string ⟨#[]⟩, .int .i64 0, .int .i64 0, .string ⟨#[]⟩, .slice none 0 0] 26) := ⟨_, rfl⟩
  have HB := Lib.hid (show Below w.heap.size w W by rw [hW]; exact ((Below.refl _ _).alloc (Nat.le_refl _) _).alloc (by simp) _)
  have K1 := Lib.hid (show Blk W w.heap.size 26 #[.string (bs n), .int .u8 48, .int .i64 md, .int .i64 ui, .int .i64 gi, .int .i64 z, .int .i64 s, .int .i64 a, .string (bs l), .string (bs us), .string (bs gr), .int .i64 mj, .int .i64 mn, .string (bs d), .slice A0 m0 cq] by rw [hW]; exact (Blk.new w 26 _).alloc _)
  have K2 := Lib.hid (show Blk W (w.heap.size + 1) 26 #[.string ⟨#[]⟩, .int .u8 0, .int .i64 0, .int .i64 0, .int .i64 0, .int .i64 0, .int .i64 0, .int .i64 0, .string ⟨#[]⟩, .string ⟨#[]⟩, .string ⟨#[]⟩, .int .i64 0, .int .i64 0, .string ⟨#[]⟩, .slice none 0 0] by
    have := Blk.new (w.alloc (.cells #[.string (bs n), .int .u8 48, .int .i64 md, .int .i64 ui, .int .i64 gi, .int .i64 z, .int .i64 s, .int .i64 a, .string (bs l), .string (bs us), .string (bs gr), .int .i64 mj, .int .i64 mn, .string (bs d), .slice A0 m0 cq] 26)) 26 #[.string ⟨#[]⟩, .int .u8 0, .int .i64 0, .int .i64 0, .int .i64 0, .int .i64 0, .int .i64 0, .int .i64 0, .string ⟨#[]⟩, .string ⟨#[]⟩, .string ⟨#[]⟩, .int .i64 0, .int .i64 0, .string ⟨#[]⟩, .slice none 0 0]
    rw [show (w.alloc (.cells #[.string (bs n), .int .u8 48, .int .i64 md, .int .i64 ui, .int .i64 gi, .int .i64 z, .int .i64 s, .int .i64 a, .string (bs l), .string (bs us), .string (bs gr), .int .i64 mj, .int .i64 mn, .string (bs d), .slice A0 m0 cq] 26)).heap.size = w.heap.size + 1 by simp] at this
    rw [hW]; exact this)
  have HW := Lib.hid hW
  have l1 := K1.out.lt
  have l2 := K2.out.lt
  have ne1 : ¬ w.heap.size = w.heap.size + 1 := by omega
  have ne2 : ¬ w.heap.size + 1 = w.heap.size := by omega
  have c0 : W.cell? ⟨w.heap.size, 0, none⟩ = some (.string (bs n)) := K1.out.cell 0
  have f0 := K1.out.frozen 0
  have d0 := K2.out.cell 0
  have g0 := K2.out.frozen 0
  have c1 : W.cell? ⟨w.heap.size, 1, none⟩ = some (.int .u8 48) := K1.out.cell 1
  have f1 := K1.out.frozen 1
  have d1 := K2.out.cell 1
  have g1 := K2.out.frozen 1
  have c2 : W.cell? ⟨w.heap.size, 2, none⟩ = some (.int .i64 md) := K1.out.cell 2
  have f2 := K1.out.frozen 2
  have d2 := K2.out.cell 2
  have g2 := K2.out.frozen 2
  have c3 : W.cell? ⟨w.heap.size, 3, none⟩ = some (.int .i64 ui) := K1.out.cell 3
  have f3 := K1.out.frozen 3
  have d3 := K2.out.cell 3
  have g3 := K2.out.frozen 3
  have c4 : W.cell? ⟨w.heap.size, 4, none⟩ = some (.int .i64 gi) := K1.out.cell 4
  have f4 := K1.out.frozen 4
  have d4 := K2.out.cell 4
  have g4 := K2.out.frozen 4
  have c5 : W.cell? ⟨w.heap.size, 5, none⟩ = some (.int .i64 z) := K1.out.cell 5
  have f5 := K1.out.frozen 5
  have d5 := K2.out.cell 5
  have g5 := K2.out.frozen 5
  have c6 : W.cell? ⟨w.heap.size, 6, none⟩ = some (.int .i64 s) := K1.out.cell 6
  have f6 := K1.out.frozen 6
  have d6 := K2.out.cell 6
  have g6 := K2.out.frozen 6
  have c7 : W.cell? ⟨w.heap.size, 7, none⟩ = some (.int .i64 a) := K1.out.cell 7
  have f7 := K1.out.frozen 7
  have d7 := K2.out.cell 7
  have g7 := K2.out.frozen 7
  have c8 : W.cell? ⟨w.heap.size, 8, none⟩ = some (.string (bs l)) := K1.out.cell 8
  have f8 := K1.out.frozen 8
  have d8 := K2.out.cell 8
  have g8 := K2.out.frozen 8
  have c9 : W.cell? ⟨w.heap.size, 9, none⟩ = some (.string (bs us)) := K1.out.cell 9
  have f9 := K1.out.frozen 9
  have d9 := K2.out.cell 9
  have g9 := K2.out.frozen 9
  have c10 : W.cell? ⟨w.heap.size, 10, none⟩ = some (.string (bs gr)) := K1.out.cell 10
  have f10 := K1.out.frozen 10
  have d10 := K2.out.cell 10
  have g10 := K2.out.frozen 10
  have c11 : W.cell? ⟨w.heap.size, 11, none⟩ = some (.int .i64 mj) := K1.out.cell 11
  have f11 := K1.out.frozen 11
  have d11 := K2.out.cell 11
  have g11 := K2.out.frozen 11
  have c12 : W.cell? ⟨w.heap.size, 12, none⟩ = some (.int .i64 mn) := K1.out.cell 12
  have f12 := K1.out.frozen 12
  have d12 := K2.out.cell 12
  have g12 := K2.out.frozen 12
  have c13 : W.cell? ⟨w.heap.size, 13, none⟩ = some (.string (bs d)) := K1.out.cell 13
  have f13 := K1.out.frozen 13
  have d13 := K2.out.cell 13
  have g13 := K2.out.frozen 13
  have c14 : W.cell? ⟨w.heap.size, 14, none⟩ = some (.slice A0 m0 cq) := K1.out.cell 14
  have f14 := K1.out.frozen 14
  have d14 := K2.out.cell 14
  have g14 := K2.out.frozen 14
  have HS := Lib.hid (fun w => Tryz.strings_HasSuffix (bs n) ⟨#[47]⟩ w (by rw [bs_size]; omega))
  rw [bs_list, show (⟨#[47]⟩ : ByteArray).data.toList = [47] from rfl, hs] at HS
  have LK := Lib.hid (fun w => isLink_any 48 w)
  have DV := Lib.hid (fun w => isDevice_any 48 w)
  rw [show ((48 : Nat) == 49 || (48 : Nat) == 50) = false from rfl] at LK
  rw [show ((48 : Nat) == 51 || (48 : Nat) == 52) = false from rfl] at DV
  clear hW hs
  go_enter Tryz.func94, Tryz.ntmps94
  repeat' ((fail_if_success (with_reducible refine halt_at 1 ?_)); first | go_values | go_skip | go_guarded | go_step | go_upon | go_back | (simp only [Int.not_lt, Int.not_le] at *; go_simp) | (go_values <;> (try go_simp)) | (go_ite <;> go_prune <;> (try go_simp)) | (split <;> (first | (rename_i hx; exact (hx _ rfl).elim) | go_prune)))
  rw [← HW.out]
  go_wp2_with (first | (go_at_call 23; refine (HS.out _).mono ?_; rintro e w2 ⟨rfl, rfl⟩) | (go_at_call 51; refine (LK.out _).mono ?_; rintro e w2 ⟨rfl, rfl⟩) | (go_at_call 39; refine (DV.out _).mono ?_; rintro e w2 ⟨rfl, rfl⟩))
  have hX := set15 (((K2.out.far (p := ⟨w.heap.size, 8, none⟩) (by show w.heap.size + 1 ≠ w.heap.size; omega) (.string ⟨#[]⟩)).far (p := ⟨w.heap.size, 11, none⟩) (by show w.heap.size + 1 ≠ w.heap.size; omega) (.int .i64 0)).far (p := ⟨w.heap.size, 12, none⟩) (by show w.heap.size + 1 ≠ w.heap.size; omega) (.int .i64 0)) (.string (bs n)) (.int .u8 48) (.int .i64 md) (.int .i64 ui) (.int .i64 gi) (.int .i64 z) (.int .i64 s) (.int .i64 a) (.string ⟨#[]⟩) (.string (bs us)) (.string (bs gr)) (.int .i64 0) (.int .i64 0) (.string (bs d)) (.slice A0 m0 cq)
  have hXb := below15 (((HB.out.setCell (p := ⟨w.heap.size, 8, none⟩) (Nat.le_refl _) (.string ⟨#[]⟩)).setCell (p := ⟨w.heap.size, 11, none⟩) (Nat.le_refl _) (.int .i64 0)).setCell (p := ⟨w.heap.size, 12, none⟩) (Nat.le_refl _) (.int .i64 0)) (by omega : w.heap.size ≤ w.heap.size + 1) (.string (bs n)) (.int .u8 48) (.int .i64 md) (.int .i64 ui) (.int .i64 gi) (.int .i64 z) (.int .i64 s) (.int .i64 a) (.string ⟨#[]⟩) (.string (bs us)) (.string (bs gr)) (.int .i64 0) (.int .i64 0) (.string (bs d)) (.slice A0 m0 cq)
  generalize hX0 : World.setCell _ ⟨w.heap.size + 1, 14, none⟩ (.slice A0 m0 cq) = X at hX hXb ⊢
  have e0 := hX.cell 0
  have e1 := hX.cell 1
  have e2 := hX.cell 2
  have e3 := hX.cell 3
  have e4 := hX.cell 4
  have e5 := hX.cell 5
  have e6 := hX.cell 6
  have e7 := hX.cell 7
  have e8 := hX.cell 8
  have e9 := hX.cell 9
  have e10 := hX.cell 10
  have e11 := hX.cell 11
  have e12 := hX.cell 12
  have e13 := hX.cell 13
  have e14 := hX.cell 14
  try simp only [Exit.inBlock, Exit.then]
  refine bodyPost_ret (v := .agg #[.string (bs n), .int .u8 48, .int .i64 md, .int .i64 ui, .int .i64 gi, .int .i64 z, .int .i64 s, .int .i64 a, .string ⟨#[]⟩, .string (bs us), .string (bs gr), .int .i64 0, .int .i64 0, .string (bs d), .slice A0 m0 cq]) ?_ rfl ⟨rfl, hXb⟩
  simp [results, Tryz.results94, go_sem, e0, e1, e2, e3, e4, e5, e6, e7, e8, e9, e10, e11, e12, e13, e14]

set_option maxRecDepth 100000 in
set_option maxHeartbeats 8000000 in
theorem settled_C (n l us gr d : Bl) (md ui gi z s a mj mn : Int) (mv : Value) (hn : n.length ≤ 1000000)  (w : World) :
    Calls Tryz.prog 94 #[.agg #[.string (bs n), .int .u8 53, .int .i64 md, .int .i64 ui, .int .i64 gi, .int .i64 z, .int .i64 s, .int .i64 a, .string (bs l), .string (bs us), .string (bs gr), .int .i64 mj, .int .i64 mn, .string (bs d), mv]] w fun r w' => r = .returned (.agg #[.string (bs (trimS n)), .int .u8 53, .int .i64 md, .int .i64 ui, .int .i64 gi, .int .i64 0, .int .i64 s, .int .i64 a, .string ⟨#[]⟩, .string (bs us), .string (bs gr), .int .i64 0, .int .i64 0, .string ⟨#[]⟩, .slice none 0 0]) ∧ Below w.heap.size w w' := by
  obtain ⟨W, hW⟩ : ∃ W, W = (w.alloc (.cells #[.string (bs n), .int .u8 53, .int .i64 md, .int .i64 ui, .int .i64 gi, .int .i64 z, .int .i64 s, .int .i64 a, .string (bs l), .string (bs us), .string (bs gr), .int .i64 mj, .int .i64 mn, .string (bs d), mv] 26)).alloc (.cells #[.string ⟨#[]⟩, .int .u8 0, .int .i64 0, .int .i64 0, .int .i64 0, .int .i64 0, .int .i64 0, .int .i64 0, .string ⟨#[]⟩, .string ⟨#[]⟩, .string ⟨#[]⟩, .int .i64 0, .int .i64 0, .string ⟨#[]⟩, .slice none 0 0] 26) := ⟨_, rfl⟩
  have HB := Lib.hid (show Below w.heap.size w W by rw [hW]; exact ((Below.refl _ _).alloc (Nat.le_refl _) _).alloc (by simp) _)
  have K1 := Lib.hid (show Blk W w.heap.size 26 #[.string (bs n), .int .u8 53, .int .i64 md, .int .i64 ui, .int .i64 gi, .int .i64 z, .int .i64 s, .int .i64 a, .string (bs l), .string (bs us), .string (bs gr), .int .i64 mj, .int .i64 mn, .string (bs d), mv] by rw [hW]; exact (Blk.new w 26 _).alloc _)
  have K2 := Lib.hid (show Blk W (w.heap.size + 1) 26 #[.string ⟨#[]⟩, .int .u8 0, .int .i64 0, .int .i64 0, .int .i64 0, .int .i64 0, .int .i64 0, .int .i64 0, .string ⟨#[]⟩, .string ⟨#[]⟩, .string ⟨#[]⟩, .int .i64 0, .int .i64 0, .string ⟨#[]⟩, .slice none 0 0] by
    have := Blk.new (w.alloc (.cells #[.string (bs n), .int .u8 53, .int .i64 md, .int .i64 ui, .int .i64 gi, .int .i64 z, .int .i64 s, .int .i64 a, .string (bs l), .string (bs us), .string (bs gr), .int .i64 mj, .int .i64 mn, .string (bs d), mv] 26)) 26 #[.string ⟨#[]⟩, .int .u8 0, .int .i64 0, .int .i64 0, .int .i64 0, .int .i64 0, .int .i64 0, .int .i64 0, .string ⟨#[]⟩, .string ⟨#[]⟩, .string ⟨#[]⟩, .int .i64 0, .int .i64 0, .string ⟨#[]⟩, .slice none 0 0]
    rw [show (w.alloc (.cells #[.string (bs n), .int .u8 53, .int .i64 md, .int .i64 ui, .int .i64 gi, .int .i64 z, .int .i64 s, .int .i64 a, .string (bs l), .string (bs us), .string (bs gr), .int .i64 mj, .int .i64 mn, .string (bs d), mv] 26)).heap.size = w.heap.size + 1 by simp] at this
    rw [hW]; exact this)
  have HW := Lib.hid hW
  have l1 := K1.out.lt
  have l2 := K2.out.lt
  have ne1 : ¬ w.heap.size = w.heap.size + 1 := by omega
  have ne2 : ¬ w.heap.size + 1 = w.heap.size := by omega
  have c0 : W.cell? ⟨w.heap.size, 0, none⟩ = some (.string (bs n)) := K1.out.cell 0
  have f0 := K1.out.frozen 0
  have d0 := K2.out.cell 0
  have g0 := K2.out.frozen 0
  have c1 : W.cell? ⟨w.heap.size, 1, none⟩ = some (.int .u8 53) := K1.out.cell 1
  have f1 := K1.out.frozen 1
  have d1 := K2.out.cell 1
  have g1 := K2.out.frozen 1
  have c2 : W.cell? ⟨w.heap.size, 2, none⟩ = some (.int .i64 md) := K1.out.cell 2
  have f2 := K1.out.frozen 2
  have d2 := K2.out.cell 2
  have g2 := K2.out.frozen 2
  have c3 : W.cell? ⟨w.heap.size, 3, none⟩ = some (.int .i64 ui) := K1.out.cell 3
  have f3 := K1.out.frozen 3
  have d3 := K2.out.cell 3
  have g3 := K2.out.frozen 3
  have c4 : W.cell? ⟨w.heap.size, 4, none⟩ = some (.int .i64 gi) := K1.out.cell 4
  have f4 := K1.out.frozen 4
  have d4 := K2.out.cell 4
  have g4 := K2.out.frozen 4
  have c5 : W.cell? ⟨w.heap.size, 5, none⟩ = some (.int .i64 z) := K1.out.cell 5
  have f5 := K1.out.frozen 5
  have d5 := K2.out.cell 5
  have g5 := K2.out.frozen 5
  have c6 : W.cell? ⟨w.heap.size, 6, none⟩ = some (.int .i64 s) := K1.out.cell 6
  have f6 := K1.out.frozen 6
  have d6 := K2.out.cell 6
  have g6 := K2.out.frozen 6
  have c7 : W.cell? ⟨w.heap.size, 7, none⟩ = some (.int .i64 a) := K1.out.cell 7
  have f7 := K1.out.frozen 7
  have d7 := K2.out.cell 7
  have g7 := K2.out.frozen 7
  have c8 : W.cell? ⟨w.heap.size, 8, none⟩ = some (.string (bs l)) := K1.out.cell 8
  have f8 := K1.out.frozen 8
  have d8 := K2.out.cell 8
  have g8 := K2.out.frozen 8
  have c9 : W.cell? ⟨w.heap.size, 9, none⟩ = some (.string (bs us)) := K1.out.cell 9
  have f9 := K1.out.frozen 9
  have d9 := K2.out.cell 9
  have g9 := K2.out.frozen 9
  have c10 : W.cell? ⟨w.heap.size, 10, none⟩ = some (.string (bs gr)) := K1.out.cell 10
  have f10 := K1.out.frozen 10
  have d10 := K2.out.cell 10
  have g10 := K2.out.frozen 10
  have c11 : W.cell? ⟨w.heap.size, 11, none⟩ = some (.int .i64 mj) := K1.out.cell 11
  have f11 := K1.out.frozen 11
  have d11 := K2.out.cell 11
  have g11 := K2.out.frozen 11
  have c12 : W.cell? ⟨w.heap.size, 12, none⟩ = some (.int .i64 mn) := K1.out.cell 12
  have f12 := K1.out.frozen 12
  have d12 := K2.out.cell 12
  have g12 := K2.out.frozen 12
  have c13 : W.cell? ⟨w.heap.size, 13, none⟩ = some (.string (bs d)) := K1.out.cell 13
  have f13 := K1.out.frozen 13
  have d13 := K2.out.cell 13
  have g13 := K2.out.frozen 13
  have c14 : W.cell? ⟨w.heap.size, 14, none⟩ = some (mv) := K1.out.cell 14
  have f14 := K1.out.frozen 14
  have d14 := K2.out.cell 14
  have g14 := K2.out.frozen 14
  have TR := Lib.hid (fun w => Tryz.strings_TrimRight_one (bs n) 47 (by decide) w (by rw [bs_size]; omega))
  have htr : (⟨(Lib.trimRightB (bs n).data.toList 47).toArray⟩ : ByteArray) = bs (trimS n) := by rw [bs_list]; rfl
  rw [htr] at TR
  clear htr
  have LK := Lib.hid (fun w => isLink_any 53 w)
  have DV := Lib.hid (fun w => isDevice_any 53 w)
  rw [show ((53 : Nat) == 49 || (53 : Nat) == 50) = false from rfl] at LK
  rw [show ((53 : Nat) == 51 || (53 : Nat) == 52) = false from rfl] at DV
  clear hW
  go_enter Tryz.func94, Tryz.ntmps94
  repeat' ((fail_if_success (with_reducible refine halt_at 1 ?_)); first | go_values | go_skip | go_guarded | go_step | go_upon | go_back | (simp only [Int.not_lt, Int.not_le] at *; go_simp) | (go_values <;> (try go_simp)) | (go_ite <;> go_prune <;> (try go_simp)) | (split <;> (first | (rename_i hx; exact (hx _ rfl).elim) | go_prune)))
  rw [← HW.out]
  go_wp2_with (first | (go_at_call 22; refine (TR.out _).mono ?_; rintro e w2 ⟨rfl, rfl⟩) | (go_at_call 51; refine (LK.out _).mono ?_; rintro e w2 ⟨rfl, rfl⟩) | (go_at_call 39; refine (DV.out _).mono ?_; rintro e w2 ⟨rfl, rfl⟩))
  have hX := set15 (((((((K2.out.far (p := ⟨w.heap.size, 0, none⟩) (by show w.heap.size + 1 ≠ w.heap.size; omega) (.string (bs (trimS n)))).far (p := ⟨w.heap.size, 5, none⟩) (by show w.heap.size + 1 ≠ w.heap.size; omega) (.int .i64 0)).far (p := ⟨w.heap.size, 13, none⟩) (by show w.heap.size + 1 ≠ w.heap.size; omega) (.string ⟨#[]⟩)).far (p := ⟨w.heap.size, 14, none⟩) (by show w.heap.size + 1 ≠ w.heap.size; omega) (.slice none 0 0)).far (p := ⟨w.heap.size, 8, none⟩) (by show w.heap.size + 1 ≠ w.heap.size; omega) (.string ⟨#[]⟩)).far (p := ⟨w.heap.size, 11, none⟩) (by show w.heap.size + 1 ≠ w.heap.size; omega) (.int .i64 0)).far (p := ⟨w.heap.size, 12, none⟩) (by show w.heap.size + 1 ≠ w.heap.size; omega) (.int .i64 0)) (.string (bs (trimS n))) (.int .u8 53) (.int .i64 md) (.int .i64 ui) (.int .i64 gi) (.int .i64 0) (.int .i64 s) (.int .i64 a) (.string ⟨#[]⟩) (.string (bs us)) (.string (bs gr)) (.int .i64 0) (.int .i64 0) (.string ⟨#[]⟩) (.slice none 0 0)
  have hXb := below15 (((((((HB.out.setCell (p := ⟨w.heap.size, 0, none⟩) (Nat.le_refl _) (.string (bs (trimS n)))).setCell (p := ⟨w.heap.size, 5, none⟩) (Nat.le_refl _) (.int .i64 0)).setCell (p := ⟨w.heap.size, 13, none⟩) (Nat.le_refl _) (.string ⟨#[]⟩)).setCell (p := ⟨w.heap.size, 14, none⟩) (Nat.le_refl _) (.slice none 0 0)).setCell (p := ⟨w.heap.size, 8, none⟩) (Nat.le_refl _) (.string ⟨#[]⟩)).setCell (p := ⟨w.heap.size, 11, none⟩) (Nat.le_refl _) (.int .i64 0)).setCell (p := ⟨w.heap.size, 12, none⟩) (Nat.le_refl _) (.int .i64 0)) (by omega : w.heap.size ≤ w.heap.size + 1) (.string (bs (trimS n))) (.int .u8 53) (.int .i64 md) (.int .i64 ui) (.int .i64 gi) (.int .i64 0) (.int .i64 s) (.int .i64 a) (.string ⟨#[]⟩) (.string (bs us)) (.string (bs gr)) (.int .i64 0) (.int .i64 0) (.string ⟨#[]⟩) (.slice none 0 0)
  generalize hX0 : World.setCell _ ⟨w.heap.size + 1, 14, none⟩ (.slice none 0 0) = X at hX hXb ⊢
  have e0 := hX.cell 0
  have e1 := hX.cell 1
  have e2 := hX.cell 2
  have e3 := hX.cell 3
  have e4 := hX.cell 4
  have e5 := hX.cell 5
  have e6 := hX.cell 6
  have e7 := hX.cell 7
  have e8 := hX.cell 8
  have e9 := hX.cell 9
  have e10 := hX.cell 10
  have e11 := hX.cell 11
  have e12 := hX.cell 12
  have e13 := hX.cell 13
  have e14 := hX.cell 14
  try simp only [Exit.inBlock, Exit.then]
  refine bodyPost_ret (v := .agg #[.string (bs (trimS n)), .int .u8 53, .int .i64 md, .int .i64 ui, .int .i64 gi, .int .i64 0, .int .i64 s, .int .i64 a, .string ⟨#[]⟩, .string (bs us), .string (bs gr), .int .i64 0, .int .i64 0, .string ⟨#[]⟩, .slice none 0 0]) ?_ rfl ⟨rfl, hXb⟩
  simp [results, Tryz.results94, go_sem, e0, e1, e2, e3, e4, e5, e6, e7, e8, e9, e10, e11, e12, e13, e14]

set_option maxRecDepth 100000 in
set_option maxHeartbeats 8000000 in
theorem settled_D (n l us gr d : Bl) (md ui gi z s a mj mn : Int) (mv : Value) (hn : n.length ≤ 1000000) (k : Nat) (hk : k = 49 ∨ k = 50) (w : World) :
    Calls Tryz.prog 94 #[.agg #[.string (bs n), .int .u8 k, .int .i64 md, .int .i64 ui, .int .i64 gi, .int .i64 z, .int .i64 s, .int .i64 a, .string (bs l), .string (bs us), .string (bs gr), .int .i64 mj, .int .i64 mn, .string (bs d), mv]] w fun r w' => r = .returned (.agg #[.string (bs n), .int .u8 k, .int .i64 md, .int .i64 ui, .int .i64 gi, .int .i64 0, .int .i64 s, .int .i64 a, .string (bs l), .string (bs us), .string (bs gr), .int .i64 0, .int .i64 0, .string ⟨#[]⟩, .slice none 0 0]) ∧ Below w.heap.size w w' := by
  obtain ⟨W, hW⟩ : ∃ W, W = (w.alloc (.cells #[.string (bs n), .int .u8 k, .int .i64 md, .int .i64 ui, .int .i64 gi, .int .i64 z, .int .i64 s, .int .i64 a, .string (bs l), .string (bs us), .string (bs gr), .int .i64 mj, .int .i64 mn, .string (bs d), mv] 26)).alloc (.cells #[.string ⟨#[]⟩, .int .u8 0, .int .i64 0, .int .i64 0, .int .i64 0, .int .i64 0, .int .i64 0, .int .i64 0, .string ⟨#[]⟩, .string ⟨#[]⟩, .string ⟨#[]⟩, .int .i64 0, .int .i64 0, .string ⟨#[]⟩, .slice none 0 0] 26) := ⟨_, rfl⟩
  have HB := Lib.hid (show Below w.heap.size w W by rw [hW]; exact ((Below.refl _ _).alloc (Nat.le_refl _) _).alloc (by simp) _)
  have K1 := Lib.hid (show Blk W w.heap.size 26 #[.string (bs n), .int .u8 k, .int .i64 md, .int .i64 ui, .int .i64 gi, .int .i64 z, .int .i64 s, .int .i64 a, .string (bs l), .string (bs us), .string (bs gr), .int .i64 mj, .int .i64 mn, .string (bs d), mv] by rw [hW]; exact (Blk.new w 26 _).alloc _)
  have K2 := Lib.hid (show Blk W (w.heap.size + 1) 26 #[.string ⟨#[]⟩, .int .u8 0, .int .i64 0, .int .i64 0, .int .i64 0, .int .i64 0, .int .i64 0, .int .i64 0, .string ⟨#[]⟩, .string ⟨#[]⟩, .string ⟨#[]⟩, .int .i64 0, .int .i64 0, .string ⟨#[]⟩, .slice none 0 0] by
    have := Blk.new (w.alloc (.cells #[.string (bs n), .int .u8 k, .int .i64 md, .int .i64 ui, .int .i64 gi, .int .i64 z, .int .i64 s, .int .i64 a, .string (bs l), .string (bs us), .string (bs gr), .int .i64 mj, .int .i64 mn, .string (bs d), mv] 26)) 26 #[.string ⟨#[]⟩, .int .u8 0, .int .i64 0, .int .i64 0, .int .i64 0, .int .i64 0, .int .i64 0, .int .i64 0, .string ⟨#[]⟩, .string ⟨#[]⟩, .string ⟨#[]⟩, .int .i64 0, .int .i64 0, .string ⟨#[]⟩, .slice none 0 0]
    rw [show (w.alloc (.cells #[.string (bs n), .int .u8 k, .int .i64 md, .int .i64 ui, .int .i64 gi, .int .i64 z, .int .i64 s, .int .i64 a, .string (bs l), .string (bs us), .string (bs gr), .int .i64 mj, .int .i64 mn, .string (bs d), mv] 26)).heap.size = w.heap.size + 1 by simp] at this
    rw [hW]; exact this)
  have HW := Lib.hid hW
  have l1 := K1.out.lt
  have l2 := K2.out.lt
  have ne1 : ¬ w.heap.size = w.heap.size + 1 := by omega
  have ne2 : ¬ w.heap.size + 1 = w.heap.size := by omega
  have c0 : W.cell? ⟨w.heap.size, 0, none⟩ = some (.string (bs n)) := K1.out.cell 0
  have f0 := K1.out.frozen 0
  have d0 := K2.out.cell 0
  have g0 := K2.out.frozen 0
  have c1 : W.cell? ⟨w.heap.size, 1, none⟩ = some (.int .u8 k) := K1.out.cell 1
  have f1 := K1.out.frozen 1
  have d1 := K2.out.cell 1
  have g1 := K2.out.frozen 1
  have c2 : W.cell? ⟨w.heap.size, 2, none⟩ = some (.int .i64 md) := K1.out.cell 2
  have f2 := K1.out.frozen 2
  have d2 := K2.out.cell 2
  have g2 := K2.out.frozen 2
  have c3 : W.cell? ⟨w.heap.size, 3, none⟩ = some (.int .i64 ui) := K1.out.cell 3
  have f3 := K1.out.frozen 3
  have d3 := K2.out.cell 3
  have g3 := K2.out.frozen 3
  have c4 : W.cell? ⟨w.heap.size, 4, none⟩ = some (.int .i64 gi) := K1.out.cell 4
  have f4 := K1.out.frozen 4
  have d4 := K2.out.cell 4
  have g4 := K2.out.frozen 4
  have c5 : W.cell? ⟨w.heap.size, 5, none⟩ = some (.int .i64 z) := K1.out.cell 5
  have f5 := K1.out.frozen 5
  have d5 := K2.out.cell 5
  have g5 := K2.out.frozen 5
  have c6 : W.cell? ⟨w.heap.size, 6, none⟩ = some (.int .i64 s) := K1.out.cell 6
  have f6 := K1.out.frozen 6
  have d6 := K2.out.cell 6
  have g6 := K2.out.frozen 6
  have c7 : W.cell? ⟨w.heap.size, 7, none⟩ = some (.int .i64 a) := K1.out.cell 7
  have f7 := K1.out.frozen 7
  have d7 := K2.out.cell 7
  have g7 := K2.out.frozen 7
  have c8 : W.cell? ⟨w.heap.size, 8, none⟩ = some (.string (bs l)) := K1.out.cell 8
  have f8 := K1.out.frozen 8
  have d8 := K2.out.cell 8
  have g8 := K2.out.frozen 8
  have c9 : W.cell? ⟨w.heap.size, 9, none⟩ = some (.string (bs us)) := K1.out.cell 9
  have f9 := K1.out.frozen 9
  have d9 := K2.out.cell 9
  have g9 := K2.out.frozen 9
  have c10 : W.cell? ⟨w.heap.size, 10, none⟩ = some (.string (bs gr)) := K1.out.cell 10
  have f10 := K1.out.frozen 10
  have d10 := K2.out.cell 10
  have g10 := K2.out.frozen 10
  have c11 : W.cell? ⟨w.heap.size, 11, none⟩ = some (.int .i64 mj) := K1.out.cell 11
  have f11 := K1.out.frozen 11
  have d11 := K2.out.cell 11
  have g11 := K2.out.frozen 11
  have c12 : W.cell? ⟨w.heap.size, 12, none⟩ = some (.int .i64 mn) := K1.out.cell 12
  have f12 := K1.out.frozen 12
  have d12 := K2.out.cell 12
  have g12 := K2.out.frozen 12
  have c13 : W.cell? ⟨w.heap.size, 13, none⟩ = some (.string (bs d)) := K1.out.cell 13
  have f13 := K1.out.frozen 13
  have d13 := K2.out.cell 13
  have g13 := K2.out.frozen 13
  have c14 : W.cell? ⟨w.heap.size, 14, none⟩ = some (mv) := K1.out.cell 14
  have f14 := K1.out.frozen 14
  have d14 := K2.out.cell 14
  have g14 := K2.out.frozen 14
  have LK := Lib.hid (fun w => isLink_any k w)
  have DV := Lib.hid (fun w => isDevice_any k w)
  have q1 : (k == 49 || k == 50) = true := by rcases hk with rfl | rfl <;> rfl
  have q2 : (k == 51 || k == 52) = false := by rcases hk with rfl | rfl <;> rfl
  rw [q1] at LK
  rw [q2] at DV
  have q3 : ((k : Int) == 48) = false := by rw [beq_eq_false_iff_ne]; omega
  have q4 : ((k : Int) == 53) = false := by rw [beq_eq_false_iff_ne]; omega
  have q5 : ((k : Int) != 48) = true := by rw [bne_iff_ne]; omega
  clear q1 q2
  clear hW hk
  go_enter Tryz.func94, Tryz.ntmps94
  repeat' ((fail_if_success (with_reducible refine halt_at 1 ?_)); first | go_values | go_skip | go_guarded | go_step | go_upon | go_back | (simp only [Int.not_lt, Int.not_le] at *; go_simp) | (go_values <;> (try go_simp)) | (go_ite <;> go_prune <;> (try go_simp)) | (split <;> (first | (rename_i hx; exact (hx _ rfl).elim) | go_prune)))
  rw [← HW.out]
  go_wp2_with (first | (go_at_call 51; refine (LK.out _).mono ?_; rintro e w2 ⟨rfl, rfl⟩) | (go_at_call 39; refine (DV.out _).mono ?_; rintro e w2 ⟨rfl, rfl⟩))
  have hX := set15 (((((K2.out.far (p := ⟨w.heap.size, 5, none⟩) (by show w.heap.size + 1 ≠ w.heap.size; omega) (.int .i64 0)).far (p := ⟨w.heap.size, 13, none⟩) (by show w.heap.size + 1 ≠ w.heap.size; omega) (.string ⟨#[]⟩)).far (p := ⟨w.heap.size, 14, none⟩) (by show w.heap.size + 1 ≠ w.heap.size; omega) (.slice none 0 0)).far (p := ⟨w.heap.size, 11, none⟩) (by show w.heap.size + 1 ≠ w.heap.size; omega) (.int .i64 0)).far (p := ⟨w.heap.size, 12, none⟩) (by show w.heap.size + 1 ≠ w.heap.size; omega) (.int .i64 0)) (.string (bs n)) (.int .u8 k) (.int .i64 md) (.int .i64 ui) (.int .i64 gi) (.int .i64 0) (.int .i64 s) (.int .i64 a) (.string (bs l)) (.string (bs us)) (.string (bs gr)) (.int .i64 0) (.int .i64 0) (.string ⟨#[]⟩) (.slice none 0 0)
  have hXb := below15 (((((HB.out.setCell (p := ⟨w.heap.size, 5, none⟩) (Nat.le_refl _) (.int .i64 0)).setCell (p := ⟨w.heap.size, 13, none⟩) (Nat.le_refl _) (.string ⟨#[]⟩)).setCell (p := ⟨w.heap.size, 14, none⟩) (Nat.le_refl _) (.slice none 0 0)).setCell (p := ⟨w.heap.size, 11, none⟩) (Nat.le_refl _) (.int .i64 0)).setCell (p := ⟨w.heap.size, 12, none⟩) (Nat.le_refl _) (.int .i64 0)) (by omega : w.heap.size ≤ w.heap.size + 1) (.string (bs n)) (.int .u8 k) (.int .i64 md) (.int .i64 ui) (.int .i64 gi) (.int .i64 0) (.int .i64 s) (.int .i64 a) (.string (bs l)) (.string (bs us)) (.string (bs gr)) (.int .i64 0) (.int .i64 0) (.string ⟨#[]⟩) (.slice none 0 0)
  generalize hX0 : World.setCell _ ⟨w.heap.size + 1, 14, none⟩ (.slice none 0 0) = X at hX hXb ⊢
  have e0 := hX.cell 0
  have e1 := hX.cell 1
  have e2 := hX.cell 2
  have e3 := hX.cell 3
  have e4 := hX.cell 4
  have e5 := hX.cell 5
  have e6 := hX.cell 6
  have e7 := hX.cell 7
  have e8 := hX.cell 8
  have e9 := hX.cell 9
  have e10 := hX.cell 10
  have e11 := hX.cell 11
  have e12 := hX.cell 12
  have e13 := hX.cell 13
  have e14 := hX.cell 14
  try simp only [Exit.inBlock, Exit.then]
  refine bodyPost_ret (v := .agg #[.string (bs n), .int .u8 k, .int .i64 md, .int .i64 ui, .int .i64 gi, .int .i64 0, .int .i64 s, .int .i64 a, .string (bs l), .string (bs us), .string (bs gr), .int .i64 0, .int .i64 0, .string ⟨#[]⟩, .slice none 0 0]) ?_ rfl ⟨rfl, hXb⟩
  simp [results, Tryz.results94, go_sem, e0, e1, e2, e3, e4, e5, e6, e7, e8, e9, e10, e11, e12, e13, e14]

set_option maxRecDepth 100000 in
set_option maxHeartbeats 8000000 in
theorem settled_E (n l us gr d : Bl) (md ui gi z s a mj mn : Int) (mv : Value) (hn : n.length ≤ 1000000) (k : Nat) (hk : k = 51 ∨ k = 52) (w : World) :
    Calls Tryz.prog 94 #[.agg #[.string (bs n), .int .u8 k, .int .i64 md, .int .i64 ui, .int .i64 gi, .int .i64 z, .int .i64 s, .int .i64 a, .string (bs l), .string (bs us), .string (bs gr), .int .i64 mj, .int .i64 mn, .string (bs d), mv]] w fun r w' => r = .returned (.agg #[.string (bs n), .int .u8 k, .int .i64 md, .int .i64 ui, .int .i64 gi, .int .i64 0, .int .i64 s, .int .i64 a, .string ⟨#[]⟩, .string (bs us), .string (bs gr), .int .i64 mj, .int .i64 mn, .string ⟨#[]⟩, .slice none 0 0]) ∧ Below w.heap.size w w' := by
  obtain ⟨W, hW⟩ : ∃ W, W = (w.alloc (.cells #[.string (bs n), .int .u8 k, .int .i64 md, .int .i64 ui, .int .i64 gi, .int .i64 z, .int .i64 s, .int .i64 a, .string (bs l), .string (bs us), .string (bs gr), .int .i64 mj, .int .i64 mn, .string (bs d), mv] 26)).alloc (.cells #[.string ⟨#[]⟩, .int .u8 0, .int .i64 0, .int .i64 0, .int .i64 0, .int .i64 0, .int .i64 0, .int .i64 0, .string ⟨#[]⟩, .string ⟨#[]⟩, .string ⟨#[]⟩, .int .i64 0, .int .i64 0, .string ⟨#[]⟩, .slice none 0 0] 26) := ⟨_, rfl⟩
  have HB := Lib.hid (show Below w.heap.size w W by rw [hW]; exact ((Below.refl _ _).alloc (Nat.le_refl _) _).alloc (by simp) _)
  have K1 := Lib.hid (show Blk W w.heap.size 26 #[.string (bs n), .int .u8 k, .int .i64 md, .int .i64 ui, .int .i64 gi, .int .i64 z, .int .i64 s, .int .i64 a, .string (bs l), .string (bs us), .string (bs gr), .int .i64 mj, .int .i64 mn, .string (bs d), mv] by rw [hW]; exact (Blk.new w 26 _).alloc _)
  have K2 := Lib.hid (show Blk W (w.heap.size + 1) 26 #[.string ⟨#[]⟩, .int .u8 0, .int .i64 0, .int .i64 0, .int .i64 0, .int .i64 0, .int .i64 0, .int .i64 0, .string ⟨#[]⟩, .string ⟨#[]⟩, .string ⟨#[]⟩, .int .i64 0, .int .i64 0, .string ⟨#[]⟩, .slice none 0 0] by
    have := Blk.new (w.alloc (.cells #[.string (bs n), .int .u8 k, .int .i64 md, .int .i64 ui, .int .i64 gi, .int .i64 z, .int .i64 s, .int .i64 a, .string (bs l), .string (bs us), .string (bs gr), .int .i64 mj, .int .i64 mn, .string (bs d), mv] 26)) 26 #[.string ⟨#[]⟩, .int .u8 0, .int .i64 0, .int .i64 0, .int .i64 0, .int .i64 0, .int .i64 0, .int .i64 0, .string ⟨#[]⟩, .string ⟨#[]⟩, .string ⟨#[]⟩, .int .i64 0, .int .i64 0, .string ⟨#[]⟩, .slice none 0 0]
    rw [show (w.alloc (.cells #[.string (bs n), .int .u8 k, .int .i64 md, .int .i64 ui, .int .i64 gi, .int .i64 z, .int .i64 s, .int .i64 a, .string (bs l), .string (bs us), .string (bs gr), .int .i64 mj, .int .i64 mn, .string (bs d), mv] 26)).heap.size = w.heap.size + 1 by simp] at this
    rw [hW]; exact this)
  have HW := Lib.hid hW
  have l1 := K1.out.lt
  have l2 := K2.out.lt
  have ne1 : ¬ w.heap.size = w.heap.size + 1 := by omega
  have ne2 : ¬ w.heap.size + 1 = w.heap.size := by omega
  have c0 : W.cell? ⟨w.heap.size, 0, none⟩ = some (.string (bs n)) := K1.out.cell 0
  have f0 := K1.out.frozen 0
  have d0 := K2.out.cell 0
  have g0 := K2.out.frozen 0
  have c1 : W.cell? ⟨w.heap.size, 1, none⟩ = some (.int .u8 k) := K1.out.cell 1
  have f1 := K1.out.frozen 1
  have d1 := K2.out.cell 1
  have g1 := K2.out.frozen 1
  have c2 : W.cell? ⟨w.heap.size, 2, none⟩ = some (.int .i64 md) := K1.out.cell 2
  have f2 := K1.out.frozen 2
  have d2 := K2.out.cell 2
  have g2 := K2.out.frozen 2
  have c3 : W.cell? ⟨w.heap.size, 3, none⟩ = some (.int .i64 ui) := K1.out.cell 3
  have f3 := K1.out.frozen 3
  have d3 := K2.out.cell 3
  have g3 := K2.out.frozen 3
  have c4 : W.cell? ⟨w.heap.size, 4, none⟩ = some (.int .i64 gi) := K1.out.cell 4
  have f4 := K1.out.frozen 4
  have d4 := K2.out.cell 4
  have g4 := K2.out.frozen 4
  have c5 : W.cell? ⟨w.heap.size, 5, none⟩ = some (.int .i64 z) := K1.out.cell 5
  have f5 := K1.out.frozen 5
  have d5 := K2.out.cell 5
  have g5 := K2.out.frozen 5
  have c6 : W.cell? ⟨w.heap.size, 6, none⟩ = some (.int .i64 s) := K1.out.cell 6
  have f6 := K1.out.frozen 6
  have d6 := K2.out.cell 6
  have g6 := K2.out.frozen 6
  have c7 : W.cell? ⟨w.heap.size, 7, none⟩ = some (.int .i64 a) := K1.out.cell 7
  have f7 := K1.out.frozen 7
  have d7 := K2.out.cell 7
  have g7 := K2.out.frozen 7
  have c8 : W.cell? ⟨w.heap.size, 8, none⟩ = some (.string (bs l)) := K1.out.cell 8
  have f8 := K1.out.frozen 8
  have d8 := K2.out.cell 8
  have g8 := K2.out.frozen 8
  have c9 : W.cell? ⟨w.heap.size, 9, none⟩ = some (.string (bs us)) := K1.out.cell 9
  have f9 := K1.out.frozen 9
  have d9 := K2.out.cell 9
  have g9 := K2.out.frozen 9
  have c10 : W.cell? ⟨w.heap.size, 10, none⟩ = some (.string (bs gr)) := K1.out.cell 10
  have f10 := K1.out.frozen 10
  have d10 := K2.out.cell 10
  have g10 := K2.out.frozen 10
  have c11 : W.cell? ⟨w.heap.size, 11, none⟩ = some (.int .i64 mj) := K1.out.cell 11
  have f11 := K1.out.frozen 11
  have d11 := K2.out.cell 11
  have g11 := K2.out.frozen 11
  have c12 : W.cell? ⟨w.heap.size, 12, none⟩ = some (.int .i64 mn) := K1.out.cell 12
  have f12 := K1.out.frozen 12
  have d12 := K2.out.cell 12
  have g12 := K2.out.frozen 12
  have c13 : W.cell? ⟨w.heap.size, 13, none⟩ = some (.string (bs d)) := K1.out.cell 13
  have f13 := K1.out.frozen 13
  have d13 := K2.out.cell 13
  have g13 := K2.out.frozen 13
  have c14 : W.cell? ⟨w.heap.size, 14, none⟩ = some (mv) := K1.out.cell 14
  have f14 := K1.out.frozen 14
  have d14 := K2.out.cell 14
  have g14 := K2.out.frozen 14
  have LK := Lib.hid (fun w => isLink_any k w)
  have DV := Lib.hid (fun w => isDevice_any k w)
  have q1 : (k == 49 || k == 50) = false := by rcases hk with rfl | rfl <;> rfl
  have q2 : (k == 51 || k == 52) = true := by rcases hk with rfl | rfl <;> rfl
  rw [q1] at LK
  rw [q2] at DV
  have q3 : ((k : Int) == 48) = false := by rw [beq_eq_false_iff_ne]; omega
  have q4 : ((k : Int) == 53) = false := by rw [beq_eq_false_iff_ne]; omega
  have q5 : ((k : Int) != 48) = true := by rw [bne_iff_ne]; omega
  clear q1 q2
  clear hW hk
  go_enter Tryz.func94, Tryz.ntmps94
  repeat' ((fail_if_success (with_reducible refine halt_at 1 ?_)); first | go_values | go_skip | go_guarded | go_step | go_upon | go_back | (simp only [Int.not_lt, Int.not_le] at *; go_simp) | (go_values <;> (try go_simp)) | (go_ite <;> go_prune <;> (try go_simp)) | (split <;> (first | (rename_i hx; exact (hx _ rfl).elim) | go_prune)))
  rw [← HW.out]
  go_wp2_with (first | (go_at_call 51; refine (LK.out _).mono ?_; rintro e w2 ⟨rfl, rfl⟩) | (go_at_call 39; refine (DV.out _).mono ?_; rintro e w2 ⟨rfl, rfl⟩))
  have hX := set15 ((((K2.out.far (p := ⟨w.heap.size, 5, none⟩) (by show w.heap.size + 1 ≠ w.heap.size; omega) (.int .i64 0)).far (p := ⟨w.heap.size, 13, none⟩) (by show w.heap.size + 1 ≠ w.heap.size; omega) (.string ⟨#[]⟩)).far (p := ⟨w.heap.size, 14, none⟩) (by show w.heap.size + 1 ≠ w.heap.size; omega) (.slice none 0 0)).far (p := ⟨w.heap.size, 8, none⟩) (by show w.heap.size + 1 ≠ w.heap.size; omega) (.string ⟨#[]⟩)) (.string (bs n)) (.int .u8 k) (.int .i64 md) (.int .i64 ui) (.int .i64 gi) (.int .i64 0) (.int .i64 s) (.int .i64 a) (.string ⟨#[]⟩) (.string (bs us)) (.string (bs gr)) (.int .i64 mj) (.int .i64 mn) (.string ⟨#[]⟩) (.slice none 0 0)
  have hXb := below15 ((((HB.out.setCell (p := ⟨w.heap.size, 5, none⟩) (Nat.le_refl _) (.int .i64 0)).setCell (p := ⟨w.heap.size, 13, none⟩) (Nat.le_refl _) (.string ⟨#[]⟩)).setCell (p := ⟨w.heap.size, 14, none⟩) (Nat.le_refl _) (.slice none 0 0)).setCell (p := ⟨w.heap.size, 8, none⟩) (Nat.le_refl _) (.string ⟨#[]⟩)) (by omega : w.heap.size ≤ w.heap.size + 1) (.string (bs n)) (.int .u8 k) (.int .i64 md) (.int .i64 ui) (.int .i64 gi) (.int .i64 0) (.int .i64 s) (.int .i64 a) (.string ⟨#[]⟩) (.string (bs us)) (.string (bs gr)) (.int .i64 mj) (.int .i64 mn) (.string ⟨#[]⟩) (.slice none 0 0)
  generalize hX0 : World.setCell _ ⟨w.heap.size + 1, 14, none⟩ (.slice none 0 0) = X at hX hXb ⊢
  have e0 := hX.cell 0
  have e1 := hX.cell 1
  have e2 := hX.cell 2
  have e3 := hX.cell 3
  have e4 := hX.cell 4
  have e5 := hX.cell 5
  have e6 := hX.cell 6
  have e7 := hX.cell 7
  have e8 := hX.cell 8
  have e9 := hX.cell 9
  have e10 := hX.cell 10
  have e11 := hX.cell 11
  have e12 := hX.cell 12
  have e13 := hX.cell 13
  have e14 := hX.cell 14
  try simp only [Exit.inBlock, Exit.then]
  refine bodyPost_ret (v := .agg #[.string (bs n), .int .u8 k, .int .i64 md, .int .i64 ui, .int .i64 gi, .int .i64 0, .int .i64 s, .int .i64 a, .string ⟨#[]⟩, .string (bs us), .string (bs gr), .int .i64 mj, .int .i64 mn, .string ⟨#[]⟩, .slice none 0 0]) ?_ rfl ⟨rfl, hXb⟩
  simp [results, Tryz.results94, go_sem, e0, e1, e2, e3, e4, e5, e6, e7, e8, e9, e10, e11, e12, e13, e14]

set_option maxRecDepth 100000 in
set_option maxHeartbeats 8000000 in
theorem settled_F (n l us gr d : Bl) (md ui gi z s a mj mn : Int) (mv : Value) (hn : n.length ≤ 1000000) (k : Nat) (h1 : k ≠ 48) (h2 : k ≠ 53) (h3 : k ≠ 49) (h4 : k ≠ 50) (h5 : k ≠ 51) (h6 : k ≠ 52) (w : World) :
    Calls Tryz.prog 94 #[.agg #[.string (bs n), .int .u8 k, .int .i64 md, .int .i64 ui, .int .i64 gi, .int .i64 z, .int .i64 s, .int .i64 a, .string (bs l), .string (bs us), .string (bs gr), .int .i64 mj, .int .i64 mn, .string (bs d), mv]] w fun r w' => r = .returned (.agg #[.string (bs n), .int .u8 k, .int .i64 md, .int .i64 ui, .int .i64 gi, .int .i64 0, .int .i64 s, .int .i64 a, .string ⟨#[]⟩, .string (bs us), .string (bs gr), .int .i64 0, .int .i64 0, .string ⟨#[]⟩, .slice none 0 0]) ∧ Below w.heap.size w w' := by
  obtain ⟨W, hW⟩ : ∃ W, W = (w.alloc (.cells #[.string (bs n), .int .u8 k, .int .i64 md, .int .i64 ui, .int .i64 gi, .int .i64 z, .int .i64 s, .int .i64 a, .string (bs l), .string (bs us), .string (bs gr), .int .i64 mj, .int .i64 mn, .string (bs d), mv] 26)).alloc (.cells #[.string ⟨#[]⟩, .int .u8 0, .int .i64 0, .int .i64 0, .int .i64 0, .int .i64 0, .int .i64 0, .int .i64 0, .string ⟨#[]⟩, .string ⟨#[]⟩, .string ⟨#[]⟩, .int .i64 0, .int .i64 0, .string ⟨#[]⟩, .slice none 0 0] 26) := ⟨_, rfl⟩
  have HB := Lib.hid (show Below w.heap.size w W by rw [hW]; exact ((Below.refl _ _).alloc (Nat.le_refl _) _).alloc (by simp) _)
  have K1 := Lib.hid (show Blk W w.heap.size 26 #[.string (bs n), .int .u8 k, .int .i64 md, .int .i64 ui, .int .i64 gi, .int .i64 z, .int .i64 s, .int .i64 a, .string (bs l), .string (bs us), .string (bs gr), .int .i64 mj, .int .i64 mn, .string (bs d), mv] by rw [hW]; exact (Blk.new w 26 _).alloc _)
  have K2 := Lib.hid (show Blk W (w.heap.size + 1) 26 #[.string ⟨#[]⟩, .int .u8 0, .int .i64 0, .int .i64 0, .int .i64 0, .int .i64 0, .int .i64 0, .int .i64 0, .string ⟨#[]⟩, .string ⟨#[]⟩, .string ⟨#[]⟩, .int .i64 0, .int .i64 0, .string ⟨#[]⟩, .slice none 0 0] by
    have := Blk.new (w.alloc (.cells #[.string (bs n), .int .u8 k, .int .i64 md, .int .i64 ui, .int .i64 gi, .int .i64 z, .int .i64 s, .int .i64 a, .string (bs l), .string (bs us), .string (bs gr), .int .i64 mj, .int .i64 mn, .string (bs d), mv] 26)) 26 #[.string ⟨#[]⟩, .int .u8 0, .int .i64 0, .int .i64 0, .int .i64 0, .int .i64 0, .int .i64 0, .int .i64 0, .string ⟨#[]⟩, .string ⟨#[]⟩, .string ⟨#[]⟩, .int .i64 0, .int .i64 0, .string ⟨#[]⟩, .slice none 0 0]
    rw [show (w.alloc (.cells #[.string (bs n), .int .u8 k, .int .i64 md, .int .i64 ui, .int .i64 gi, .int .i64 z, .int .i64 s, .int .i64 a, .string (bs l), .string (bs us), .string (bs gr), .int .i64 mj, .int .i64 mn, .string (bs d), mv] 26)).heap.size = w.heap.size + 1 by simp] at this
    rw [hW]; exact this)
  have HW := Lib.hid hW
  have l1 := K1.out.lt
  have l2 := K2.out.lt
  have ne1 : ¬ w.heap.size = w.heap.size + 1 := by omega
  have ne2 : ¬ w.heap.size + 1 = w.heap.size := by omega
  have c0 : W.cell? ⟨w.heap.size, 0, none⟩ = some (.string (bs n)) := K1.out.cell 0
  have f0 := K1.out.frozen 0
  have d0 := K2.out.cell 0
  have g0 := K2.out.frozen 0
  have c1 : W.cell? ⟨w.heap.size, 1, none⟩ = some (.int .u8 k) := K1.out.cell 1
  have f1 := K1.out.frozen 1
  have d1 := K2.out.cell 1
  have g1 := K2.out.frozen 1
  have c2 : W.cell? ⟨w.heap.size, 2, none⟩ = some (.int .i64 md) := K1.out.cell 2
  have f2 := K1.out.frozen 2
  have d2 := K2.out.cell 2
  have g2 := K2.out.frozen 2
  have c3 : W.cell? ⟨w.heap.size, 3, none⟩ = some (.int .i64 ui) := K1.out.cell 3
  have f3 := K1.out.frozen 3
  have d3 := K2.out.cell 3
  have g3 := K2.out.frozen 3
  have c4 : W.cell? ⟨w.heap.size, 4, none⟩ = some (.int .i64 gi) := K1.out.cell 4
  have f4 := K1.out.frozen 4
  have d4 := K2.out.cell 4
  have g4 := K2.out.frozen 4
  have c5 : W.cell? ⟨w.heap.size, 5, none⟩ = some (.int .i64 z) := K1.out.cell 5
  have f5 := K1.out.frozen 5
  have d5 := K2.out.cell 5
  have g5 := K2.out.frozen 5
  have c6 : W.cell? ⟨w.heap.size, 6, none⟩ = some (.int .i64 s) := K1.out.cell 6
  have f6 := K1.out.frozen 6
  have d6 := K2.out.cell 6
  have g6 := K2.out.frozen 6
  have c7 : W.cell? ⟨w.heap.size, 7, none⟩ = some (.int .i64 a) := K1.out.cell 7
  have f7 := K1.out.frozen 7
  have d7 := K2.out.cell 7
  have g7 := K2.out.frozen 7
  have c8 : W.cell? ⟨w.heap.size, 8, none⟩ = some (.string (bs l)) := K1.out.cell 8
  have f8 := K1.out.frozen 8
  have d8 := K2.out.cell 8
  have g8 := K2.out.frozen 8
  have c9 : W.cell? ⟨w.heap.size, 9, none⟩ = some (.string (bs us)) := K1.out.cell 9
  have f9 := K1.out.frozen 9
  have d9 := K2.out.cell 9
  have g9 := K2.out.frozen 9
  have c10 : W.cell? ⟨w.heap.size, 10, none⟩ = some (.string (bs gr)) := K1.out.cell 10
  have f10 := K1.out.frozen 10
  have d10 := K2.out.cell 10
  have g10 := K2.out.frozen 10
  have c11 : W.cell? ⟨w.heap.size, 11, none⟩ = some (.int .i64 mj) := K1.out.cell 11
  have f11 := K1.out.frozen 11
  have d11 := K2.out.cell 11
  have g11 := K2.out.frozen 11
  have c12 : W.cell? ⟨w.heap.size, 12, none⟩ = some (.int .i64 mn) := K1.out.cell 12
  have f12 := K1.out.frozen 12
  have d12 := K2.out.cell 12
  have g12 := K2.out.frozen 12
  have c13 : W.cell? ⟨w.heap.size, 13, none⟩ = some (.string (bs d)) := K1.out.cell 13
  have f13 := K1.out.frozen 13
  have d13 := K2.out.cell 13
  have g13 := K2.out.frozen 13
  have c14 : W.cell? ⟨w.heap.size, 14, none⟩ = some (mv) := K1.out.cell 14
  have f14 := K1.out.frozen 14
  have d14 := K2.out.cell 14
  have g14 := K2.out.frozen 14
  have LK := Lib.hid (fun w => isLink_any k w)
  have DV := Lib.hid (fun w => isDevice_any k w)
  have q1 : (k == 49 || k == 50) = false := by simp [h3, h4]
  have q2 : (k == 51 || k == 52) = false := by simp [h5, h6]
  rw [q1] at LK
  rw [q2] at DV
  have q3 : ((k : Int) == 48) = false := by rw [beq_eq_false_iff_ne]; omega
  have q4 : ((k : Int) == 53) = false := by rw [beq_eq_false_iff_ne]; omega
  have q5 : ((k : Int) != 48) = true := by rw [bne_iff_ne]; omega
  clear q1 q2
  clear hW h1 h2 h3 h4 h5 h6
  go_enter Tryz.func94, Tryz.ntmps94
  repeat' ((fail_if_success (with_reducible refine halt_at 1 ?_)); first | go_values | go_skip | go_guarded | go_step | go_upon | go_back | (simp only [Int.not_lt, Int.not_le] at *; go_simp) | (go_values <;> (try go_simp)) | (go_ite <;> go_prune <;> (try go_simp)) | (split <;> (first | (rename_i hx; exact (hx _ rfl).elim) | go_prune)))
  rw [← HW.out]
  go_wp2_with (first | (go_at_call 51; refine (LK.out _).mono ?_; rintro e w2 ⟨rfl, rfl⟩) | (go_at_call 39; refine (DV.out _).mono ?_; rintro e w2 ⟨rfl, rfl⟩))
  have hX := set15 ((((((K2.out.far (p := ⟨w.heap.size, 5, none⟩) (by show w.heap.size + 1 ≠ w.heap.size; omega) (.int .i64 0)).far (p := ⟨w.heap.size, 13, none⟩) (by show w.heap.size + 1 ≠ w.heap.size; omega) (.string ⟨#[]⟩)).far (p := ⟨w.heap.size, 14, none⟩) (by show w.heap.size + 1 ≠ w.heap.size; omega) (.slice none 0 0)).far (p := ⟨w.heap.size, 8, none⟩) (by show w.heap.size + 1 ≠ w.heap.size; omega) (.string ⟨#[]⟩)).far (p := ⟨w.heap.size, 11, none⟩) (by show w.heap.size + 1 ≠ w.heap.size; omega) (.int .i64 0)).far (p := ⟨w.heap.size, 12, none⟩) (by show w.heap.size + 1 ≠ w.heap.size; omega) (.int .i64 0)) (.string (bs n)) (.int .u8 k) (.int .i64 md) (.int .i64 ui) (.int .i64 gi) (.int .i64 0) (.int .i64 s) (.int .i64 a) (.string ⟨#[]⟩) (.string (bs us)) (.string (bs gr)) (.int .i64 0) (.int .i64 0) (.string ⟨#[]⟩) (.slice none 0 0)
  have hXb := below15 ((((((HB.out.setCell (p := ⟨w.heap.size, 5, none⟩) (Nat.le_refl _) (.int .i64 0)).setCell (p := ⟨w.heap.size, 13, none⟩) (Nat.le_refl _) (.string ⟨#[]⟩)).setCell (p := ⟨w.heap.size, 14, none⟩) (Nat.le_refl _) (.slice none 0 0)).setCell (p := ⟨w.heap.size, 8, none⟩) (Nat.le_refl _) (.string ⟨#[]⟩)).setCell (p := ⟨w.heap.size, 11, none⟩) (Nat.le_refl _) (.int .i64 0)).setCell (p := ⟨w.heap.size, 12, none⟩) (Nat.le_refl _) (.int .i64 0)) (by omega : w.heap.size ≤ w.heap.size + 1) (.string (bs n)) (.int .u8 k) (.int .i64 md) (.int .i64 ui) (.int .i64 gi) (.int .i64 0) (.int .i64 s) (.int .i64 a) (.string ⟨#[]⟩) (.string (bs us)) (.string (bs gr)) (.int .i64 0) (.int .i64 0) (.string ⟨#[]⟩) (.slice none 0 0)
  generalize hX0 : World.setCell _ ⟨w.heap.size + 1, 14, none⟩ (.slice none 0 0) = X at hX hXb ⊢
  have e0 := hX.cell 0
  have e1 := hX.cell 1
  have e2 := hX.cell 2
  have e3 := hX.cell 3
  have e4 := hX.cell 4
  have e5 := hX.cell 5
  have e6 := hX.cell 6
  have e7 := hX.cell 7
  have e8 := hX.cell 8
  have e9 := hX.cell 9
  have e10 := hX.cell 10
  have e11 := hX.cell 11
  have e12 := hX.cell 12
  have e13 := hX.cell 13
  have e14 := hX.cell 14
  try simp only [Exit.inBlock, Exit.then]
  refine bodyPost_ret (v := .agg #[.string (bs n), .int .u8 k, .int .i64 md, .int .i64 ui, .int .i64 gi, .int .i64 0, .int .i64 s, .int .i64 a, .string ⟨#[]⟩, .string (bs us), .string (bs gr), .int .i64 0, .int .i64 0, .string ⟨#[]⟩, .slice none 0 0]) ?_ rfl ⟨rfl, hXb⟩
  simp [results, Tryz.results94, go_sem, e0, e1, e2, e3, e4, e5, e6, e7, e8, e9, e10, e11, e12, e13, e14]

end Go.Proofs.YtkhkjacnoiopcaaGreatDoor
