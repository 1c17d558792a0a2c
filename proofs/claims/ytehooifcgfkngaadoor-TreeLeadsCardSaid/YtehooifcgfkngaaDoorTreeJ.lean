/-
  (*Tree).change.
-/
import Derived.Test.YtehooifcgfkngaaDoorTreeI
namespace Go.Proofs.YtehooifcgfkngaaDoor
open Go.RowKit Go.Maps Tre

theorem change_ways (t : T) (x : Deed) (i : Nat) (m : Nd) (hm : m = t.file i) : change t x i =
    if x.what = 5 ∧ m.kind ≠ 48 then (t, 6) else if x.what = 5 ∧ 4000 < x.to.length then (t, 4)
    else if rightN (changed m x) = false then (t, 1) else (⟨t.ents, upd t.fl i (some (changed m x)), t.nx⟩, 0) := by
  rw [hm]; rfl
/-- The map of files, one of them told anew. -/
theorem file_told {w w' : World} {g bn bf i : Nat} {t : T} (h : TreeAt w g (some bn) (some bf) t) (hi : ∃ n, t.fl i = some n) (hx : t.nx ≤ 100000) (hin : i ≤ 100000) (m : Nd) :
    ∃ wA, (Instr.mapUpdate 56 (.map (some bf)) (.int .i64 i) (ndv m)).run Tryd.prog w = .ok () wA ∧ TreeAt wA g (some bn) (some bf) ⟨t.ents, upd t.fl i (some m), t.nx⟩ ∧ w.grownBy wA (some bf) := by
  obtain ⟨n, hn⟩ := hi
  obtain ⟨nf, hf, hnf⟩ := h.fl
  have hf2 : MapF w Tryd.prog 3 bf (filesF t.fl) nf := hf
  obtain ⟨wA, hA, mA, gA, sA⟩ := hf2.store intL Tryd.underlying56 (by unfold maxLen; omega) (natK i (by omega)) (ndv m)
  rw [filesF_upd, filesF_at, hn] at mA
  have hgf : g ≠ bf := blk_map_ne h.blk hf2
  have hnb := h.ne bn rfl
  refine ⟨wA, hA, ⟨h.blk.grown gA (by intro e; injection e with e; exact hgf e), MapF.kept (show MapF w Tryd.prog 9 bn (namesF t.ents) t.ents.length from h.nm) gA (by intro e; injection e with e; exact hnb (by rw [e])), ⟨nf, mA, hnf⟩, by simp, h.ne⟩, gA⟩

set_option maxRecDepth 100000 in
set_option maxHeartbeats 4000000 in
theorem change_5 {w : World} {g : Nat} {on of : Option Nat} {t : T} (h : TreeAt w g on of t) (ht : Std t) (hx : t.nx ≤ 100000) (x : Deed) (i : Nat) (hi : Tre.look t.ents x.name = some i) (hw : x.what = 5) (h1 : x.to.length ≤ 10000) :
    Calls Tryd.prog 34 #[.pointer (some ⟨g, 0, none⟩), dv x] w fun e w' => e = .returned (errV (change t x i).2) ∧ Turned w g on of (change t x i).1 w' := by
  have hg := h.blk.lt
  have hb0 : Below w.heap.size w (w.alloc (.cells (dvc x) 43)) := (Below.refl _ _).alloc (Nat.le_refl _) _
  obtain ⟨bn, bf, rfl, rfl⟩ := h.made hi
  have HT := Lib.hid h
  have hsh := ht.short hi
  have hin : i ≤ 100000 := by omega
  have HI := Lib.hid hi
  obtain ⟨_, _, mm, hmm, hmr⟩ := ht.ok _ (look_mem hi)
  have hex : ∃ n, t.fl i = some n := ⟨mm, hmm⟩
  have HEX := Lib.hid hex
  obtain ⟨m, hM⟩ : ∃ m, m = t.file i := ⟨_, rfl⟩
  have hmm2 : m = mm := by rw [hM]; unfold T.file; simp only at hmm; rw [hmm]; rfl
  have hrm : rightN m = true := by rw [hmm2]; exact hmr
  have e := change_ways t x i m hM
  rw [e]
  have hget := files_get t i
  rw [← hM] at hget
  clear e ht hi hmr hmm2 hmm hex hM h
  obtain ⟨what, name, dest, n, node⟩ := x
  obtain ⟨n0, n1, n2, n3, n4, n5, n6, n7, n8, n9⟩ := node
  obtain ⟨m0, m1, m2, m3, m4, m5, m6, m7, m8, m9⟩ := m
  simp only at hw h1
  subst hw
  have hmk : m0 ≤ 255 ∧ m7.length ≤ 10000 ∧ m6.length ≤ 10000 := by
    unfold rightN inR at hrm
    simp at hrm
    refine ⟨by omega, by omega, ?_⟩
    have := hrm.2
    split at this
    · omega
    · rw [this]; simp
  have hcd : changed ⟨m0, m1, m2, m3, m4, m5, m6, m7, m8, m9⟩ ⟨5, name, dest, n, ⟨n0, n1, n2, n3, n4, n5, n6, n7, n8, n9⟩⟩ = ⟨m0, m1, m2, m3, m4, m5, dest, m7, m8, m9⟩ := rfl
  rw [hcd]
  have RT := Lib.hid (fun w => treeRight_any ⟨m0, m1, m2, m3, m4, m5, dest, m7, m8, m9⟩ (by simp only; omega) (by simp only; omega) (by simp only; omega) w)
  obtain ⟨rr, hr⟩ : ∃ rr, rr = rightN ⟨m0, m1, m2, m3, m4, m5, dest, m7, m8, m9⟩ := ⟨_, rfl⟩
  rw [← hr] at RT ⊢
  have HG := Lib.hid hget
  have HW := Lib.hid hcd
  unfold dv dvc
  unfold dvc at hb0
  unfold ndv ndc at RT
  simp only at RT hsh hb0 ⊢
  clear hget hcd hr hrm HW
  by_cases hk : m0 = 48
  rotate_left
  · rw [if_pos ⟨trivial, hk⟩]
    have hk2 : ((m0 : Int) != 48) = true := by
      have : ((m0 : Int) == 48) = false := beq_eq_false_iff_ne.2 (by omega)
      rw [bne, this]; rfl
    clear hk
    go_enter Tryd.func34, Tryd.ntmps34
    repeat' ((fail_if_success (with_reducible refine halt_at 1 ?_)); first | go_values | go_skip | go_guarded | go_step | go_upon | go_back | (simp only [Int.not_lt, Int.not_le] at *; go_simp) | (go_values <;> (try go_simp)) | (go_ite <;> go_prune <;> (try go_simp)) | (split <;> (first | (rename_i hx; exact (hx _ rfl).elim) | go_prune)))
    have hlk1 : namesF t.ents (.string (bs name).data.toList) = some (.int .i64 i) := by rw [bs_list, namesF_at, HI.out]; rfl
    have T1 := (HT.out.below hb0).drew
    have nm2 : MapF _ Tryd.prog 9 bn (namesF t.ents) t.ents.length := T1.nm
    have hlook := nm2.look strL Tryd.underlying55 intZero (strK (bs name) (by rw [bs_size]; unfold maxLen; omega)) hlk1
    have _g0 := (HT.out.below hb0).blk.cell 0
    simp only [Option.getD_some] at hlook
    clear nm2 hlk1
    go_region
    clear hlook
    obtain ⟨w1, hw1⟩ : ∃ w1, w1 = (w.alloc (.cells #[.int .i64 5, .string (bs name), .string (bs dest), .int .i64 n, .int .u8 n0, .int .i64 n1, .int .i64 n2, .int .i64 n3, .int .i64 n4, .int .i64 n5, .string (bs n6), .string (bs n7), .int .i64 n8, .int .i64 n9] 43)).drew := ⟨_, rfl⟩
    have bb := (Blk.new w 43 #[.int .i64 5, .string (bs name), .string (bs dest), .int .i64 n, .int .u8 n0, .int .i64 n1, .int .i64 n2, .int .i64 n3, .int .i64 n4, .int .i64 n5, .string (bs n6), .string (bs n7), .int .i64 n8, .int .i64 n9]).drew
    have hB1 : Below w.heap.size w w1 := by rw [hw1]; exact hb0.drew
    rw [← hw1] at T1 bb ⊢
    have _x0 : w1.cell? ⟨w.heap.size, 0, none⟩ = some (.int .i64 5) := bb.cell 0
    have _x2 : w1.cell? ⟨w.heap.size, 2, none⟩ = some (.string (bs dest)) := bb.cell 2
    have _x3 : w1.cell? ⟨w.heap.size, 3, none⟩ = some (.int .i64 n) := bb.cell 3
    have _x6 : w1.cell? ⟨w.heap.size, 6, none⟩ = some (.int .i64 n2) := bb.cell 6
    have _x7 : w1.cell? ⟨w.heap.size, 7, none⟩ = some (.int .i64 n3) := bb.cell 7
    have _x8 : w1.cell? ⟨w.heap.size, 8, none⟩ = some (.int .i64 n4) := bb.cell 8
    have _x9 : w1.cell? ⟨w.heap.size, 9, none⟩ = some (.int .i64 n5) := bb.cell 9
    have hBl := bb.lt
    have _h1 : w1.cell? ⟨g, 1, none⟩ = some (.map (some bf)) := T1.blk.cell 1
    obtain ⟨nf, hf, hnf⟩ := T1.fl
    have HF := Lib.hid hf
    have B1 := Lib.hid hB1
    have B3 := Lib.hid (hB1.alloc hB1.size (.cells #[.int .u8 m0, .int .i64 m1, .int .i64 m2, .int .i64 m3, .int .i64 m4, .int .i64 m5, .string (bs dest), .string (bs m7), .int .i64 m8, .int .i64 m9] 35))
    clear hw1 T1 bb hB1 hf _g0
    go_wp2_with (first
      | (refine wpList_o_look rfl (.tmp 17) (.tmp 18) 56 rfl 35 intL Tryd.underlying56 ndZero HF.out rfl (.int .i64 i) (.int .i64 i) rfl (natK i (by omega)) _ rfl ?_; rw [HG.out]; unfold ndv ndc))
    go_ret
    exact ⟨rfl, Turned.still HT.out (B1.out.alloc B1.out.size _)⟩
  rw [if_neg (fun h => h.2 hk)]
  have hk2 : ((m0 : Int) != 48) = false := by
    have : ((m0 : Int) == 48) = true := by rw [hk]; rfl
    rw [bne, this]; rfl
  clear hk
  by_cases hl : 4000 < dest.length
  · rw [if_pos ⟨trivial, hl⟩]
    have hl2 : (4000 : Int) < (bs dest).size := by rw [bs_size]; omega
    go_enter Tryd.func34, Tryd.ntmps34
    repeat' ((fail_if_success (with_reducible refine halt_at 1 ?_)); first | go_values | go_skip | go_guarded | go_step | go_upon | go_back | (simp only [Int.not_lt, Int.not_le] at *; go_simp) | (go_values <;> (try go_simp)) | (go_ite <;> go_prune <;> (try go_simp)) | (split <;> (first | (rename_i hx; exact (hx _ rfl).elim) | go_prune)))
    have hlk1 : namesF t.ents (.string (bs name).data.toList) = some (.int .i64 i) := by rw [bs_list, namesF_at, HI.out]; rfl
    have T1 := (HT.out.below hb0).drew
    have nm2 : MapF _ Tryd.prog 9 bn (namesF t.ents) t.ents.length := T1.nm
    have hlook := nm2.look strL Tryd.underlying55 intZero (strK (bs name) (by rw [bs_size]; unfold maxLen; omega)) hlk1
    have _g0 := (HT.out.below hb0).blk.cell 0
    simp only [Option.getD_some] at hlook
    clear nm2 hlk1
    go_region
    clear hlook
    obtain ⟨w1, hw1⟩ : ∃ w1, w1 = (w.alloc (.cells #[.int .i64 5, .string (bs name), .string (bs dest), .int .i64 n, .int .u8 n0, .int .i64 n1, .int .i64 n2, .int .i64 n3, .int .i64 n4, .int .i64 n5, .string (bs n6), .string (bs n7), .int .i64 n8, .int .i64 n9] 43)).drew := ⟨_, rfl⟩
    have bb := (Blk.new w 43 #[.int .i64 5, .string (bs name), .string (bs dest), .int .i64 n, .int .u8 n0, .int .i64 n1, .int .i64 n2, .int .i64 n3, .int .i64 n4, .int .i64 n5, .string (bs n6), .string (bs n7), .int .i64 n8, .int .i64 n9]).drew
    have hB1 : Below w.heap.size w w1 := by rw [hw1]; exact hb0.drew
    rw [← hw1] at T1 bb ⊢
    have _x0 : w1.cell? ⟨w.heap.size, 0, none⟩ = some (.int .i64 5) := bb.cell 0
    have _x2 : w1.cell? ⟨w.heap.size, 2, none⟩ = some (.string (bs dest)) := bb.cell 2
    have _x3 : w1.cell? ⟨w.heap.size, 3, none⟩ = some (.int .i64 n) := bb.cell 3
    have _x6 : w1.cell? ⟨w.heap.size, 6, none⟩ = some (.int .i64 n2) := bb.cell 6
    have _x7 : w1.cell? ⟨w.heap.size, 7, none⟩ = some (.int .i64 n3) := bb.cell 7
    have _x8 : w1.cell? ⟨w.heap.size, 8, none⟩ = some (.int .i64 n4) := bb.cell 8
    have _x9 : w1.cell? ⟨w.heap.size, 9, none⟩ = some (.int .i64 n5) := bb.cell 9
    have hBl := bb.lt
    have _h1 : w1.cell? ⟨g, 1, none⟩ = some (.map (some bf)) := T1.blk.cell 1
    obtain ⟨nf, hf, hnf⟩ := T1.fl
    have HF := Lib.hid hf
    have B1 := Lib.hid hB1
    have B3 := Lib.hid (hB1.alloc hB1.size (.cells #[.int .u8 m0, .int .i64 m1, .int .i64 m2, .int .i64 m3, .int .i64 m4, .int .i64 m5, .string (bs dest), .string (bs m7), .int .i64 m8, .int .i64 m9] 35))
    clear hw1 T1 bb hB1 hf _g0
    go_wp2_with (first
      | (refine wpList_o_look rfl (.tmp 17) (.tmp 18) 56 rfl 35 intL Tryd.underlying56 ndZero HF.out rfl (.int .i64 i) (.int .i64 i) rfl (natK i (by omega)) _ rfl ?_; rw [HG.out]; unfold ndv ndc))
    go_ret
    exact ⟨rfl, Turned.still HT.out (B1.out.alloc B1.out.size _)⟩
  rw [if_neg (fun h => hl h.2)]
  have hl2 : ¬ (4000 : Int) < (bs dest).size := by rw [bs_size]; omega
  cases rr with
  | false =>
    rw [if_pos rfl]
    go_enter Tryd.func34, Tryd.ntmps34
    repeat' ((fail_if_success (with_reducible refine halt_at 1 ?_)); first | go_values | go_skip | go_guarded | go_step | go_upon | go_back | (simp only [Int.not_lt, Int.not_le] at *; go_simp) | (go_values <;> (try go_simp)) | (go_ite <;> go_prune <;> (try go_simp)) | (split <;> (first | (rename_i hx; exact (hx _ rfl).elim) | go_prune)))
    have hlk1 : namesF t.ents (.string (bs name).data.toList) = some (.int .i64 i) := by rw [bs_list, namesF_at, HI.out]; rfl
    have T1 := (HT.out.below hb0).drew
    have nm2 : MapF _ Tryd.prog 9 bn (namesF t.ents) t.ents.length := T1.nm
    have hlook := nm2.look strL Tryd.underlying55 intZero (strK (bs name) (by rw [bs_size]; unfold maxLen; omega)) hlk1
    have _g0 := (HT.out.below hb0).blk.cell 0
    simp only [Option.getD_some] at hlook
    clear nm2 hlk1
    go_region
    clear hlook
    obtain ⟨w1, hw1⟩ : ∃ w1, w1 = (w.alloc (.cells #[.int .i64 5, .string (bs name), .string (bs dest), .int .i64 n, .int .u8 n0, .int .i64 n1, .int .i64 n2, .int .i64 n3, .int .i64 n4, .int .i64 n5, .string (bs n6), .string (bs n7), .int .i64 n8, .int .i64 n9] 43)).drew := ⟨_, rfl⟩
    have bb := (Blk.new w 43 #[.int .i64 5, .string (bs name), .string (bs dest), .int .i64 n, .int .u8 n0, .int .i64 n1, .int .i64 n2, .int .i64 n3, .int .i64 n4, .int .i64 n5, .string (bs n6), .string (bs n7), .int .i64 n8, .int .i64 n9]).drew
    have hB1 : Below w.heap.size w w1 := by rw [hw1]; exact hb0.drew
    rw [← hw1] at T1 bb ⊢
    have _x0 : w1.cell? ⟨w.heap.size, 0, none⟩ = some (.int .i64 5) := bb.cell 0
    have _x2 : w1.cell? ⟨w.heap.size, 2, none⟩ = some (.string (bs dest)) := bb.cell 2
    have _x3 : w1.cell? ⟨w.heap.size, 3, none⟩ = some (.int .i64 n) := bb.cell 3
    have _x6 : w1.cell? ⟨w.heap.size, 6, none⟩ = some (.int .i64 n2) := bb.cell 6
    have _x7 : w1.cell? ⟨w.heap.size, 7, none⟩ = some (.int .i64 n3) := bb.cell 7
    have _x8 : w1.cell? ⟨w.heap.size, 8, none⟩ = some (.int .i64 n4) := bb.cell 8
    have _x9 : w1.cell? ⟨w.heap.size, 9, none⟩ = some (.int .i64 n5) := bb.cell 9
    have hBl := bb.lt
    have _h1 : w1.cell? ⟨g, 1, none⟩ = some (.map (some bf)) := T1.blk.cell 1
    obtain ⟨nf, hf, hnf⟩ := T1.fl
    have HF := Lib.hid hf
    have B1 := Lib.hid hB1
    have B3 := Lib.hid (hB1.alloc hB1.size (.cells #[.int .u8 m0, .int .i64 m1, .int .i64 m2, .int .i64 m3, .int .i64 m4, .int .i64 m5, .string (bs dest), .string (bs m7), .int .i64 m8, .int .i64 m9] 35))
    clear hw1 T1 bb hB1 hf _g0
    go_wp2_with (first
      | (refine wpList_o_look rfl (.tmp 17) (.tmp 18) 56 rfl 35 intL Tryd.underlying56 ndZero HF.out rfl (.int .i64 i) (.int .i64 i) rfl (natK i (by omega)) _ rfl ?_; rw [HG.out]; unfold ndv ndc))
    refine (RT.out _).mono ?_
    rintro e w4 ⟨rfl, k4⟩
    have B4 := Lib.hid (thenB B3.out k4)
    clear k4
    go_wp2_with fail
    go_ret
    exact ⟨rfl, Turned.still HT.out B4.out⟩
  | true =>
    rw [if_neg (by simp)]
    go_enter Tryd.func34, Tryd.ntmps34
    repeat' ((fail_if_success (with_reducible refine halt_at 1 ?_)); first | go_values | go_skip | go_guarded | go_step | go_upon | go_back | (simp only [Int.not_lt, Int.not_le] at *; go_simp) | (go_values <;> (try go_simp)) | (go_ite <;> go_prune <;> (try go_simp)) | (split <;> (first | (rename_i hx; exact (hx _ rfl).elim) | go_prune)))
    have hlk1 : namesF t.ents (.string (bs name).data.toList) = some (.int .i64 i) := by rw [bs_list, namesF_at, HI.out]; rfl
    have T1 := (HT.out.below hb0).drew
    have nm2 : MapF _ Tryd.prog 9 bn (namesF t.ents) t.ents.length := T1.nm
    have hlook := nm2.look strL Tryd.underlying55 intZero (strK (bs name) (by rw [bs_size]; unfold maxLen; omega)) hlk1
    have _g0 := (HT.out.below hb0).blk.cell 0
    simp only [Option.getD_some] at hlook
    clear nm2 hlk1
    go_region
    clear hlook
    obtain ⟨w1, hw1⟩ : ∃ w1, w1 = (w.alloc (.cells #[.int .i64 5, .string (bs name), .string (bs dest), .int .i64 n, .int .u8 n0, .int .i64 n1, .int .i64 n2, .int .i64 n3, .int .i64 n4, .int .i64 n5, .string (bs n6), .string (bs n7), .int .i64 n8, .int .i64 n9] 43)).drew := ⟨_, rfl⟩
    have bb := (Blk.new w 43 #[.int .i64 5, .string (bs name), .string (bs dest), .int .i64 n, .int .u8 n0, .int .i64 n1, .int .i64 n2, .int .i64 n3, .int .i64 n4, .int .i64 n5, .string (bs n6), .string (bs n7), .int .i64 n8, .int .i64 n9]).drew
    have hB1 : Below w.heap.size w w1 := by rw [hw1]; exact hb0.drew
    rw [← hw1] at T1 bb ⊢
    have _x0 : w1.cell? ⟨w.heap.size, 0, none⟩ = some (.int .i64 5) := bb.cell 0
    have _x2 : w1.cell? ⟨w.heap.size, 2, none⟩ = some (.string (bs dest)) := bb.cell 2
    have _x3 : w1.cell? ⟨w.heap.size, 3, none⟩ = some (.int .i64 n) := bb.cell 3
    have _x6 : w1.cell? ⟨w.heap.size, 6, none⟩ = some (.int .i64 n2) := bb.cell 6
    have _x7 : w1.cell? ⟨w.heap.size, 7, none⟩ = some (.int .i64 n3) := bb.cell 7
    have _x8 : w1.cell? ⟨w.heap.size, 8, none⟩ = some (.int .i64 n4) := bb.cell 8
    have _x9 : w1.cell? ⟨w.heap.size, 9, none⟩ = some (.int .i64 n5) := bb.cell 9
    have hBl := bb.lt
    have _h1 : w1.cell? ⟨g, 1, none⟩ = some (.map (some bf)) := T1.blk.cell 1
    obtain ⟨nf, hf, hnf⟩ := T1.fl
    have HF := Lib.hid hf
    have B1 := Lib.hid hB1
    have B3 := Lib.hid (hB1.alloc hB1.size (.cells #[.int .u8 m0, .int .i64 m1, .int .i64 m2, .int .i64 m3, .int .i64 m4, .int .i64 m5, .string (bs dest), .string (bs m7), .int .i64 m8, .int .i64 m9] 35))
    clear hw1 T1 bb hB1 hf _g0
    go_wp2_with (first
      | (refine wpList_o_look rfl (.tmp 17) (.tmp 18) 56 rfl 35 intL Tryd.underlying56 ndZero HF.out rfl (.int .i64 i) (.int .i64 i) rfl (natK i (by omega)) _ rfl ?_; rw [HG.out]; unfold ndv ndc))
    refine (RT.out _).mono ?_
    rintro e w4 ⟨rfl, k4⟩
    have B4 := Lib.hid (thenB B3.out k4)
    have nb := (Blk.new w1 35 #[.int .u8 m0, .int .i64 m1, .int .i64 m2, .int .i64 m3, .int .i64 m4, .int .i64 m5, .string (bs dest), .string (bs m7), .int .i64 m8, .int .i64 m9]).below k4 (by simp)
    have T4 := HT.out.below B4.out
    have _d0 : w4.cell? ⟨w1.heap.size, 0, none⟩ = some (.int .u8 m0) := nb.cell 0
    have _d1 : w4.cell? ⟨w1.heap.size, 1, none⟩ = some (.int .i64 m1) := nb.cell 1
    have _d2 : w4.cell? ⟨w1.heap.size, 2, none⟩ = some (.int .i64 m2) := nb.cell 2
    have _d3 : w4.cell? ⟨w1.heap.size, 3, none⟩ = some (.int .i64 m3) := nb.cell 3
    have _d4 : w4.cell? ⟨w1.heap.size, 4, none⟩ = some (.int .i64 m4) := nb.cell 4
    have _d5 : w4.cell? ⟨w1.heap.size, 5, none⟩ = some (.int .i64 m5) := nb.cell 5
    have _d6 : w4.cell? ⟨w1.heap.size, 6, none⟩ = some (.string (bs dest)) := nb.cell 6
    have _d7 : w4.cell? ⟨w1.heap.size, 7, none⟩ = some (.string (bs m7)) := nb.cell 7
    have _d8 : w4.cell? ⟨w1.heap.size, 8, none⟩ = some (.int .i64 m8) := nb.cell 8
    have _d9 : w4.cell? ⟨w1.heap.size, 9, none⟩ = some (.int .i64 m9) := nb.cell 9
    have _g1 : w4.cell? ⟨g, 1, none⟩ = some (.map (some bf)) := T4.blk.cell 1
    obtain ⟨wA, hA, tA, gA⟩ := file_told (w' := w4) T4.drew HEX.out hx hin ⟨m0, m1, m2, m3, m4, m5, dest, m7, m8, m9⟩
    unfold ndv ndc at hA
    simp only at hA
    have FIN : Turned w g (some bn) (some bf) ⟨t.ents, upd t.fl i (some ⟨m0, m1, m2, m3, m4, m5, dest, m7, m8, m9⟩), t.nx⟩ wA :=
      ⟨some bn, some bf, tA, fun b hb => .inl hb, (Kept.of_below B4.out).drew.grown gA (.inl (by simp [own]))⟩
    have FN := Lib.hid FIN
    clear FIN tA gA T4 nb k4
    repeat' ((fail_if_success (with_reducible refine halt_at 18 ?_)); first | go_values | go_skip | go_guarded | go_step | go_upon | go_back | (simp only [Int.not_lt, Int.not_le] at *; go_simp) | (go_values <;> (try go_simp)) | (go_ite <;> go_prune <;> (try go_simp)) | (split <;> (first | (rename_i hx; exact (hx _ rfl).elim) | go_prune)))
    go_region
    all_goals go_wp2_with fail
    all_goals go_ret
    all_goals exact ⟨rfl, FN.out⟩

set_option maxRecDepth 100000 in
set_option maxHeartbeats 4000000 in
theorem change_6 {w : World} {g : Nat} {on of : Option Nat} {t : T} (h : TreeAt w g on of t) (ht : Std t) (hx : t.nx ≤ 100000) (x : Deed) (i : Nat) (hi : Tre.look t.ents x.name = some i) (hw : x.what = 6) (h1 : x.to.length ≤ 10000) :
    Calls Tryd.prog 34 #[.pointer (some ⟨g, 0, none⟩), dv x] w fun e w' => e = .returned (errV (change t x i).2) ∧ Turned w g on of (change t x i).1 w' := by
  have hg := h.blk.lt
  have hb0 : Below w.heap.size w (w.alloc (.cells (dvc x) 43)) := (Below.refl _ _).alloc (Nat.le_refl _) _
  obtain ⟨bn, bf, rfl, rfl⟩ := h.made hi
  have HT := Lib.hid h
  have hsh := ht.short hi
  have hin : i ≤ 100000 := by omega
  have HI := Lib.hid hi
  obtain ⟨_, _, mm, hmm, hmr⟩ := ht.ok _ (look_mem hi)
  have hex : ∃ n, t.fl i = some n := ⟨mm, hmm⟩
  have HEX := Lib.hid hex
  obtain ⟨m, hM⟩ : ∃ m, m = t.file i := ⟨_, rfl⟩
  have hmm2 : m = mm := by rw [hM]; unfold T.file; simp only at hmm; rw [hmm]; rfl
  have hrm : rightN m = true := by rw [hmm2]; exact hmr
  have e := change_ways t x i m hM
  rw [e]
  have hget := files_get t i
  rw [← hM] at hget
  clear e ht hi hmr hmm2 hmm hex hM h
  obtain ⟨what, name, dest, n, node⟩ := x
  obtain ⟨n0, n1, n2, n3, n4, n5, n6, n7, n8, n9⟩ := node
  obtain ⟨m0, m1, m2, m3, m4, m5, m6, m7, m8, m9⟩ := m
  simp only at hw h1
  subst hw
  have hmk : m0 ≤ 255 ∧ m7.length ≤ 10000 ∧ m6.length ≤ 10000 := by
    unfold rightN inR at hrm
    simp at hrm
    refine ⟨by omega, by omega, ?_⟩
    have := hrm.2
    split at this
    · omega
    · rw [this]; simp
  have hcd : changed ⟨m0, m1, m2, m3, m4, m5, m6, m7, m8, m9⟩ ⟨6, name, dest, n, ⟨n0, n1, n2, n3, n4, n5, n6, n7, n8, n9⟩⟩ = ⟨m0, n, m2, m3, m4, m5, m6, m7, m8, m9⟩ := rfl
  rw [hcd]
  have RT := Lib.hid (fun w => treeRight_any ⟨m0, n, m2, m3, m4, m5, m6, m7, m8, m9⟩ (by simp only; omega) (by simp only; omega) (by simp only; omega) w)
  obtain ⟨rr, hr⟩ : ∃ rr, rr = rightN ⟨m0, n, m2, m3, m4, m5, m6, m7, m8, m9⟩ := ⟨_, rfl⟩
  rw [← hr] at RT ⊢
  have HG := Lib.hid hget
  have HW := Lib.hid hcd
  unfold dv dvc
  unfold dvc at hb0
  unfold ndv ndc at RT
  simp only at RT hsh hb0 ⊢
  clear hget hcd hr hrm HW
  rw [if_neg (fun h => absurd h.1 (by decide)), if_neg (fun h => absurd h.1 (by decide))]
  cases rr with
  | false =>
    rw [if_pos rfl]
    go_enter Tryd.func34, Tryd.ntmps34
    repeat' ((fail_if_success (with_reducible refine halt_at 1 ?_)); first | go_values | go_skip | go_guarded | go_step | go_upon | go_back | (simp only [Int.not_lt, Int.not_le] at *; go_simp) | (go_values <;> (try go_simp)) | (go_ite <;> go_prune <;> (try go_simp)) | (split <;> (first | (rename_i hx; exact (hx _ rfl).elim) | go_prune)))
    have hlk1 : namesF t.ents (.string (bs name).data.toList) = some (.int .i64 i) := by rw [bs_list, namesF_at, HI.out]; rfl
    have T1 := (HT.out.below hb0).drew
    have nm2 : MapF _ Tryd.prog 9 bn (namesF t.ents) t.ents.length := T1.nm
    have hlook := nm2.look strL Tryd.underlying55 intZero (strK (bs name) (by rw [bs_size]; unfold maxLen; omega)) hlk1
    have _g0 := (HT.out.below hb0).blk.cell 0
    simp only [Option.getD_some] at hlook
    clear nm2 hlk1
    go_region
    clear hlook
    obtain ⟨w1, hw1⟩ : ∃ w1, w1 = (w.alloc (.cells #[.int .i64 6, .string (bs name), .string (bs dest), .int .i64 n, .int .u8 n0, .int .i64 n1, .int .i64 n2, .int .i64 n3, .int .i64 n4, .int .i64 n5, .string (bs n6), .string (bs n7), .int .i64 n8, .int .i64 n9] 43)).drew := ⟨_, rfl⟩
    have bb := (Blk.new w 43 #[.int .i64 6, .string (bs name), .string (bs dest), .int .i64 n, .int .u8 n0, .int .i64 n1, .int .i64 n2, .int .i64 n3, .int .i64 n4, .int .i64 n5, .string (bs n6), .string (bs n7), .int .i64 n8, .int .i64 n9]).drew
    have hB1 : Below w.heap.size w w1 := by rw [hw1]; exact hb0.drew
    rw [← hw1] at T1 bb ⊢
    have _x0 : w1.cell? ⟨w.heap.size, 0, none⟩ = some (.int .i64 6) := bb.cell 0
    have _x2 : w1.cell? ⟨w.heap.size, 2, none⟩ = some (.string (bs dest)) := bb.cell 2
    have _x3 : w1.cell? ⟨w.heap.size, 3, none⟩ = some (.int .i64 n) := bb.cell 3
    have _x6 : w1.cell? ⟨w.heap.size, 6, none⟩ = some (.int .i64 n2) := bb.cell 6
    have _x7 : w1.cell? ⟨w.heap.size, 7, none⟩ = some (.int .i64 n3) := bb.cell 7
    have _x8 : w1.cell? ⟨w.heap.size, 8, none⟩ = some (.int .i64 n4) := bb.cell 8
    have _x9 : w1.cell? ⟨w.heap.size, 9, none⟩ = some (.int .i64 n5) := bb.cell 9
    have hBl := bb.lt
    have _h1 : w1.cell? ⟨g, 1, none⟩ = some (.map (some bf)) := T1.blk.cell 1
    obtain ⟨nf, hf, hnf⟩ := T1.fl
    have HF := Lib.hid hf
    have B1 := Lib.hid hB1
    have B3 := Lib.hid (hB1.alloc hB1.size (.cells #[.int .u8 m0, .int .i64 n, .int .i64 m2, .int .i64 m3, .int .i64 m4, .int .i64 m5, .string (bs m6), .string (bs m7), .int .i64 m8, .int .i64 m9] 35))
    clear hw1 T1 bb hB1 hf _g0
    go_wp2_with (first
      | (refine wpList_o_look rfl (.tmp 17) (.tmp 18) 56 rfl 35 intL Tryd.underlying56 ndZero HF.out rfl (.int .i64 i) (.int .i64 i) rfl (natK i (by omega)) _ rfl ?_; rw [HG.out]; unfold ndv ndc))
    refine (RT.out _).mono ?_
    rintro e w4 ⟨rfl, k4⟩
    have B4 := Lib.hid (thenB B3.out k4)
    clear k4
    go_wp2_with fail
    go_ret
    exact ⟨rfl, Turned.still HT.out B4.out⟩
  | true =>
    rw [if_neg (by simp)]
    go_enter Tryd.func34, Tryd.ntmps34
    repeat' ((fail_if_success (with_reducible refine halt_at 1 ?_)); first | go_values | go_skip | go_guarded | go_step | go_upon | go_back | (simp only [Int.not_lt, Int.not_le] at *; go_simp) | (go_values <;> (try go_simp)) | (go_ite <;> go_prune <;> (try go_simp)) | (split <;> (first | (rename_i hx; exact (hx _ rfl).elim) | go_prune)))
    have hlk1 : namesF t.ents (.string (bs name).data.toList) = some (.int .i64 i) := by rw [bs_list, namesF_at, HI.out]; rfl
    have T1 := (HT.out.below hb0).drew
    have nm2 : MapF _ Tryd.prog 9 bn (namesF t.ents) t.ents.length := T1.nm
    have hlook := nm2.look strL Tryd.underlying55 intZero (strK (bs name) (by rw [bs_size]; unfold maxLen; omega)) hlk1
    have _g0 := (HT.out.below hb0).blk.cell 0
    simp only [Option.getD_some] at hlook
    clear nm2 hlk1
    go_region
    clear hlook
    obtain ⟨w1, hw1⟩ : ∃ w1, w1 = (w.alloc (.cells #[.int .i64 6, .string (bs name), .string (bs dest), .int .i64 n, .int .u8 n0, .int .i64 n1, .int .i64 n2, .int .i64 n3, .int .i64 n4, .int .i64 n5, .string (bs n6), .string (bs n7), .int .i64 n8, .int .i64 n9] 43)).drew := ⟨_, rfl⟩
    have bb := (Blk.new w 43 #[.int .i64 6, .string (bs name), .string (bs dest), .int .i64 n, .int .u8 n0, .int .i64 n1, .int .i64 n2, .int .i64 n3, .int .i64 n4, .int .i64 n5, .string (bs n6), .string (bs n7), .int .i64 n8, .int .i64 n9]).drew
    have hB1 : Below w.heap.size w w1 := by rw [hw1]; exact hb0.drew
    rw [← hw1] at T1 bb ⊢
    have _x0 : w1.cell? ⟨w.heap.size, 0, none⟩ = some (.int .i64 6) := bb.cell 0
    have _x2 : w1.cell? ⟨w.heap.size, 2, none⟩ = some (.string (bs dest)) := bb.cell 2
    have _x3 : w1.cell? ⟨w.heap.size, 3, none⟩ = some (.int .i64 n) := bb.cell 3
    have _x6 : w1.cell? ⟨w.heap.size, 6, none⟩ = some (.int .i64 n2) := bb.cell 6
    have _x7 : w1.cell? ⟨w.heap.size, 7, none⟩ = some (.int .i64 n3) := bb.cell 7
    have _x8 : w1.cell? ⟨w.heap.size, 8, none⟩ = some (.int .i64 n4) := bb.cell 8
    have _x9 : w1.cell? ⟨w.heap.size, 9, none⟩ = some (.int .i64 n5) := bb.cell 9
    have hBl := bb.lt
    have _h1 : w1.cell? ⟨g, 1, none⟩ = some (.map (some bf)) := T1.blk.cell 1
    obtain ⟨nf, hf, hnf⟩ := T1.fl
    have HF := Lib.hid hf
    have B1 := Lib.hid hB1
    have B3 := Lib.hid (hB1.alloc hB1.size (.cells #[.int .u8 m0, .int .i64 n, .int .i64 m2, .int .i64 m3, .int .i64 m4, .int .i64 m5, .string (bs m6), .string (bs m7), .int .i64 m8, .int .i64 m9] 35))
    clear hw1 T1 bb hB1 hf _g0
    go_wp2_with (first
      | (refine wpList_o_look rfl (.tmp 17) (.tmp 18) 56 rfl 35 intL Tryd.underlying56 ndZero HF.out rfl (.int .i64 i) (.int .i64 i) rfl (natK i (by omega)) _ rfl ?_; rw [HG.out]; unfold ndv ndc))
    refine (RT.out _).mono ?_
    rintro e w4 ⟨rfl, k4⟩
    have B4 := Lib.hid (thenB B3.out k4)
    have nb := (Blk.new w1 35 #[.int .u8 m0, .int .i64 n, .int .i64 m2, .int .i64 m3, .int .i64 m4, .int .i64 m5, .string (bs m6), .string (bs m7), .int .i64 m8, .int .i64 m9]).below k4 (by simp)
    have T4 := HT.out.below B4.out
    have _d0 : w4.cell? ⟨w1.heap.size, 0, none⟩ = some (.int .u8 m0) := nb.cell 0
    have _d1 : w4.cell? ⟨w1.heap.size, 1, none⟩ = some (.int .i64 n) := nb.cell 1
    have _d2 : w4.cell? ⟨w1.heap.size, 2, none⟩ = some (.int .i64 m2) := nb.cell 2
    have _d3 : w4.cell? ⟨w1.heap.size, 3, none⟩ = some (.int .i64 m3) := nb.cell 3
    have _d4 : w4.cell? ⟨w1.heap.size, 4, none⟩ = some (.int .i64 m4) := nb.cell 4
    have _d5 : w4.cell? ⟨w1.heap.size, 5, none⟩ = some (.int .i64 m5) := nb.cell 5
    have _d6 : w4.cell? ⟨w1.heap.size, 6, none⟩ = some (.string (bs m6)) := nb.cell 6
    have _d7 : w4.cell? ⟨w1.heap.size, 7, none⟩ = some (.string (bs m7)) := nb.cell 7
    have _d8 : w4.cell? ⟨w1.heap.size, 8, none⟩ = some (.int .i64 m8) := nb.cell 8
    have _d9 : w4.cell? ⟨w1.heap.size, 9, none⟩ = some (.int .i64 m9) := nb.cell 9
    have _g1 : w4.cell? ⟨g, 1, none⟩ = some (.map (some bf)) := T4.blk.cell 1
    obtain ⟨wA, hA, tA, gA⟩ := file_told (w' := w4) T4.drew HEX.out hx hin ⟨m0, n, m2, m3, m4, m5, m6, m7, m8, m9⟩
    unfold ndv ndc at hA
    simp only at hA
    have FIN : Turned w g (some bn) (some bf) ⟨t.ents, upd t.fl i (some ⟨m0, n, m2, m3, m4, m5, m6, m7, m8, m9⟩), t.nx⟩ wA :=
      ⟨some bn, some bf, tA, fun b hb => .inl hb, (Kept.of_below B4.out).drew.grown gA (.inl (by simp [own]))⟩
    have FN := Lib.hid FIN
    clear FIN tA gA T4 nb k4
    repeat' ((fail_if_success (with_reducible refine halt_at 18 ?_)); first | go_values | go_skip | go_guarded | go_step | go_upon | go_back | (simp only [Int.not_lt, Int.not_le] at *; go_simp) | (go_values <;> (try go_simp)) | (go_ite <;> go_prune <;> (try go_simp)) | (split <;> (first | (rename_i hx; exact (hx _ rfl).elim) | go_prune)))
    go_region
    all_goals go_wp2_with fail
    all_goals go_ret
    all_goals exact ⟨rfl, FN.out⟩

set_option maxRecDepth 100000 in
set_option maxHeartbeats 4000000 in
theorem change_7 {w : World} {g : Nat} {on of : Option Nat} {t : T} (h : TreeAt w g on of t) (ht : Std t) (hx : t.nx ≤ 100000) (x : Deed) (i : Nat) (hi : Tre.look t.ents x.name = some i) (hw : x.what = 7) (h1 : x.to.length ≤ 10000) :
    Calls Tryd.prog 34 #[.pointer (some ⟨g, 0, none⟩), dv x] w fun e w' => e = .returned (errV (change t x i).2) ∧ Turned w g on of (change t x i).1 w' := by
  have hg := h.blk.lt
  have hb0 : Below w.heap.size w (w.alloc (.cells (dvc x) 43)) := (Below.refl _ _).alloc (Nat.le_refl _) _
  obtain ⟨bn, bf, rfl, rfl⟩ := h.made hi
  have HT := Lib.hid h
  have hsh := ht.short hi
  have hin : i ≤ 100000 := by omega
  have HI := Lib.hid hi
  obtain ⟨_, _, mm, hmm, hmr⟩ := ht.ok _ (look_mem hi)
  have hex : ∃ n, t.fl i = some n := ⟨mm, hmm⟩
  have HEX := Lib.hid hex
  obtain ⟨m, hM⟩ : ∃ m, m = t.file i := ⟨_, rfl⟩
  have hmm2 : m = mm := by rw [hM]; unfold T.file; simp only at hmm; rw [hmm]; rfl
  have hrm : rightN m = true := by rw [hmm2]; exact hmr
  have e := change_ways t x i m hM
  rw [e]
  have hget := files_get t i
  rw [← hM] at hget
  clear e ht hi hmr hmm2 hmm hex hM h
  obtain ⟨what, name, dest, n, node⟩ := x
  obtain ⟨n0, n1, n2, n3, n4, n5, n6, n7, n8, n9⟩ := node
  obtain ⟨m0, m1, m2, m3, m4, m5, m6, m7, m8, m9⟩ := m
  simp only at hw h1
  subst hw
  have hmk : m0 ≤ 255 ∧ m7.length ≤ 10000 ∧ m6.length ≤ 10000 := by
    unfold rightN inR at hrm
    simp at hrm
    refine ⟨by omega, by omega, ?_⟩
    have := hrm.2
    split at this
    · omega
    · rw [this]; simp
  have hcd : changed ⟨m0, m1, m2, m3, m4, m5, m6, m7, m8, m9⟩ ⟨7, name, dest, n, ⟨n0, n1, n2, n3, n4, n5, n6, n7, n8, n9⟩⟩ = ⟨m0, m1, n2, n3, m4, m5, m6, m7, m8, m9⟩ := rfl
  rw [hcd]
  have RT := Lib.hid (fun w => treeRight_any ⟨m0, m1, n2, n3, m4, m5, m6, m7, m8, m9⟩ (by simp only; omega) (by simp only; omega) (by simp only; omega) w)
  obtain ⟨rr, hr⟩ : ∃ rr, rr = rightN ⟨m0, m1, n2, n3, m4, m5, m6, m7, m8, m9⟩ := ⟨_, rfl⟩
  rw [← hr] at RT ⊢
  have HG := Lib.hid hget
  have HW := Lib.hid hcd
  unfold dv dvc
  unfold dvc at hb0
  unfold ndv ndc at RT
  simp only at RT hsh hb0 ⊢
  clear hget hcd hr hrm HW
  rw [if_neg (fun h => absurd h.1 (by decide)), if_neg (fun h => absurd h.1 (by decide))]
  cases rr with
  | false =>
    rw [if_pos rfl]
    go_enter Tryd.func34, Tryd.ntmps34
    repeat' ((fail_if_success (with_reducible refine halt_at 1 ?_)); first | go_values | go_skip | go_guarded | go_step | go_upon | go_back | (simp only [Int.not_lt, Int.not_le] at *; go_simp) | (go_values <;> (try go_simp)) | (go_ite <;> go_prune <;> (try go_simp)) | (split <;> (first | (rename_i hx; exact (hx _ rfl).elim) | go_prune)))
    have hlk1 : namesF t.ents (.string (bs name).data.toList) = some (.int .i64 i) := by rw [bs_list, namesF_at, HI.out]; rfl
    have T1 := (HT.out.below hb0).drew
    have nm2 : MapF _ Tryd.prog 9 bn (namesF t.ents) t.ents.length := T1.nm
    have hlook := nm2.look strL Tryd.underlying55 intZero (strK (bs name) (by rw [bs_size]; unfold maxLen; omega)) hlk1
    have _g0 := (HT.out.below hb0).blk.cell 0
    simp only [Option.getD_some] at hlook
    clear nm2 hlk1
    go_region
    clear hlook
    obtain ⟨w1, hw1⟩ : ∃ w1, w1 = (w.alloc (.cells #[.int .i64 7, .string (bs name), .string (bs dest), .int .i64 n, .int .u8 n0, .int .i64 n1, .int .i64 n2, .int .i64 n3, .int .i64 n4, .int .i64 n5, .string (bs n6), .string (bs n7), .int .i64 n8, .int .i64 n9] 43)).drew := ⟨_, rfl⟩
    have bb := (Blk.new w 43 #[.int .i64 7, .string (bs name), .string (bs dest), .int .i64 n, .int .u8 n0, .int .i64 n1, .int .i64 n2, .int .i64 n3, .int .i64 n4, .int .i64 n5, .string (bs n6), .string (bs n7), .int .i64 n8, .int .i64 n9]).drew
    have hB1 : Below w.heap.size w w1 := by rw [hw1]; exact hb0.drew
    rw [← hw1] at T1 bb ⊢
    have _x0 : w1.cell? ⟨w.heap.size, 0, none⟩ = some (.int .i64 7) := bb.cell 0
    have _x2 : w1.cell? ⟨w.heap.size, 2, none⟩ = some (.string (bs dest)) := bb.cell 2
    have _x3 : w1.cell? ⟨w.heap.size, 3, none⟩ = some (.int .i64 n) := bb.cell 3
    have _x6 : w1.cell? ⟨w.heap.size, 6, none⟩ = some (.int .i64 n2) := bb.cell 6
    have _x7 : w1.cell? ⟨w.heap.size, 7, none⟩ = some (.int .i64 n3) := bb.cell 7
    have _x8 : w1.cell? ⟨w.heap.size, 8, none⟩ = some (.int .i64 n4) := bb.cell 8
    have _x9 : w1.cell? ⟨w.heap.size, 9, none⟩ = some (.int .i64 n5) := bb.cell 9
    have hBl := bb.lt
    have _h1 : w1.cell? ⟨g, 1, none⟩ = some (.map (some bf)) := T1.blk.cell 1
    obtain ⟨nf, hf, hnf⟩ := T1.fl
    have HF := Lib.hid hf
    have B1 := Lib.hid hB1
    have B3 := Lib.hid (hB1.alloc hB1.size (.cells #[.int .u8 m0, .int .i64 m1, .int .i64 n2, .int .i64 n3, .int .i64 m4, .int .i64 m5, .string (bs m6), .string (bs m7), .int .i64 m8, .int .i64 m9] 35)).drew
    clear hw1 T1 bb hB1 hf _g0
    repeat' ((fail_if_success (with_reducible refine halt_at 13 ?_)); first
      | (refine wpList_o_look rfl (.tmp 17) (.tmp 18) 56 rfl 35 intL Tryd.underlying56 ndZero HF.out rfl (.int .i64 i) (.int .i64 i) rfl (natK i (by omega)) _ rfl ?_; rw [HG.out]; unfold ndv ndc)
      | go_values | go_skip | go_guarded | go_step | go_upon | go_back | (simp only [Int.not_lt, Int.not_le] at *; go_simp) | (go_values <;> (try go_simp)) | (go_ite <;> go_prune <;> (try go_simp)) | (split <;> (first | (rename_i hx; exact (hx _ rfl).elim) | go_prune)))
    go_region
    go_wp2_with fail
    refine (RT.out _).mono ?_
    rintro e w4 ⟨rfl, k4⟩
    have B4 := Lib.hid (thenB B3.out k4)
    clear k4
    go_wp2_with fail
    go_ret
    exact ⟨rfl, Turned.still HT.out B4.out⟩
  | true =>
    rw [if_neg (by simp)]
    go_enter Tryd.func34, Tryd.ntmps34
    repeat' ((fail_if_success (with_reducible refine halt_at 1 ?_)); first | go_values | go_skip | go_guarded | go_step | go_upon | go_back | (simp only [Int.not_lt, Int.not_le] at *; go_simp) | (go_values <;> (try go_simp)) | (go_ite <;> go_prune <;> (try go_simp)) | (split <;> (first | (rename_i hx; exact (hx _ rfl).elim) | go_prune)))
    have hlk1 : namesF t.ents (.string (bs name).data.toList) = some (.int .i64 i) := by rw [bs_list, namesF_at, HI.out]; rfl
    have T1 := (HT.out.below hb0).drew
    have nm2 : MapF _ Tryd.prog 9 bn (namesF t.ents) t.ents.length := T1.nm
    have hlook := nm2.look strL Tryd.underlying55 intZero (strK (bs name) (by rw [bs_size]; unfold maxLen; omega)) hlk1
    have _g0 := (HT.out.below hb0).blk.cell 0
    simp only [Option.getD_some] at hlook
    clear nm2 hlk1
    go_region
    clear hlook
    obtain ⟨w1, hw1⟩ : ∃ w1, w1 = (w.alloc (.cells #[.int .i64 7, .string (bs name), .string (bs dest), .int .i64 n, .int .u8 n0, .int .i64 n1, .int .i64 n2, .int .i64 n3, .int .i64 n4, .int .i64 n5, .string (bs n6), .string (bs n7), .int .i64 n8, .int .i64 n9] 43)).drew := ⟨_, rfl⟩
    have bb := (Blk.new w 43 #[.int .i64 7, .string (bs name), .string (bs dest), .int .i64 n, .int .u8 n0, .int .i64 n1, .int .i64 n2, .int .i64 n3, .int .i64 n4, .int .i64 n5, .string (bs n6), .string (bs n7), .int .i64 n8, .int .i64 n9]).drew
    have hB1 : Below w.heap.size w w1 := by rw [hw1]; exact hb0.drew
    rw [← hw1] at T1 bb ⊢
    have _x0 : w1.cell? ⟨w.heap.size, 0, none⟩ = some (.int .i64 7) := bb.cell 0
    have _x2 : w1.cell? ⟨w.heap.size, 2, none⟩ = some (.string (bs dest)) := bb.cell 2
    have _x3 : w1.cell? ⟨w.heap.size, 3, none⟩ = some (.int .i64 n) := bb.cell 3
    have _x6 : w1.cell? ⟨w.heap.size, 6, none⟩ = some (.int .i64 n2) := bb.cell 6
    have _x7 : w1.cell? ⟨w.heap.size, 7, none⟩ = some (.int .i64 n3) := bb.cell 7
    have _x8 : w1.cell? ⟨w.heap.size, 8, none⟩ = some (.int .i64 n4) := bb.cell 8
    have _x9 : w1.cell? ⟨w.heap.size, 9, none⟩ = some (.int .i64 n5) := bb.cell 9
    have hBl := bb.lt
    have _h1 : w1.cell? ⟨g, 1, none⟩ = some (.map (some bf)) := T1.blk.cell 1
    obtain ⟨nf, hf, hnf⟩ := T1.fl
    have HF := Lib.hid hf
    have B1 := Lib.hid hB1
    have B3 := Lib.hid (hB1.alloc hB1.size (.cells #[.int .u8 m0, .int .i64 m1, .int .i64 n2, .int .i64 n3, .int .i64 m4, .int .i64 m5, .string (bs m6), .string (bs m7), .int .i64 m8, .int .i64 m9] 35)).drew
    clear hw1 T1 bb hB1 hf _g0
    repeat' ((fail_if_success (with_reducible refine halt_at 13 ?_)); first
      | (refine wpList_o_look rfl (.tmp 17) (.tmp 18) 56 rfl 35 intL Tryd.underlying56 ndZero HF.out rfl (.int .i64 i) (.int .i64 i) rfl (natK i (by omega)) _ rfl ?_; rw [HG.out]; unfold ndv ndc)
      | go_values | go_skip | go_guarded | go_step | go_upon | go_back | (simp only [Int.not_lt, Int.not_le] at *; go_simp) | (go_values <;> (try go_simp)) | (go_ite <;> go_prune <;> (try go_simp)) | (split <;> (first | (rename_i hx; exact (hx _ rfl).elim) | go_prune)))
    go_region
    go_wp2_with fail
    refine (RT.out _).mono ?_
    rintro e w4 ⟨rfl, k4⟩
    have B4 := Lib.hid (thenB B3.out k4)
    have nb := (Blk.new w1 35 #[.int .u8 m0, .int .i64 m1, .int .i64 n2, .int .i64 n3, .int .i64 m4, .int .i64 m5, .string (bs m6), .string (bs m7), .int .i64 m8, .int .i64 m9]).drew.below k4 (by simp)
    have T4 := HT.out.below B4.out
    have _d0 : w4.cell? ⟨w1.heap.size, 0, none⟩ = some (.int .u8 m0) := nb.cell 0
    have _d1 : w4.cell? ⟨w1.heap.size, 1, none⟩ = some (.int .i64 m1) := nb.cell 1
    have _d2 : w4.cell? ⟨w1.heap.size, 2, none⟩ = some (.int .i64 n2) := nb.cell 2
    have _d3 : w4.cell? ⟨w1.heap.size, 3, none⟩ = some (.int .i64 n3) := nb.cell 3
    have _d4 : w4.cell? ⟨w1.heap.size, 4, none⟩ = some (.int .i64 m4) := nb.cell 4
    have _d5 : w4.cell? ⟨w1.heap.size, 5, none⟩ = some (.int .i64 m5) := nb.cell 5
    have _d6 : w4.cell? ⟨w1.heap.size, 6, none⟩ = some (.string (bs m6)) := nb.cell 6
    have _d7 : w4.cell? ⟨w1.heap.size, 7, none⟩ = some (.string (bs m7)) := nb.cell 7
    have _d8 : w4.cell? ⟨w1.heap.size, 8, none⟩ = some (.int .i64 m8) := nb.cell 8
    have _d9 : w4.cell? ⟨w1.heap.size, 9, none⟩ = some (.int .i64 m9) := nb.cell 9
    have _g1 : w4.cell? ⟨g, 1, none⟩ = some (.map (some bf)) := T4.blk.cell 1
    obtain ⟨wA, hA, tA, gA⟩ := file_told (w' := w4) T4.drew HEX.out hx hin ⟨m0, m1, n2, n3, m4, m5, m6, m7, m8, m9⟩
    unfold ndv ndc at hA
    simp only at hA
    have FIN : Turned w g (some bn) (some bf) ⟨t.ents, upd t.fl i (some ⟨m0, m1, n2, n3, m4, m5, m6, m7, m8, m9⟩), t.nx⟩ wA :=
      ⟨some bn, some bf, tA, fun b hb => .inl hb, (Kept.of_below B4.out).drew.grown gA (.inl (by simp [own]))⟩
    have FN := Lib.hid FIN
    clear FIN tA gA T4 nb k4
    repeat' ((fail_if_success (with_reducible refine halt_at 18 ?_)); first | go_values | go_skip | go_guarded | go_step | go_upon | go_back | (simp only [Int.not_lt, Int.not_le] at *; go_simp) | (go_values <;> (try go_simp)) | (go_ite <;> go_prune <;> (try go_simp)) | (split <;> (first | (rename_i hx; exact (hx _ rfl).elim) | go_prune)))
    go_region
    all_goals go_wp2_with fail
    all_goals go_ret
    all_goals exact ⟨rfl, FN.out⟩

set_option maxRecDepth 100000 in
set_option maxHeartbeats 4000000 in
theorem change_8 {w : World} {g : Nat} {on of : Option Nat} {t : T} (h : TreeAt w g on of t) (ht : Std t) (hx : t.nx ≤ 100000) (x : Deed) (i : Nat) (hi : Tre.look t.ents x.name = some i) (hw : x.what = 8) (h1 : x.to.length ≤ 10000) :
    Calls Tryd.prog 34 #[.pointer (some ⟨g, 0, none⟩), dv x] w fun e w' => e = .returned (errV (change t x i).2) ∧ Turned w g on of (change t x i).1 w' := by
  have hg := h.blk.lt
  have hb0 : Below w.heap.size w (w.alloc (.cells (dvc x) 43)) := (Below.refl _ _).alloc (Nat.le_refl _) _
  obtain ⟨bn, bf, rfl, rfl⟩ := h.made hi
  have HT := Lib.hid h
  have hsh := ht.short hi
  have hin : i ≤ 100000 := by omega
  have HI := Lib.hid hi
  obtain ⟨_, _, mm, hmm, hmr⟩ := ht.ok _ (look_mem hi)
  have hex : ∃ n, t.fl i = some n := ⟨mm, hmm⟩
  have HEX := Lib.hid hex
  obtain ⟨m, hM⟩ : ∃ m, m = t.file i := ⟨_, rfl⟩
  have hmm2 : m = mm := by rw [hM]; unfold T.file; simp only at hmm; rw [hmm]; rfl
  have hrm : rightN m = true := by rw [hmm2]; exact hmr
  have e := change_ways t x i m hM
  rw [e]
  have hget := files_get t i
  rw [← hM] at hget
  clear e ht hi hmr hmm2 hmm hex hM h
  obtain ⟨what, name, dest, n, node⟩ := x
  obtain ⟨n0, n1, n2, n3, n4, n5, n6, n7, n8, n9⟩ := node
  obtain ⟨m0, m1, m2, m3, m4, m5, m6, m7, m8, m9⟩ := m
  simp only at hw h1
  subst hw
  have hmk : m0 ≤ 255 ∧ m7.length ≤ 10000 ∧ m6.length ≤ 10000 := by
    unfold rightN inR at hrm
    simp at hrm
    refine ⟨by omega, by omega, ?_⟩
    have := hrm.2
    split at this
    · omega
    · rw [this]; simp
  have hcd : changed ⟨m0, m1, m2, m3, m4, m5, m6, m7, m8, m9⟩ ⟨8, name, dest, n, ⟨n0, n1, n2, n3, n4, n5, n6, n7, n8, n9⟩⟩ = ⟨m0, m1, m2, m3, n4, n5, m6, m7, m8, m9⟩ := rfl
  rw [hcd]
  have RT := Lib.hid (fun w => treeRight_any ⟨m0, m1, m2, m3, n4, n5, m6, m7, m8, m9⟩ (by simp only; omega) (by simp only; omega) (by simp only; omega) w)
  obtain ⟨rr, hr⟩ : ∃ rr, rr = rightN ⟨m0, m1, m2, m3, n4, n5, m6, m7, m8, m9⟩ := ⟨_, rfl⟩
  rw [← hr] at RT ⊢
  have HG := Lib.hid hget
  have HW := Lib.hid hcd
  unfold dv dvc
  unfold dvc at hb0
  unfold ndv ndc at RT
  simp only at RT hsh hb0 ⊢
  clear hget hcd hr hrm HW
  rw [if_neg (fun h => absurd h.1 (by decide)), if_neg (fun h => absurd h.1 (by decide))]
  cases rr with
  | false =>
    rw [if_pos rfl]
    go_enter Tryd.func34, Tryd.ntmps34
    repeat' ((fail_if_success (with_reducible refine halt_at 1 ?_)); first | go_values | go_skip | go_guarded | go_step | go_upon | go_back | (simp only [Int.not_lt, Int.not_le] at *; go_simp) | (go_values <;> (try go_simp)) | (go_ite <;> go_prune <;> (try go_simp)) | (split <;> (first | (rename_i hx; exact (hx _ rfl).elim) | go_prune)))
    have hlk1 : namesF t.ents (.string (bs name).data.toList) = some (.int .i64 i) := by rw [bs_list, namesF_at, HI.out]; rfl
    have T1 := (HT.out.below hb0).drew
    have nm2 : MapF _ Tryd.prog 9 bn (namesF t.ents) t.ents.length := T1.nm
    have hlook := nm2.look strL Tryd.underlying55 intZero (strK (bs name) (by rw [bs_size]; unfold maxLen; omega)) hlk1
    have _g0 := (HT.out.below hb0).blk.cell 0
    simp only [Option.getD_some] at hlook
    clear nm2 hlk1
    go_region
    clear hlook
    obtain ⟨w1, hw1⟩ : ∃ w1, w1 = (w.alloc (.cells #[.int .i64 8, .string (bs name), .string (bs dest), .int .i64 n, .int .u8 n0, .int .i64 n1, .int .i64 n2, .int .i64 n3, .int .i64 n4, .int .i64 n5, .string (bs n6), .string (bs n7), .int .i64 n8, .int .i64 n9] 43)).drew := ⟨_, rfl⟩
    have bb := (Blk.new w 43 #[.int .i64 8, .string (bs name), .string (bs dest), .int .i64 n, .int .u8 n0, .int .i64 n1, .int .i64 n2, .int .i64 n3, .int .i64 n4, .int .i64 n5, .string (bs n6), .string (bs n7), .int .i64 n8, .int .i64 n9]).drew
    have hB1 : Below w.heap.size w w1 := by rw [hw1]; exact hb0.drew
    rw [← hw1] at T1 bb ⊢
    have _x0 : w1.cell? ⟨w.heap.size, 0, none⟩ = some (.int .i64 8) := bb.cell 0
    have _x2 : w1.cell? ⟨w.heap.size, 2, none⟩ = some (.string (bs dest)) := bb.cell 2
    have _x3 : w1.cell? ⟨w.heap.size, 3, none⟩ = some (.int .i64 n) := bb.cell 3
    have _x6 : w1.cell? ⟨w.heap.size, 6, none⟩ = some (.int .i64 n2) := bb.cell 6
    have _x7 : w1.cell? ⟨w.heap.size, 7, none⟩ = some (.int .i64 n3) := bb.cell 7
    have _x8 : w1.cell? ⟨w.heap.size, 8, none⟩ = some (.int .i64 n4) := bb.cell 8
    have _x9 : w1.cell? ⟨w.heap.size, 9, none⟩ = some (.int .i64 n5) := bb.cell 9
    have hBl := bb.lt
    have _h1 : w1.cell? ⟨g, 1, none⟩ = some (.map (some bf)) := T1.blk.cell 1
    obtain ⟨nf, hf, hnf⟩ := T1.fl
    have HF := Lib.hid hf
    have B1 := Lib.hid hB1
    have B3 := Lib.hid (hB1.alloc hB1.size (.cells #[.int .u8 m0, .int .i64 m1, .int .i64 m2, .int .i64 m3, .int .i64 n4, .int .i64 n5, .string (bs m6), .string (bs m7), .int .i64 m8, .int .i64 m9] 35))
    clear hw1 T1 bb hB1 hf _g0
    go_wp2_with (first
      | (refine wpList_o_look rfl (.tmp 17) (.tmp 18) 56 rfl 35 intL Tryd.underlying56 ndZero HF.out rfl (.int .i64 i) (.int .i64 i) rfl (natK i (by omega)) _ rfl ?_; rw [HG.out]; unfold ndv ndc))
    refine (RT.out _).mono ?_
    rintro e w4 ⟨rfl, k4⟩
    have B4 := Lib.hid (thenB B3.out k4)
    clear k4
    go_wp2_with fail
    go_ret
    exact ⟨rfl, Turned.still HT.out B4.out⟩
  | true =>
    rw [if_neg (by simp)]
    go_enter Tryd.func34, Tryd.ntmps34
    repeat' ((fail_if_success (with_reducible refine halt_at 1 ?_)); first | go_values | go_skip | go_guarded | go_step | go_upon | go_back | (simp only [Int.not_lt, Int.not_le] at *; go_simp) | (go_values <;> (try go_simp)) | (go_ite <;> go_prune <;> (try go_simp)) | (split <;> (first | (rename_i hx; exact (hx _ rfl).elim) | go_prune)))
    have hlk1 : namesF t.ents (.string (bs name).data.toList) = some (.int .i64 i) := by rw [bs_list, namesF_at, HI.out]; rfl
    have T1 := (HT.out.below hb0).drew
    have nm2 : MapF _ Tryd.prog 9 bn (namesF t.ents) t.ents.length := T1.nm
    have hlook := nm2.look strL Tryd.underlying55 intZero (strK (bs name) (by rw [bs_size]; unfold maxLen; omega)) hlk1
    have _g0 := (HT.out.below hb0).blk.cell 0
    simp only [Option.getD_some] at hlook
    clear nm2 hlk1
    go_region
    clear hlook
    obtain ⟨w1, hw1⟩ : ∃ w1, w1 = (w.alloc (.cells #[.int .i64 8, .string (bs name), .string (bs dest), .int .i64 n, .int .u8 n0, .int .i64 n1, .int .i64 n2, .int .i64 n3, .int .i64 n4, .int .i64 n5, .string (bs n6), .string (bs n7), .int .i64 n8, .int .i64 n9] 43)).drew := ⟨_, rfl⟩
    have bb := (Blk.new w 43 #[.int .i64 8, .string (bs name), .string (bs dest), .int .i64 n, .int .u8 n0, .int .i64 n1, .int .i64 n2, .int .i64 n3, .int .i64 n4, .int .i64 n5, .string (bs n6), .string (bs n7), .int .i64 n8, .int .i64 n9]).drew
    have hB1 : Below w.heap.size w w1 := by rw [hw1]; exact hb0.drew
    rw [← hw1] at T1 bb ⊢
    have _x0 : w1.cell? ⟨w.heap.size, 0, none⟩ = some (.int .i64 8) := bb.cell 0
    have _x2 : w1.cell? ⟨w.heap.size, 2, none⟩ = some (.string (bs dest)) := bb.cell 2
    have _x3 : w1.cell? ⟨w.heap.size, 3, none⟩ = some (.int .i64 n) := bb.cell 3
    have _x6 : w1.cell? ⟨w.heap.size, 6, none⟩ = some (.int .i64 n2) := bb.cell 6
    have _x7 : w1.cell? ⟨w.heap.size, 7, none⟩ = some (.int .i64 n3) := bb.cell 7
    have _x8 : w1.cell? ⟨w.heap.size, 8, none⟩ = some (.int .i64 n4) := bb.cell 8
    have _x9 : w1.cell? ⟨w.heap.size, 9, none⟩ = some (.int .i64 n5) := bb.cell 9
    have hBl := bb.lt
    have _h1 : w1.cell? ⟨g, 1, none⟩ = some (.map (some bf)) := T1.blk.cell 1
    obtain ⟨nf, hf, hnf⟩ := T1.fl
    have HF := Lib.hid hf
    have B1 := Lib.hid hB1
    have B3 := Lib.hid (hB1.alloc hB1.size (.cells #[.int .u8 m0, .int .i64 m1, .int .i64 m2, .int .i64 m3, .int .i64 n4, .int .i64 n5, .string (bs m6), .string (bs m7), .int .i64 m8, .int .i64 m9] 35))
    clear hw1 T1 bb hB1 hf _g0
    go_wp2_with (first
      | (refine wpList_o_look rfl (.tmp 17) (.tmp 18) 56 rfl 35 intL Tryd.underlying56 ndZero HF.out rfl (.int .i64 i) (.int .i64 i) rfl (natK i (by omega)) _ rfl ?_; rw [HG.out]; unfold ndv ndc))
    refine (RT.out _).mono ?_
    rintro e w4 ⟨rfl, k4⟩
    have B4 := Lib.hid (thenB B3.out k4)
    have nb := (Blk.new w1 35 #[.int .u8 m0, .int .i64 m1, .int .i64 m2, .int .i64 m3, .int .i64 n4, .int .i64 n5, .string (bs m6), .string (bs m7), .int .i64 m8, .int .i64 m9]).below k4 (by simp)
    have T4 := HT.out.below B4.out
    have _d0 : w4.cell? ⟨w1.heap.size, 0, none⟩ = some (.int .u8 m0) := nb.cell 0
    have _d1 : w4.cell? ⟨w1.heap.size, 1, none⟩ = some (.int .i64 m1) := nb.cell 1
    have _d2 : w4.cell? ⟨w1.heap.size, 2, none⟩ = some (.int .i64 m2) := nb.cell 2
    have _d3 : w4.cell? ⟨w1.heap.size, 3, none⟩ = some (.int .i64 m3) := nb.cell 3
    have _d4 : w4.cell? ⟨w1.heap.size, 4, none⟩ = some (.int .i64 n4) := nb.cell 4
    have _d5 : w4.cell? ⟨w1.heap.size, 5, none⟩ = some (.int .i64 n5) := nb.cell 5
    have _d6 : w4.cell? ⟨w1.heap.size, 6, none⟩ = some (.string (bs m6)) := nb.cell 6
    have _d7 : w4.cell? ⟨w1.heap.size, 7, none⟩ = some (.string (bs m7)) := nb.cell 7
    have _d8 : w4.cell? ⟨w1.heap.size, 8, none⟩ = some (.int .i64 m8) := nb.cell 8
    have _d9 : w4.cell? ⟨w1.heap.size, 9, none⟩ = some (.int .i64 m9) := nb.cell 9
    have _g1 : w4.cell? ⟨g, 1, none⟩ = some (.map (some bf)) := T4.blk.cell 1
    obtain ⟨wA, hA, tA, gA⟩ := file_told (w' := w4) T4.drew HEX.out hx hin ⟨m0, m1, m2, m3, n4, n5, m6, m7, m8, m9⟩
    unfold ndv ndc at hA
    simp only at hA
    have FIN : Turned w g (some bn) (some bf) ⟨t.ents, upd t.fl i (some ⟨m0, m1, m2, m3, n4, n5, m6, m7, m8, m9⟩), t.nx⟩ wA :=
      ⟨some bn, some bf, tA, fun b hb => .inl hb, (Kept.of_below B4.out).drew.grown gA (.inl (by simp [own]))⟩
    have FN := Lib.hid FIN
    clear FIN tA gA T4 nb k4
    repeat' ((fail_if_success (with_reducible refine halt_at 18 ?_)); first | go_values | go_skip | go_guarded | go_step | go_upon | go_back | (simp only [Int.not_lt, Int.not_le] at *; go_simp) | (go_values <;> (try go_simp)) | (go_ite <;> go_prune <;> (try go_simp)) | (split <;> (first | (rename_i hx; exact (hx _ rfl).elim) | go_prune)))
    go_region
    all_goals go_wp2_with fail
    all_goals go_ret
    all_goals exact ⟨rfl, FN.out⟩

end Go.Proofs.YtehooifcgfkngaaDoor
