/-
  volume.read.
-/
import Derived.Test.YtdhnjbiigpiecaaDoorVolPlain
import Derived.Test.YtdhnjbiigpiecaaDoorHeadW
import Derived.Test.YtdhnjbiigpiecaaDoorFill
import Derived.Test.YtdhnjbiigpiecaaDoorUpto
import Derived.Deep.DeepCutAuto
namespace Go.Proofs.YtdhnjbiigpiecaaDoor
open Go.RowKit

set_option maxRecDepth 100000 in
set_option maxHeartbeats 4000000 in
/-- A volume whose header is no header. -/
theorem vread_spoilt (s : ByteArray) (h1 : 512 ≤ s.size) (h2 : s.size ≤ 100000) (hR : rightL (s.data.toList.take 512) = false) (w : World) :
    Calls Tryd.prog 15 #[.string s] w fun e w' => e = .returned (.tuple #[.agg #[.string ⟨#[]⟩, .string ⟨#[]⟩, .string ⟨#[]⟩, .string ⟨#[]⟩, .string ⟨#[]⟩, .int .u8 0, .int .i64 0, .int .i64 0, .int .i64 0, .int .i64 0, .int .i64 0, .int .i64 0, .int .i64 0], .string ⟨#[]⟩, .iface 32 (.int .i64 15)]) ∧ Below w.heap.size w w' := by
  have h1i : (512 : Int) ≤ s.size := by omega
  have h2i : (s.size : Int) ≤ 100000 := by omega
  have hx : (s.extract 0 512).data.toList = s.data.toList.take 512 := ext_to s 512
  have hxs : (s.extract 0 512).size = 512 := by rw [← list_size, hx, List.length_take, list_size]; omega
  have RS := Lib.hid (fun w => read_spoilt (s.extract 0 512) (by omega) (by omega) (by rw [hx]; exact hR) w)
  obtain ⟨T, hT⟩ : ∃ T, T = s.extract 0 512 := ⟨_, rfl⟩
  rw [← hT] at RS
  have hT2 := hT.symm
  clear hR hx hxs hT
  go_enter Tryd.func15, Tryd.ntmps15
  repeat' ((fail_if_success (with_reducible refine halt_at 3 ?_)); first | go_values | go_skip | go_guarded | go_step | go_upon | go_back | (simp only [Int.not_lt, Int.not_le] at *; go_simp) | (go_values <;> (try go_simp)) | (go_ite <;> go_prune <;> (try go_simp)) | (split <;> (first | (rename_i hx; exact (hx _ rfl).elim) | go_prune)))
  go_cut [2, 5, 6, 7] (fun s2 s5 s6 s7 wx => ∃ B, s2 = .pointer (some ⟨w.heap.size, 0, none⟩) ∧ s5 = .pointer (some ⟨B, 0, none⟩) ∧ s6 = .int .i64 0 ∧ s7 = .iface 32 (.int .i64 15) ∧ Blk wx w.heap.size 42 #[.string ⟨#[]⟩, .string ⟨#[]⟩, .string ⟨#[]⟩, .string ⟨#[]⟩, .string ⟨#[]⟩, .int .u8 0, .int .i64 0, .int .i64 0, .int .i64 0, .int .i64 0, .int .i64 0, .int .i64 0, .int .i64 0] ∧ Below w.heap.size w wx)
  case first =>
    go_wp2_with fail
    refine (RS.out _).mono ?_
    rintro e w1 ⟨rfl, h1⟩
    have hZ : Blk w1 w.heap.size 42 #[.string ⟨#[]⟩, .string ⟨#[]⟩, .string ⟨#[]⟩, .string ⟨#[]⟩, .string ⟨#[]⟩, .int .u8 0, .int .i64 0, .int .i64 0, .int .i64 0, .int .i64 0, .int .i64 0, .int .i64 0, .int .i64 0] := (Blk.new w _ _).below h1 (by simp)
    have HB := Lib.hid (thenB ((Below.refl _ _).alloc (Nat.le_refl _) _) h1)
    have HZ := Lib.hid hZ
    clear h1 hZ
    go_wp2_with fail
    go_meet
    exact ⟨_, rfl, rfl, rfl, rfl, HZ.out.alloc _, HB.out.alloc HB.out.size _⟩
  case rest =>
    obtain ⟨B, rfl, rfl, rfl, rfl, hZ, hB⟩ := hcut
    have c0 := hZ.cell 0
    have c1 := hZ.cell 1
    have c2 := hZ.cell 2
    have c3 := hZ.cell 3
    have c4 := hZ.cell 4
    have c5 := hZ.cell 5
    have c6 := hZ.cell 6
    have c7 := hZ.cell 7
    have c8 := hZ.cell 8
    have c9 := hZ.cell 9
    have c10 := hZ.cell 10
    have c11 := hZ.cell 11
    have c12 := hZ.cell 12
    have f0 := hZ.frozen 0
    have f1 := hZ.frozen 1
    have f2 := hZ.frozen 2
    have f3 := hZ.frozen 3
    have f4 := hZ.frozen 4
    have f5 := hZ.frozen 5
    have f6 := hZ.frozen 6
    have f7 := hZ.frozen 7
    have f8 := hZ.frozen 8
    have f9 := hZ.frozen 9
    have f10 := hZ.frozen 10
    have f11 := hZ.frozen 11
    have f12 := hZ.frozen 12
    have HB := Lib.hid hB
    have HZ := Lib.hid hZ
    clear hB hZ
    go_wp2_with fail
    have hX := set13 HZ.out (.string ⟨#[]⟩) (.string ⟨#[]⟩) (.string ⟨#[]⟩) (.string ⟨#[]⟩) (.string ⟨#[]⟩) (.int .u8 0) (.int .i64 0) (.int .i64 0) (.int .i64 0) (.int .i64 0) (.int .i64 0) (.int .i64 0) (.int .i64 0)
    have hXb := below13 HB.out (Nat.le_refl w.heap.size) (.string ⟨#[]⟩) (.string ⟨#[]⟩) (.string ⟨#[]⟩) (.string ⟨#[]⟩) (.string ⟨#[]⟩) (.int .u8 0) (.int .i64 0) (.int .i64 0) (.int .i64 0) (.int .i64 0) (.int .i64 0) (.int .i64 0) (.int .i64 0)
    generalize hX0 : World.setCell _ ⟨w.heap.size, 12, none⟩ (.int .i64 0) = X at hX hXb ⊢
    have e0 := hX.cell 0
    have e1 := hX.cell 1
    have e2 := hX.cell 2
    have e3 := hX.cell 3
    have e4 := hX.cell 4
    have e5 := hX.cell 5
    have e6 := hX.cell 6
    have e7 := hX.cell 7
    have e8 := hX.cell 8
    have e9 := hX.cell 9
    have e10 := hX.cell 10
    have e11 := hX.cell 11
    have e12 := hX.cell 12
    refine bodyPost_ret (v := .tuple #[.agg #[.string ⟨#[]⟩, .string ⟨#[]⟩, .string ⟨#[]⟩, .string ⟨#[]⟩, .string ⟨#[]⟩, .int .u8 0, .int .i64 0, .int .i64 0, .int .i64 0, .int .i64 0, .int .i64 0, .int .i64 0, .int .i64 0], .string ⟨#[]⟩, .iface 32 (.int .i64 15)]) (by simp [results, Tryd.results15, go_sem, e0, e1, e2, e3, e4, e5, e6, e7, e8, e9, e10, e11, e12]) rfl ⟨rfl, hXb⟩

/-- What a header of a volume holds, as cells. -/
abbrev vcells (i n z : Nat) : Array Value := #[.string ⟨#[86, 79, 76, 85, 77, 69]⟩, .string ⟨#[]⟩, .string ⟨#[]⟩, .string ⟨#[]⟩, .string ⟨#[]⟩, .int .u8 77, .int .i64 i, .int .i64 n, .int .i64 0, .int .i64 z, .int .i64 0, .int .i64 0, .int .i64 0]

set_option maxRecDepth 100000 in
set_option maxHeartbeats 4000000 in
theorem vread_ok (i n z : Nat) (hi : i < n) (hn : n ≤ 20) (S H R P : ByteArray) (hz : z ≤ 100000) (hS : S.size ≤ 200000) (h512 : 512 ≤ S.size) (hH : S.extract 0 512 = H) (hR : S.extract 512 S.size = R) (hP : R.extract 0 z = P) (hzR : z ≤ R.size) (hF : fillB P = R) (hPs : P.size ≤ 100000)
    (hW : HWrite 3 (vraw i n z) H.data.toList) (w : World) :
    Calls Tryd.prog 15 #[.string S] w fun e w' => e = .returned (.tuple #[.agg (vcells i n z), .string P, .nilIface]) ∧ Below w.heap.size w w' := by
  have h512i : (512 : Int) ≤ S.size := by omega
  have hSi : (S.size : Int) ≤ 200000 := by omega
  have hzi : (z : Int) ≤ R.size := by omega
  have hii : (i : Int) < n := by omega
  have hni : (n : Int) ≤ 20 := by omega
  have hni1 : (1 : Int) ≤ n := by omega
  have RS0 := fun w => hread_ok 3 (vraw i n z) H.data.toList (by decide) (by decide) (vraw_wf (by omega) (by omega) (by omega)) hW w
  simp only [bs_of] at RS0
  have RS1 : ∀ w : World, Calls Tryd.prog 33 #[.string H] w fun e w' => e = .returned (.tuple #[.agg (vcells i n z), .int .i64 3, .nilIface]) ∧ Below w.heap.size w w' := RS0
  have RS := Lib.hid RS1
  have FL0 := fun w => fill_any P (by omega) w
  rw [hF] at FL0
  have FL := Lib.hid FL0
  have ee : (R.toList == R.toList) = true := by simp
  clear RS0 RS1 FL0 hW hF hPs hi hn
  go_enter Tryd.func15, Tryd.ntmps15
  repeat' ((fail_if_success (with_reducible refine halt_at 3 ?_)); first | go_values | go_skip | go_guarded | go_step | go_upon | go_back | (simp only [Int.not_lt, Int.not_le] at *; go_simp) | (go_values <;> (try go_simp)) | (go_ite <;> go_prune <;> (try go_simp)) | (split <;> (first | (rename_i hx; exact (hx _ rfl).elim) | go_prune)))
  go_cut [0, 2, 5, 7] (fun s0 s2 s5 s7 wx => ∃ B, s0 = .string S ∧ s2 = .pointer (some ⟨w.heap.size, 0, none⟩) ∧ s5 = .pointer (some ⟨B, 0, none⟩) ∧ s7 = .nilIface ∧ w.heap.size < B ∧ Blk wx w.heap.size 42 #[.string ⟨#[]⟩, .string ⟨#[]⟩, .string ⟨#[]⟩, .string ⟨#[]⟩, .string ⟨#[]⟩, .int .u8 0, .int .i64 0, .int .i64 0, .int .i64 0, .int .i64 0, .int .i64 0, .int .i64 0, .int .i64 0] ∧ Blk wx B 42 (vcells i n z) ∧ Below w.heap.size w wx)
  case first =>
    go_wp2_with fail
    refine (RS.out _).mono ?_
    rintro e w1 ⟨rfl, h1⟩
    have hZ : Blk w1 w.heap.size 42 #[.string ⟨#[]⟩, .string ⟨#[]⟩, .string ⟨#[]⟩, .string ⟨#[]⟩, .string ⟨#[]⟩, .int .u8 0, .int .i64 0, .int .i64 0, .int .i64 0, .int .i64 0, .int .i64 0, .int .i64 0, .int .i64 0] := (Blk.new w _ _).below h1 (by simp)
    have HB := Lib.hid (thenB ((Below.refl _ _).alloc (Nat.le_refl _) _) h1)
    have HZ := Lib.hid hZ
    clear h1 hZ
    go_wp2_with fail
    go_meet
    exact ⟨_, rfl, rfl, rfl, rfl, HZ.out.lt, HZ.out.alloc _, Blk.new w1 _ _, HB.out.alloc HB.out.size _⟩
  case rest =>
    obtain ⟨B, rfl, rfl, rfl, rfl, hlt, hZ, hY, hB⟩ := hcut
    have g0 := hY.cell 0
    have g1 := hY.cell 1
    have g2 := hY.cell 2
    have g3 := hY.cell 3
    have g4 := hY.cell 4
    have g5 := hY.cell 5
    have g6 := hY.cell 6
    have g7 := hY.cell 7
    have g8 := hY.cell 8
    have g9 := hY.cell 9
    have g10 := hY.cell 10
    have g11 := hY.cell 11
    have g12 := hY.cell 12
    have HB := Lib.hid hB
    have HZ := Lib.hid hZ
    have HY := Lib.hid hY
    clear hB hZ hY
    repeat' ((fail_if_success (with_reducible refine halt_at 16 ?_)); first | go_values | go_skip | go_guarded | go_step | go_upon | go_back | (simp only [Int.not_lt, Int.not_le] at *; go_simp) | (go_values <;> (try go_simp)) | (go_ite <;> go_prune <;> (try go_simp)) | (split <;> (first | (rename_i hx; exact (hx _ rfl).elim) | go_prune)))
    go_cut [2, 5, 8, 27, 50] (fun s2 s5 s8 _ s50 wx => s2 = .pointer (some ⟨w.heap.size, 0, none⟩) ∧ s5 = .pointer (some ⟨B, 0, none⟩) ∧ s8 = .string R ∧ s50 = .bool false ∧ Blk wx w.heap.size 42 #[.string ⟨#[]⟩, .string ⟨#[]⟩, .string ⟨#[]⟩, .string ⟨#[]⟩, .string ⟨#[]⟩, .int .u8 0, .int .i64 0, .int .i64 0, .int .i64 0, .int .i64 0, .int .i64 0, .int .i64 0, .int .i64 0] ∧ Blk wx B 42 (vcells i n z) ∧ Below w.heap.size w wx)
    case first =>
      go_wp2_with fail
      refine (FL.out _).mono ?_
      rintro e w2 ⟨rfl, h2⟩
      have hZ2 := HZ.out.below h2 HZ.out.lt
      have hY2 := HY.out.below h2 HY.out.lt
      have hB2 := HB.out.trans (h2.mono HB.out.size)
      have X2 := Lib.hid (And.intro hZ2 (And.intro hY2 hB2))
      clear h2 hZ2 hY2 hB2
      go_wp2_with fail
      go_meet
      exact ⟨rfl, rfl, rfl, by simp, X2.out.1, X2.out.2.1, X2.out.2.2⟩
    case rest =>
      obtain ⟨rfl, rfl, rfl, rfl, hZ, hY, hB⟩ := hcut
      clear g0 g1 g2 g3 g4 g5 g6 g7 g8 g9 g10 g11 g12
      have c0 := hZ.cell 0
      have c1 := hZ.cell 1
      have c2 := hZ.cell 2
      have c3 := hZ.cell 3
      have c4 := hZ.cell 4
      have c5 := hZ.cell 5
      have c6 := hZ.cell 6
      have c7 := hZ.cell 7
      have c8 := hZ.cell 8
      have c9 := hZ.cell 9
      have c10 := hZ.cell 10
      have c11 := hZ.cell 11
      have c12 := hZ.cell 12
      have f0 := hZ.frozen 0
      have f1 := hZ.frozen 1
      have f2 := hZ.frozen 2
      have f3 := hZ.frozen 3
      have f4 := hZ.frozen 4
      have f5 := hZ.frozen 5
      have f6 := hZ.frozen 6
      have f7 := hZ.frozen 7
      have f8 := hZ.frozen 8
      have f9 := hZ.frozen 9
      have f10 := hZ.frozen 10
      have f11 := hZ.frozen 11
      have f12 := hZ.frozen 12
      have g0 := hY.cell 0
      have g1 := hY.cell 1
      have g2 := hY.cell 2
      have g3 := hY.cell 3
      have g4 := hY.cell 4
      have g5 := hY.cell 5
      have g6 := hY.cell 6
      have g7 := hY.cell 7
      have g8 := hY.cell 8
      have g9 := hY.cell 9
      have g10 := hY.cell 10
      have g11 := hY.cell 11
      have g12 := hY.cell 12
      have HB2 := Lib.hid hB
      have HZ2 := Lib.hid hZ
      clear hB hZ hY HB HZ HY FL RS
      repeat' ((fail_if_success (with_reducible refine halt_at 18 ?_)); first | go_values | go_skip | go_guarded | go_step | go_upon | go_back | (simp only [Int.not_lt, Int.not_le] at *; go_simp) | (go_values <;> (try go_simp)) | (go_ite <;> go_prune <;> (try go_simp)) | (split <;> (first | (rename_i hx; exact (hx _ rfl).elim) | go_prune)))
      go_region
      all_goals go_wp2_with fail
      have hX := set13 HZ2.out (.string ⟨#[86, 79, 76, 85, 77, 69]⟩) (.string ⟨#[]⟩) (.string ⟨#[]⟩) (.string ⟨#[]⟩) (.string ⟨#[]⟩) (.int .u8 77) (.int .i64 i) (.int .i64 n) (.int .i64 0) (.int .i64 z) (.int .i64 0) (.int .i64 0) (.int .i64 0)
      have hXb := below13 HB2.out (Nat.le_refl w.heap.size) (.string ⟨#[86, 79, 76, 85, 77, 69]⟩) (.string ⟨#[]⟩) (.string ⟨#[]⟩) (.string ⟨#[]⟩) (.string ⟨#[]⟩) (.int .u8 77) (.int .i64 i) (.int .i64 n) (.int .i64 0) (.int .i64 z) (.int .i64 0) (.int .i64 0) (.int .i64 0)
      generalize hX0 : World.setCell _ ⟨w.heap.size, 12, none⟩ (.int .i64 0) = X at hX hXb ⊢
      have e0 := hX.cell 0
      have e1 := hX.cell 1
      have e2 := hX.cell 2
      have e3 := hX.cell 3
      have e4 := hX.cell 4
      have e5 := hX.cell 5
      have e6 := hX.cell 6
      have e7 := hX.cell 7
      have e8 := hX.cell 8
      have e9 := hX.cell 9
      have e10 := hX.cell 10
      have e11 := hX.cell 11
      have e12 := hX.cell 12
      refine bodyPost_ret (v := .tuple #[.agg (vcells i n z), .string P, .nilIface]) (by simp [results, Tryd.results15, go_sem, e0, e1, e2, e3, e4, e5, e6, e7, e8, e9, e10, e11, e12]) rfl ⟨rfl, hXb.drew⟩

end Go.Proofs.YtdhnjbiigpiecaaDoor
