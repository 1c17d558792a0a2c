/-
  The walk of PackTwo.
-/
import Derived.Test.YtipajekehbpghaaGreatDoorZm
import Derived.Test.YtipajekehbpghaaGreatDoorZk
import Derived.Test.YtipajekehbpghaaGreatDoorZn
import Derived.Test.YtipajekehbpghaaGreatDoorZo
import Derived.Test.YtipajekehbpghaaGreatDoorZf
import Derived.Test.YtipajekehbpghaaGreatDoorCards
import Derived.Test.YtipajekehbpghaaGreatDoorTie
import Derived.ProofKit
import Derived.OpenShut
import Derived.ShutString
import Derived.ChangeOld
import Derived.Below
import Derived.SizedLaws
import Derived.Deep.DeepHandedRow
import Derived.Lib.LaidTab
import Derived.SevenTiedAt
import Derived.LaidMore
set_option linter.unusedVariables false
set_option linter.unusedSimpArgs false

namespace Go.Proofs.YtipajekehbpghaaGreatDoor
open Go.RowKit Go.Maps Tre Pk

theorem err_some {c : Int} (h : c ≠ 0) : errV c = .iface 89 (.int .i64 c) := if_neg h
theorem err_none {c : Int} (h : c = 0) : errV c = .nilIface := by rw [h]; rfl
theorem bs_none (l : Pth.Bs) (h : l = []) : (bs l).toList.isEmpty = true := by rw [List.isEmpty_iff]; exact (str_nil l).2 h
theorem bs_ne {l : Pth.Bs} (h : l ≠ []) : (bs l).toList.isEmpty = false := by rw [← Bool.not_eq_true, List.isEmpty_iff]; exact fun e => h ((str_nil l).1 e)

set_option maxRecDepth 100000 in
set_option maxHeartbeats 16000000 in
theorem packTwo_main (v : Value) (l : List Deed) (e f : Ent) (m1 m2 : Value) (w : World) (hD : DeedsIn w v l) (hm : ML w) (he : Came w e m1) (hf : Came w f m2) :
    Calls Tryz.prog 4 #[v, ev e m1, ev f m2] w fun r w' => r = .returned (.bool true) ∧ Below w.heap.size w w' := by
  obtain ⟨W, hW⟩ : ∃ W, W = (w.alloc (.cells #[.string (bs e.name), .int .u8 e.kind, .int .i64 e.mode, .int .i64 e.uid, .int .i64 e.gid, .int .i64 e.size, .int .i64 e.sec, .int .i64 e.nano, .string (bs e.link), .string (bs e.user), .string (bs e.group), .int .i64 e.major, .int .i64 e.minor, .string (bs e.data), m1] 40)).alloc (.cells #[.string (bs f.name), .int .u8 f.kind, .int .i64 f.mode, .int .i64 f.uid, .int .i64 f.gid, .int .i64 f.size, .int .i64 f.sec, .int .i64 f.nano, .string (bs f.link), .string (bs f.user), .string (bs f.group), .int .i64 f.major, .int .i64 f.minor, .string (bs f.data), m2] 40) := ⟨_, rfl⟩
  have HB0 := Lib.hid (show Below w.heap.size w W by rw [hW]; exact ((Below.refl _ _).alloc (Nat.le_refl _) _).alloc (by simp) _)
  have hWs : W.heap.size = w.heap.size + 2 := by rw [hW]; simp
  have BEW := Lib.hid (show Blk W w.heap.size 40 (evc e m1) by rw [hW]; exact (Blk.new w 40 _).alloc _)
  have BFW := Lib.hid (show Blk W (w.heap.size + 1) 40 (evc f m2) by
    have := Blk.new (w.alloc (.cells #[.string (bs e.name), .int .u8 e.kind, .int .i64 e.mode, .int .i64 e.uid, .int .i64 e.gid, .int .i64 e.size, .int .i64 e.sec, .int .i64 e.nano, .string (bs e.link), .string (bs e.user), .string (bs e.group), .int .i64 e.major, .int .i64 e.minor, .string (bs e.data), m1] 40)) 40 (evc f m2)
    rw [show (w.alloc (.cells #[.string (bs e.name), .int .u8 e.kind, .int .i64 e.mode, .int .i64 e.uid, .int .i64 e.gid, .int .i64 e.size, .int .i64 e.sec, .int .i64 e.nano, .string (bs e.link), .string (bs e.user), .string (bs e.group), .int .i64 e.major, .int .i64 e.minor, .string (bs e.data), m1] 40)).heap.size = w.heap.size + 1 by simp] at this
    rw [hW]; exact this)
  have lE : w.heap.size < W.heap.size := by omega
  have lF : w.heap.size + 1 < W.heap.size := by omega
  have FIN := Lib.hid (fun w' (h : Below W.heap.size W w') => (thenB HB0.out h : Below w.heap.size w w'))
  have HM := Lib.hid (hm.below HB0.out)
  have PK := Lib.hid (packed_any W HM.out)
  have PL := Lib.hid (fun w' (hb : Below W.heap.size W w') => planted_any ((hD.below HB0.out).below hb) (HM.out.below hb))
  have LE := Lib.hid (fun w' (hb : Below W.heap.size W w') => large_any e m1 w' ((he.below HB0.out).below hb))
  have LF := Lib.hid (fun w' (hb : Below W.heap.size W w') => large_any f m2 w' ((hf.below HB0.out).below hb))
  have CE := Lib.hid (he.below HB0.out)
  have CF := Lib.hid (hf.below HB0.out)
  have HW := Lib.hid hW
  obtain ⟨X, cap, rfl, _⟩ := id hD
  unfold ev evc at LE LF ⊢
  clear hD hm he hf hW
  go_enter Tryz.func4, Tryz.ntmps4
  go_wp2_with fail
  rw [← HW.out]
  refine PK.out.mono ?_
  rintro r w1 ⟨rfl, h1⟩
  have B1 := Lib.hid h1
  clear h1 HW
  go_wp2_with fail
  refine (PL.out _ B1.out).mono ?_
  rintro r w2 ⟨h2, ⟨hb, rfl⟩ | ⟨hb, g, on, of, rfl, hT, hO⟩⟩
  · have B2 := Lib.hid (thenB B1.out h2)
    clear h2
    go_wp2_with fail; go_ret; exact ⟨rfl, FIN.out _ B2.out⟩
  have B2 := Lib.hid (thenB B1.out h2)
  have hl60 := bigL_len hb
  have hnx0 := plant_nx l
  have HS := Lib.hid (plant_std l)
  have HD := Lib.hid (plant_dir1 l)
  have HT := Lib.hid hT
  have HO := Lib.hid (fun b hb => Nat.le_trans B1.out.size (hO b hb))
  obtain ⟨t, ht⟩ : ∃ t, t = plant l := ⟨_, rfl⟩
  rw [← ht] at HT HS hnx0 HD
  have hnx : t.nx ≤ 60 := by omega
  clear h2 hb hT hO ht PL hnx0 PK
  have kE := BEW.out.below B2.out lE; have c0 : w2.cell? ⟨w.heap.size, 0, none⟩ = some (.string (bs e.name)) := kE.cell 0; have c1 : w2.cell? ⟨w.heap.size, 1, none⟩ = some (.int .u8 e.kind) := kE.cell 1; have c2 : w2.cell? ⟨w.heap.size, 2, none⟩ = some (.int .i64 e.mode) := kE.cell 2; have c3 : w2.cell? ⟨w.heap.size, 3, none⟩ = some (.int .i64 e.uid) := kE.cell 3; have c4 : w2.cell? ⟨w.heap.size, 4, none⟩ = some (.int .i64 e.gid) := kE.cell 4; have c5 : w2.cell? ⟨w.heap.size, 5, none⟩ = some (.int .i64 e.size) := kE.cell 5; have c6 : w2.cell? ⟨w.heap.size, 6, none⟩ = some (.int .i64 e.sec) := kE.cell 6; have c7 : w2.cell? ⟨w.heap.size, 7, none⟩ = some (.int .i64 e.nano) := kE.cell 7; have c8 : w2.cell? ⟨w.heap.size, 8, none⟩ = some (.string (bs e.link)) := kE.cell 8; have c9 : w2.cell? ⟨w.heap.size, 9, none⟩ = some (.string (bs e.user)) := kE.cell 9; have c10 : w2.cell? ⟨w.heap.size, 10, none⟩ = some (.string (bs e.group)) := kE.cell 10; have c11 : w2.cell? ⟨w.heap.size, 11, none⟩ = some (.int .i64 e.major) := kE.cell 11; have c12 : w2.cell? ⟨w.heap.size, 12, none⟩ = some (.int .i64 e.minor) := kE.cell 12; have c13 : w2.cell? ⟨w.heap.size, 13, none⟩ = some (.string (bs e.data)) := kE.cell 13; have c14 : w2.cell? ⟨w.heap.size, 14, none⟩ = some m1 := kE.cell 14; clear kE
  go_wp2_with fail
  refine (LE.out _ B2.out).mono ?_
  rintro r w3 ⟨rfl, h3⟩
  have B3 := Lib.hid (thenB B2.out h3)
  have T3 := Lib.hid (HT.out.below h3)
  clear h3 LE
  obtain ⟨le, hle⟩ : ∃ b, b = largeE e := ⟨_, rfl⟩
  rw [← hle]
  have HLE := Lib.hid hle
  clear hle
  clear c0 c1 c2 c3 c4 c5 c6 c7 c8 c9 c10 c11 c12 c13 c14
  cases le with
  | true => go_wp2_with fail; go_ret; exact ⟨rfl, FIN.out _ B3.out⟩
  | false =>
  have kF := BFW.out.below B3.out lF; have d0 : w3.cell? ⟨w.heap.size + 1, 0, none⟩ = some (.string (bs f.name)) := kF.cell 0; have d1 : w3.cell? ⟨w.heap.size + 1, 1, none⟩ = some (.int .u8 f.kind) := kF.cell 1; have d2 : w3.cell? ⟨w.heap.size + 1, 2, none⟩ = some (.int .i64 f.mode) := kF.cell 2; have d3 : w3.cell? ⟨w.heap.size + 1, 3, none⟩ = some (.int .i64 f.uid) := kF.cell 3; have d4 : w3.cell? ⟨w.heap.size + 1, 4, none⟩ = some (.int .i64 f.gid) := kF.cell 4; have d5 : w3.cell? ⟨w.heap.size + 1, 5, none⟩ = some (.int .i64 f.size) := kF.cell 5; have d6 : w3.cell? ⟨w.heap.size + 1, 6, none⟩ = some (.int .i64 f.sec) := kF.cell 6; have d7 : w3.cell? ⟨w.heap.size + 1, 7, none⟩ = some (.int .i64 f.nano) := kF.cell 7; have d8 : w3.cell? ⟨w.heap.size + 1, 8, none⟩ = some (.string (bs f.link)) := kF.cell 8; have d9 : w3.cell? ⟨w.heap.size + 1, 9, none⟩ = some (.string (bs f.user)) := kF.cell 9; have d10 : w3.cell? ⟨w.heap.size + 1, 10, none⟩ = some (.string (bs f.group)) := kF.cell 10; have d11 : w3.cell? ⟨w.heap.size + 1, 11, none⟩ = some (.int .i64 f.major) := kF.cell 11; have d12 : w3.cell? ⟨w.heap.size + 1, 12, none⟩ = some (.int .i64 f.minor) := kF.cell 12; have d13 : w3.cell? ⟨w.heap.size + 1, 13, none⟩ = some (.string (bs f.data)) := kF.cell 13; have d14 : w3.cell? ⟨w.heap.size + 1, 14, none⟩ = some m2 := kF.cell 14; clear kF
  go_wp2_with fail
  refine (LF.out _ B3.out).mono ?_
  rintro r w4 ⟨rfl, h4⟩
  have B4 := Lib.hid (thenB B3.out h4)
  have T4 := Lib.hid (T3.out.below h4)
  clear h4 LF
  obtain ⟨lf, hlf⟩ : ∃ b, b = largeE f := ⟨_, rfl⟩
  rw [← hlf]
  have HLF := Lib.hid hlf
  clear hlf
  clear d0 d1 d2 d3 d4 d5 d6 d7 d8 d9 d10 d11 d12 d13 d14
  cases lf with
  | true => go_wp2_with fail; go_ret; exact ⟨rfl, FIN.out _ B4.out⟩
  | false =>
  have OE := Lib.hid (CE.out.ok HLE.out.symm)
  have OF := Lib.hid (CF.out.ok HLF.out.symm)
  obtain ⟨ne1, ne2, _, _⟩ := large_no HLE.out.symm
  obtain ⟨nf1, nf2, _, _⟩ := large_no HLF.out.symm
  clear T3
  have kE := BEW.out.below B4.out lE; have c0 : w4.cell? ⟨w.heap.size, 0, none⟩ = some (.string (bs e.name)) := kE.cell 0; have c1 : w4.cell? ⟨w.heap.size, 1, none⟩ = some (.int .u8 e.kind) := kE.cell 1; have c2 : w4.cell? ⟨w.heap.size, 2, none⟩ = some (.int .i64 e.mode) := kE.cell 2; have c3 : w4.cell? ⟨w.heap.size, 3, none⟩ = some (.int .i64 e.uid) := kE.cell 3; have c4 : w4.cell? ⟨w.heap.size, 4, none⟩ = some (.int .i64 e.gid) := kE.cell 4; have c5 : w4.cell? ⟨w.heap.size, 5, none⟩ = some (.int .i64 e.size) := kE.cell 5; have c6 : w4.cell? ⟨w.heap.size, 6, none⟩ = some (.int .i64 e.sec) := kE.cell 6; have c7 : w4.cell? ⟨w.heap.size, 7, none⟩ = some (.int .i64 e.nano) := kE.cell 7; have c8 : w4.cell? ⟨w.heap.size, 8, none⟩ = some (.string (bs e.link)) := kE.cell 8; have c9 : w4.cell? ⟨w.heap.size, 9, none⟩ = some (.string (bs e.user)) := kE.cell 9; have c10 : w4.cell? ⟨w.heap.size, 10, none⟩ = some (.string (bs e.group)) := kE.cell 10; have c11 : w4.cell? ⟨w.heap.size, 11, none⟩ = some (.int .i64 e.major) := kE.cell 11; have c12 : w4.cell? ⟨w.heap.size, 12, none⟩ = some (.int .i64 e.minor) := kE.cell 12; have c13 : w4.cell? ⟨w.heap.size, 13, none⟩ = some (.string (bs e.data)) := kE.cell 13; have c14 : w4.cell? ⟨w.heap.size, 14, none⟩ = some m1 := kE.cell 14; clear kE
  have kF := BFW.out.below B4.out lF; have d0 : w4.cell? ⟨w.heap.size + 1, 0, none⟩ = some (.string (bs f.name)) := kF.cell 0; have d1 : w4.cell? ⟨w.heap.size + 1, 1, none⟩ = some (.int .u8 f.kind) := kF.cell 1; have d2 : w4.cell? ⟨w.heap.size + 1, 2, none⟩ = some (.int .i64 f.mode) := kF.cell 2; have d3 : w4.cell? ⟨w.heap.size + 1, 3, none⟩ = some (.int .i64 f.uid) := kF.cell 3; have d4 : w4.cell? ⟨w.heap.size + 1, 4, none⟩ = some (.int .i64 f.gid) := kF.cell 4; have d5 : w4.cell? ⟨w.heap.size + 1, 5, none⟩ = some (.int .i64 f.size) := kF.cell 5; have d6 : w4.cell? ⟨w.heap.size + 1, 6, none⟩ = some (.int .i64 f.sec) := kF.cell 6; have d7 : w4.cell? ⟨w.heap.size + 1, 7, none⟩ = some (.int .i64 f.nano) := kF.cell 7; have d8 : w4.cell? ⟨w.heap.size + 1, 8, none⟩ = some (.string (bs f.link)) := kF.cell 8; have d9 : w4.cell? ⟨w.heap.size + 1, 9, none⟩ = some (.string (bs f.user)) := kF.cell 9; have d10 : w4.cell? ⟨w.heap.size + 1, 10, none⟩ = some (.string (bs f.group)) := kF.cell 10; have d11 : w4.cell? ⟨w.heap.size + 1, 11, none⟩ = some (.int .i64 f.major) := kF.cell 11; have d12 : w4.cell? ⟨w.heap.size + 1, 12, none⟩ = some (.int .i64 f.minor) := kF.cell 12; have d13 : w4.cell? ⟨w.heap.size + 1, 13, none⟩ = some (.string (bs f.data)) := kF.cell 13; have d14 : w4.cell? ⟨w.heap.size + 1, 14, none⟩ = some m2 := kF.cell 14; clear kF
  cases ke : ((e.kind : Int) == 49) with
  | true => go_wp2_with fail; go_ret; exact ⟨rfl, FIN.out _ B4.out⟩
  | false =>
  cases kf : ((f.kind : Int) == 49) with
  | true => go_wp2_with fail; go_ret; exact ⟨rfl, FIN.out _ B4.out⟩
  | false =>
  have hke : e.kind ≠ 49 := fun h => by rw [h] at ke; cases ke
  have hkf : f.kind ≠ 49 := fun h => by rw [h] at kf; cases kf
  have lce := Pth.clean_len e.name
  have lcf := Pth.clean_len f.name
  have PT := Lib.hid (fun ha hb hab hba => pack_two (e := e) (f := f) HS.out HD.out hke hkf ha hb hab hba)
  have C1 := Lib.hid (fun w' (hb : Below W.heap.size W w') => clean_any (bs e.name) w' (by rw [bs_size]; omega) (HM.out.below hb))
  have C2 := Lib.hid (fun w' (hb : Below W.heap.size W w') => clean_any (bs f.name) w' (by rw [bs_size]; omega) (HM.out.below hb))
  rw [bs_list] at C1 C2
  obtain ⟨a, ha⟩ : ∃ a, a = Pth.clean e.name := ⟨_, rfl⟩
  obtain ⟨b, hb⟩ : ∃ a, a = Pth.clean f.name := ⟨_, rfl⟩
  rw [← ha] at C1 lce PT
  rw [← hb] at C2 lcf PT
  clear ha hb hke hkf
  go_wp2_with fail
  refine (C1.out _ B4.out).mono ?_
  rintro r w5 ⟨rfl, h5⟩
  have B5 := Lib.hid (thenB B4.out h5)
  have T5 := Lib.hid (T4.out.below h5)
  clear c0 c1 c2 c3 c4 c5 c6 c7 c8 c9 c10 c11 c12 c13 c14
  clear d0 d1 d2 d3 d4 d5 d6 d7 d8 d9 d10 d11 d12 d13 d14
  clear h5 C1 T4 ke kf
  have kF := BFW.out.below B5.out lF; have d0 : w5.cell? ⟨w.heap.size + 1, 0, none⟩ = some (.string (bs f.name)) := kF.cell 0; have d1 : w5.cell? ⟨w.heap.size + 1, 1, none⟩ = some (.int .u8 f.kind) := kF.cell 1; have d2 : w5.cell? ⟨w.heap.size + 1, 2, none⟩ = some (.int .i64 f.mode) := kF.cell 2; have d3 : w5.cell? ⟨w.heap.size + 1, 3, none⟩ = some (.int .i64 f.uid) := kF.cell 3; have d4 : w5.cell? ⟨w.heap.size + 1, 4, none⟩ = some (.int .i64 f.gid) := kF.cell 4; have d5 : w5.cell? ⟨w.heap.size + 1, 5, none⟩ = some (.int .i64 f.size) := kF.cell 5; have d6 : w5.cell? ⟨w.heap.size + 1, 6, none⟩ = some (.int .i64 f.sec) := kF.cell 6; have d7 : w5.cell? ⟨w.heap.size + 1, 7, none⟩ = some (.int .i64 f.nano) := kF.cell 7; have d8 : w5.cell? ⟨w.heap.size + 1, 8, none⟩ = some (.string (bs f.link)) := kF.cell 8; have d9 : w5.cell? ⟨w.heap.size + 1, 9, none⟩ = some (.string (bs f.user)) := kF.cell 9; have d10 : w5.cell? ⟨w.heap.size + 1, 10, none⟩ = some (.string (bs f.group)) := kF.cell 10; have d11 : w5.cell? ⟨w.heap.size + 1, 11, none⟩ = some (.int .i64 f.major) := kF.cell 11; have d12 : w5.cell? ⟨w.heap.size + 1, 12, none⟩ = some (.int .i64 f.minor) := kF.cell 12; have d13 : w5.cell? ⟨w.heap.size + 1, 13, none⟩ = some (.string (bs f.data)) := kF.cell 13; have d14 : w5.cell? ⟨w.heap.size + 1, 14, none⟩ = some m2 := kF.cell 14; clear kF
  go_wp2_with fail
  refine (C2.out _ B5.out).mono ?_
  rintro r w6 ⟨rfl, h6⟩
  have B6 := Lib.hid (thenB B5.out h6)
  have T6 := Lib.hid (T5.out.below h6)
  clear d0 d1 d2 d3 d4 d5 d6 d7 d8 d9 d10 d11 d12 d13 d14
  clear h6 C2 T5
  by_cases a0 : a = []
  · have q := bs_none a a0
    clear a0
    go_wp2_with fail; go_ret; exact ⟨rfl, FIN.out _ B6.out⟩
  by_cases b0 : b = []
  · have q := bs_ne a0
    have q2 := bs_none b b0
    clear b0
    go_wp2_with fail; go_ret; exact ⟨rfl, FIN.out _ B6.out⟩
  have q1 := bs_ne a0
  have q2 := bs_ne b0
  have I1 := Lib.hid (fun w' => in_any (bs a) (bs b) w' (by rw [bs_size]; omega) (by rw [bs_size]; omega))
  have I2 := Lib.hid (fun w' => in_any (bs b) (bs a) w' (by rw [bs_size]; omega) (by rw [bs_size]; omega))
  rw [bs_list, bs_list] at I1 I2
  go_wp2_with fail
  refine (I1.out _).mono ?_
  rintro r w7 ⟨rfl, h7⟩
  have B7 := Lib.hid (thenB B6.out h7)
  have T7 := Lib.hid (T6.out.below h7)
  clear h7 I1 T6
  cases hab : Pth.inn a b with
  | true => go_wp2_with fail; go_ret; exact ⟨rfl, FIN.out _ B7.out⟩
  | false =>
  go_wp2_with fail
  refine (I2.out _).mono ?_
  rintro r w8 ⟨rfl, h8⟩
  have B8 := Lib.hid (thenB B7.out h8)
  have T8 := Lib.hid (T7.out.below h8)
  clear h8 I2 T7
  cases hba : Pth.inn b a with
  | true => go_wp2_with fail; go_ret; exact ⟨rfl, FIN.out _ B8.out⟩
  | false =>
  have LAW := Lib.hid (PT.out a0 b0 hab hba)
  clear PT hab hba q1 q2 a0 b0 lce lcf
  have CP := Lib.hid (copy_any T8.out)
  go_wp2_with fail
  refine CP.out.mono ?_
  rintro r w9 ⟨g', o1, o2, rfl, hcp, hfr, h9⟩
  have B9 := Lib.hid (thenB B8.out h9)
  have T9 := Lib.hid (T8.out.below h9)
  have U9 := Lib.hid hcp
  have HU := Lib.hid (fun b (hb : b ∈ own g' o1 o2) => Nat.le_trans B8.out.size (hfr b hb))
  have NE9 := Lib.hid (fun b (hb : b ∈ own g' o1 o2) (hn : b ∈ own g on of) => (by have := hfr b hb; have := T8.out.lt b hn; omega : False))
  clear hcp hfr h9 CP T8
  have x1 := into_nx t e
  have x2 := into_nx t f
  have S1 := Lib.hid (Pk.Std.into HS.out e)
  have S2 := Lib.hid (Pk.Std.into HS.out f)
  have IA := Lib.hid (fun w' on' of' (hb : Below W.heap.size W w') (h : TreeAt w' g on' of' t) => into_any (HM.out.below hb) h HS.out (by omega) e m1 (CE.out.pcs.below hb) OE.out)
  have IC := Lib.hid (fun w' on' of' (hb : Below W.heap.size W w') (h : TreeAt w' g' on' of' t) => into_any (HM.out.below hb) h HS.out (by omega) f m2 (CF.out.pcs.below hb) OF.out)
  obtain ⟨P1, hP1⟩ : ∃ P, P = into t e := ⟨_, rfl⟩
  obtain ⟨Q1, hQ1⟩ : ∃ P, P = into t f := ⟨_, rfl⟩
  rw [← hP1] at IA S1 x1 LAW
  rw [← hQ1] at IC S2 x2 LAW
  have y1 := into_nx P1.1 f
  have y2 := into_nx Q1.1 e
  have S3 := Lib.hid (Pk.Std.into S1.out f)
  have S4 := Lib.hid (Pk.Std.into S2.out e)
  have IB := Lib.hid (fun w' on' of' (hb : Below W.heap.size W w') (h : TreeAt w' g on' of' P1.1) => into_any (HM.out.below hb) h S1.out (by omega) f m2 (CF.out.pcs.below hb) OF.out)
  have ID := Lib.hid (fun w' on' of' (hb : Below W.heap.size W w') (h : TreeAt w' g' on' of' Q1.1) => into_any (HM.out.below hb) h S2.out (by omega) e m1 (CE.out.pcs.below hb) OE.out)
  obtain ⟨P2, hP2⟩ : ∃ P, P = into P1.1 f := ⟨_, rfl⟩
  obtain ⟨Q2, hQ2⟩ : ∃ P, P = into Q1.1 e := ⟨_, rfl⟩
  rw [← hP2] at IB S3 y1 LAW
  rw [← hQ2] at ID S4 y2 LAW
  unfold ev evc at IA IB IC ID
  clear hP1 hQ1 hP2 hQ2
  have kE := BEW.out.below B9.out lE; have c0 : w9.cell? ⟨w.heap.size, 0, none⟩ = some (.string (bs e.name)) := kE.cell 0; have c1 : w9.cell? ⟨w.heap.size, 1, none⟩ = some (.int .u8 e.kind) := kE.cell 1; have c2 : w9.cell? ⟨w.heap.size, 2, none⟩ = some (.int .i64 e.mode) := kE.cell 2; have c3 : w9.cell? ⟨w.heap.size, 3, none⟩ = some (.int .i64 e.uid) := kE.cell 3; have c4 : w9.cell? ⟨w.heap.size, 4, none⟩ = some (.int .i64 e.gid) := kE.cell 4; have c5 : w9.cell? ⟨w.heap.size, 5, none⟩ = some (.int .i64 e.size) := kE.cell 5; have c6 : w9.cell? ⟨w.heap.size, 6, none⟩ = some (.int .i64 e.sec) := kE.cell 6; have c7 : w9.cell? ⟨w.heap.size, 7, none⟩ = some (.int .i64 e.nano) := kE.cell 7; have c8 : w9.cell? ⟨w.heap.size, 8, none⟩ = some (.string (bs e.link)) := kE.cell 8; have c9 : w9.cell? ⟨w.heap.size, 9, none⟩ = some (.string (bs e.user)) := kE.cell 9; have c10 : w9.cell? ⟨w.heap.size, 10, none⟩ = some (.string (bs e.group)) := kE.cell 10; have c11 : w9.cell? ⟨w.heap.size, 11, none⟩ = some (.int .i64 e.major) := kE.cell 11; have c12 : w9.cell? ⟨w.heap.size, 12, none⟩ = some (.int .i64 e.minor) := kE.cell 12; have c13 : w9.cell? ⟨w.heap.size, 13, none⟩ = some (.string (bs e.data)) := kE.cell 13; have c14 : w9.cell? ⟨w.heap.size, 14, none⟩ = some m1 := kE.cell 14; clear kE
  go_wp2_with fail
  refine (IA.out _ _ _ B9.out T9.out).mono ?_
  rintro r wa ⟨rfl, na, fa, k1, k2, k3⟩
  have Ba := Lib.hid (show Below W.heap.size W wa from B9.out.trans (k3.down HO.out B9.out.size))
  have Ta := Lib.hid k1
  have Oa := Lib.hid (fun b (hb : b ∈ own g na fa) => (k2 b hb).elim (HO.out b) (fun hh => Nat.le_trans B9.out.size hh))
  have Ua := Lib.hid (U9.out.kept k3.size (fun b hb => k3.block b (U9.out.lt b hb) (fun hn => NE9.out b hb hn)))
  have NEa := Lib.hid (fun b (hb : b ∈ own g' o1 o2) (hn : b ∈ own g na fa) => ((k2 b hn).elim (NE9.out b hb) (fun h => by have := U9.out.lt b hb; omega) : False))
  clear k1 k2 k3 IA T9 U9 NE9
  clear c0 c1 c2 c3 c4 c5 c6 c7 c8 c9 c10 c11 c12 c13 c14
  have kF := BFW.out.below Ba.out lF; have d0 : wa.cell? ⟨w.heap.size + 1, 0, none⟩ = some (.string (bs f.name)) := kF.cell 0; have d1 : wa.cell? ⟨w.heap.size + 1, 1, none⟩ = some (.int .u8 f.kind) := kF.cell 1; have d2 : wa.cell? ⟨w.heap.size + 1, 2, none⟩ = some (.int .i64 f.mode) := kF.cell 2; have d3 : wa.cell? ⟨w.heap.size + 1, 3, none⟩ = some (.int .i64 f.uid) := kF.cell 3; have d4 : wa.cell? ⟨w.heap.size + 1, 4, none⟩ = some (.int .i64 f.gid) := kF.cell 4; have d5 : wa.cell? ⟨w.heap.size + 1, 5, none⟩ = some (.int .i64 f.size) := kF.cell 5; have d6 : wa.cell? ⟨w.heap.size + 1, 6, none⟩ = some (.int .i64 f.sec) := kF.cell 6; have d7 : wa.cell? ⟨w.heap.size + 1, 7, none⟩ = some (.int .i64 f.nano) := kF.cell 7; have d8 : wa.cell? ⟨w.heap.size + 1, 8, none⟩ = some (.string (bs f.link)) := kF.cell 8; have d9 : wa.cell? ⟨w.heap.size + 1, 9, none⟩ = some (.string (bs f.user)) := kF.cell 9; have d10 : wa.cell? ⟨w.heap.size + 1, 10, none⟩ = some (.string (bs f.group)) := kF.cell 10; have d11 : wa.cell? ⟨w.heap.size + 1, 11, none⟩ = some (.int .i64 f.major) := kF.cell 11; have d12 : wa.cell? ⟨w.heap.size + 1, 12, none⟩ = some (.int .i64 f.minor) := kF.cell 12; have d13 : wa.cell? ⟨w.heap.size + 1, 13, none⟩ = some (.string (bs f.data)) := kF.cell 13; have d14 : wa.cell? ⟨w.heap.size + 1, 14, none⟩ = some m2 := kF.cell 14; clear kF
  go_wp2_with fail
  refine (IB.out _ _ _ Ba.out Ta.out).mono ?_
  rintro r wb ⟨rfl, nb, fb, k1, k2, k3⟩
  have Bb := Lib.hid (show Below W.heap.size W wb from Ba.out.trans (k3.down Oa.out Ba.out.size))
  have Tb := Lib.hid k1
  have Ob := Lib.hid (fun b (hb : b ∈ own g nb fb) => (k2 b hb).elim (Oa.out b) (fun hh => Nat.le_trans Ba.out.size hh))
  have Ub := Lib.hid (Ua.out.kept k3.size (fun b hb => k3.block b (Ua.out.lt b hb) (fun hn => NEa.out b hb hn)))
  have NEb := Lib.hid (fun b (hb : b ∈ own g' o1 o2) (hn : b ∈ own g nb fb) => ((k2 b hn).elim (NEa.out b hb) (fun h => by have := Ua.out.lt b hb; omega) : False))
  clear k1 k2 k3 IB Ta Ua NEa
  clear d0 d1 d2 d3 d4 d5 d6 d7 d8 d9 d10 d11 d12 d13 d14
  have kF := BFW.out.below Bb.out lF; have d0 : wb.cell? ⟨w.heap.size + 1, 0, none⟩ = some (.string (bs f.name)) := kF.cell 0; have d1 : wb.cell? ⟨w.heap.size + 1, 1, none⟩ = some (.int .u8 f.kind) := kF.cell 1; have d2 : wb.cell? ⟨w.heap.size + 1, 2, none⟩ = some (.int .i64 f.mode) := kF.cell 2; have d3 : wb.cell? ⟨w.heap.size + 1, 3, none⟩ = some (.int .i64 f.uid) := kF.cell 3; have d4 : wb.cell? ⟨w.heap.size + 1, 4, none⟩ = some (.int .i64 f.gid) := kF.cell 4; have d5 : wb.cell? ⟨w.heap.size + 1, 5, none⟩ = some (.int .i64 f.size) := kF.cell 5; have d6 : wb.cell? ⟨w.heap.size + 1, 6, none⟩ = some (.int .i64 f.sec) := kF.cell 6; have d7 : wb.cell? ⟨w.heap.size + 1, 7, none⟩ = some (.int .i64 f.nano) := kF.cell 7; have d8 : wb.cell? ⟨w.heap.size + 1, 8, none⟩ = some (.string (bs f.link)) := kF.cell 8; have d9 : wb.cell? ⟨w.heap.size + 1, 9, none⟩ = some (.string (bs f.user)) := kF.cell 9; have d10 : wb.cell? ⟨w.heap.size + 1, 10, none⟩ = some (.string (bs f.group)) := kF.cell 10; have d11 : wb.cell? ⟨w.heap.size + 1, 11, none⟩ = some (.int .i64 f.major) := kF.cell 11; have d12 : wb.cell? ⟨w.heap.size + 1, 12, none⟩ = some (.int .i64 f.minor) := kF.cell 12; have d13 : wb.cell? ⟨w.heap.size + 1, 13, none⟩ = some (.string (bs f.data)) := kF.cell 13; have d14 : wb.cell? ⟨w.heap.size + 1, 14, none⟩ = some m2 := kF.cell 14; clear kF
  go_wp2_with fail
  refine (IC.out _ _ _ Bb.out Ub.out).mono ?_
  rintro r wc ⟨rfl, nc, fc, k1, k2, k3⟩
  have Bc := Lib.hid (show Below W.heap.size W wc from Bb.out.trans (k3.down HU.out Bb.out.size))
  have Uc := Lib.hid k1
  have Oc := Lib.hid (fun b (hb : b ∈ own g' nc fc) => (k2 b hb).elim (HU.out b) (fun hh => Nat.le_trans Bb.out.size hh))
  have Tc := Lib.hid (Tb.out.kept k3.size (fun b hb => k3.block b (Tb.out.lt b hb) (fun hn => NEb.out b hn hb)))
  have NEc := Lib.hid (fun b (hb : b ∈ own g' nc fc) (hn : b ∈ own g nb fb) => ((k2 b hb).elim (fun h => NEb.out b h hn) (fun h => by have := Tb.out.lt b hn; omega) : False))
  clear k1 k2 k3 IC Tb Ub NEb
  clear d0 d1 d2 d3 d4 d5 d6 d7 d8 d9 d10 d11 d12 d13 d14
  have kE := BEW.out.below Bc.out lE; have c0 : wc.cell? ⟨w.heap.size, 0, none⟩ = some (.string (bs e.name)) := kE.cell 0; have c1 : wc.cell? ⟨w.heap.size, 1, none⟩ = some (.int .u8 e.kind) := kE.cell 1; have c2 : wc.cell? ⟨w.heap.size, 2, none⟩ = some (.int .i64 e.mode) := kE.cell 2; have c3 : wc.cell? ⟨w.heap.size, 3, none⟩ = some (.int .i64 e.uid) := kE.cell 3; have c4 : wc.cell? ⟨w.heap.size, 4, none⟩ = some (.int .i64 e.gid) := kE.cell 4; have c5 : wc.cell? ⟨w.heap.size, 5, none⟩ = some (.int .i64 e.size) := kE.cell 5; have c6 : wc.cell? ⟨w.heap.size, 6, none⟩ = some (.int .i64 e.sec) := kE.cell 6; have c7 : wc.cell? ⟨w.heap.size, 7, none⟩ = some (.int .i64 e.nano) := kE.cell 7; have c8 : wc.cell? ⟨w.heap.size, 8, none⟩ = some (.string (bs e.link)) := kE.cell 8; have c9 : wc.cell? ⟨w.heap.size, 9, none⟩ = some (.string (bs e.user)) := kE.cell 9; have c10 : wc.cell? ⟨w.heap.size, 10, none⟩ = some (.string (bs e.group)) := kE.cell 10; have c11 : wc.cell? ⟨w.heap.size, 11, none⟩ = some (.int .i64 e.major) := kE.cell 11; have c12 : wc.cell? ⟨w.heap.size, 12, none⟩ = some (.int .i64 e.minor) := kE.cell 12; have c13 : wc.cell? ⟨w.heap.size, 13, none⟩ = some (.string (bs e.data)) := kE.cell 13; have c14 : wc.cell? ⟨w.heap.size, 14, none⟩ = some m1 := kE.cell 14; clear kE
  go_wp2_with fail
  refine (ID.out _ _ _ Bc.out Uc.out).mono ?_
  rintro r wd ⟨rfl, nd, fd, k1, k2, k3⟩
  have Bd := Lib.hid (show Below W.heap.size W wd from Bc.out.trans (k3.down Oc.out Bc.out.size))
  have Ud := Lib.hid k1
  have Td := Lib.hid (Tc.out.kept k3.size (fun b hb => k3.block b (Tc.out.lt b hb) (fun hn => NEc.out b hn hb)))
  clear k1 k2 k3 ID Tc Uc NEc
  clear c0 c1 c2 c3 c4 c5 c6 c7 c8 c9 c10 c11 c12 c13 c14
  by_cases e1 : P1.2 = 0
  rotate_left
  · rw [err_some e1]
    go_wp2_with fail; go_ret; exact ⟨rfl, FIN.out _ Bd.out⟩
  rw [err_none e1]
  by_cases e2 : P2.2 = 0
  rotate_left
  · rw [err_some e2]
    go_wp2_with fail; go_ret; exact ⟨rfl, FIN.out _ Bd.out⟩
  rw [err_none e2]
  by_cases e3 : Q1.2 = 0
  rotate_left
  · rw [err_some e3]
    go_wp2_with fail; go_ret; exact ⟨rfl, FIN.out _ Bd.out⟩
  rw [err_none e3]
  by_cases e4 : Q2.2 = 0
  rotate_left
  · rw [err_some e4]
    go_wp2_with fail; go_ret; exact ⟨rfl, FIN.out _ Bd.out⟩
  rw [err_none e4]
  have SAME := Lib.hid (LAW.out e1 e2 e3 e4)
  have SM := Lib.hid (same_any Td.out Ud.out S3.out S4.out (by omega) (by omega) true ⟨fun _ => SAME.out, fun _ => rfl⟩)
  clear e1 e2 e3 e4 LAW
  go_wp2_with fail
  refine SM.out.mono ?_
  rintro r we ⟨rfl, h⟩
  have Be := Lib.hid (thenB Bd.out h)
  clear h
  go_wp2_with fail
  go_ret
  exact ⟨rfl, FIN.out _ Be.out⟩

set_option maxRecDepth 100000 in
theorem packTwo_walk {H : Type} {enc : TypeId × Value → H} {w : World} {d1 d2 d3 : DataW H} {p1 p2 p3 : List MemPlace} {base : Nat} (v : Value) (hok1 : Value.okWide Tryz.prog w .any base 22 v)
    (h1 : DataW.Trod enc Tryz.prog w 0 (fun _ => true) true 22 v d1 p1) (hz1 : ∀ n ∈ d1.weights Tryz.prog 22, n ≤ reachBytes)
    (ve : Value) (hok2 : Value.okWide Tryz.prog w .any base 40 ve) (h2 : DataW.Trod enc Tryz.prog w 0 (fun _ => true) true 40 ve d2 p2) (hz2 : ∀ n ∈ d2.weights Tryz.prog 40, n ≤ reachBytes)
    (vf : Value) (hok3 : Value.okWide Tryz.prog w .any base 40 vf) (h3 : DataW.Trod enc Tryz.prog w 0 (fun _ => true) true 40 vf d3 p3) (hz3 : ∀ n ∈ d3.weights Tryz.prog 40, n ≤ reachBytes) (hsh : ML w) :
    Calls Tryz.prog 4 #[v, ve, vf] w fun e w' => e = .returned (.bool true) ∧ Below w.heap.size w w' := by
  obtain ⟨l, hl⟩ := deeds_of hok1 h1 hz1
  obtain ⟨e, m1, rfl, he⟩ := ent_open hok2 h2 hz2
  obtain ⟨f, m2, rfl, hf⟩ := ent_open hok3 h3 hz3
  exact packTwo_main v l e f m1 m2 w hl hsh he hf

end Go.Proofs.YtipajekehbpghaaGreatDoor

/-
  PackTwo: the call returns true for every input, and its arguments read afterwards as before; the card.
-/
namespace Go.Proofs.YtipajekehbpghaaGreatDoor.packTwo
open Go.ChangeShapes Go.WideShapes Go.ChangeAt Go.RowKit
open Go.ChangeMaps (open_string shut_string)
set_option linter.unusedVariables false

theorem lo : laidOutB Tryz.prog = true := by kernel_rfl
theorem own : ownKnob Tryz.prog.godebug = none := by kernel_rfl

def leaf : DataW Unit → Value
  | .lit (.int k n) => .int k n
  | _ => .nilIface
def flat : DataW Unit → List Value
  | .agg ds => ds.flatMap fun | .agg es => es.map leaf | d => [leaf d]
  | d => [leaf d]
/-- a world for the witness: the settled one, the listed tables holding what they are listed with -/
noncomputable def laidWorld (os : Os) : World := { World.holding Tryz.prog os ⟨#[], #[], []⟩ with heap := (((World.holding Tryz.prog os ⟨#[], #[], []⟩).heap.modify 2 fun | .cells _ t f => .cells (flat Go.Pinned.utf8First).toArray t f | o => o).modify 3 fun | .cells _ t f => .cells (flat Rows.laid_unicode_utf8_acceptRanges).toArray t f | o => o) }
theorem door_met (os : Os) (args : Array Value) : laidMetH Tryz.prog Rows.packTwoRow.laid ((laidWorld os).forCall (fun _ _ => 0) ⟨#[], args, []⟩).memory :=
  laidMetH_of_parts3 (fuel := 8) (laidMet_of_run' 8 (by kernel_rfl) (by kernel_rfl)) (by kernel_rfl) (by kernel_rfl)

set_option maxRecDepth 100000 in
theorem lifted (os : Os) (started : os.Started) (H : Type) (enc : TypeId × Value → H) :
    ReturnsInHanded {} Tryz.checked os 4 .any (fun w args => (Rows.packTwoSpec.pre enc Tryz.prog Tryz.f4 Rows.packTwoRow.domain false w args ∧ laidMetH Tryz.prog Rows.packTwoRow.laid w) ∧ sizedMet enc Tryz.prog Tryz.f4 (OpenSpec.ofChange Rows.packTwoSpec) false w args)
      (Rows.packTwoSpec.post enc Tryz.prog Tryz.f4 false true false false) := by
  refine and_shaped (C := Tryz.checked) (X := fun w _ => laidMetH Tryz.prog Rows.packTwoRow.laid w) (fun _ _ _ hh h => h.of_heap hh) own started (by kernel_rfl) Tryz.func4
    (ChangeSpec.witness_shaped (enc := enc) (C := Tryz.checked) (os := os) (X := fun w _ => laidMetH Tryz.prog Rows.packTwoRow.laid w) false (laidWorld os) #[.slice none 0 0, .agg #[.string ByteArray.empty, .int .u8 0, .int .i64 0, .int .i64 0, .int .i64 0, .int .i64 0, .int .i64 0, .int .i64 0, .string ByteArray.empty, .string ByteArray.empty, .string ByteArray.empty, .int .i64 0, .int .i64 0, .string ByteArray.empty, .slice none 0 0], .agg #[.string ByteArray.empty, .int .u8 0, .int .i64 0, .int .i64 0, .int .i64 0, .int .i64 0, .int .i64 0, .int .i64 0, .string ByteArray.empty, .string ByteArray.empty, .string ByteArray.empty, .int .i64 0, .int .i64 0, .string ByteArray.empty, .slice none 0 0]] 8 rfl (World.shaped_of_RefB (by kernel_rfl) (by kernel_rfl)) (by kernel_rfl) (by kernel_rfl) (by kernel_rfl) (door_met os _)) ?_
  intro W base args ds gs before hval0 hW hcnd hsz0 hL hsh _
  have hval : ∀ (j : Nat) t v, Tryz.f4.params[j]? = some t → args[j]? = some v → Value.okWide Tryz.prog W .any base t v := hval0
  have hW' := hW
  obtain ⟨p, q, hA0, hV, rfl, hfz, hnd⟩ := hW
  have hA : DataW.TrodAll enc Tryz.prog W 0 (fun _ => true) true Tryz.f4.params.toList args.toList ds p := hA0
  have hsz : (DataW.weightsEach Tryz.prog (Tryz.f4.params.toList ++ Rows.packTwoSpec.plain.varTypes Tryz.prog) (ds ++ gs)).all (· ≤ reachBytes) = true := hsz0
  rw [Tryz.params4] at hA hval hsz
  obtain ⟨v0, vs0, d0, ds0, p0, q0, hargs, rfl, rfl, h0, r0⟩ := trodAll_cons hA
  obtain ⟨v1, vs1, d1, ds1, p1, q1, rfl, rfl, rfl, h1, r1⟩ := trodAll_cons r0
  obtain ⟨v2, vs2, d2, ds2, p2, q2, rfl, rfl, rfl, h2, r2⟩ := trodAll_cons r1
  obtain ⟨rfl, rfl, rfl⟩ := trodAll_nil r2
  obtain rfl : args = #[v0, v1, v2] := by cases args; simp_all
  obtain ⟨rfl, rfl⟩ := trodVars_none hV
  have k0 := hval 0 22 v0 rfl rfl
  have k1 := hval 1 40 v1 rfl rfl
  have k2 := hval 2 40 v2 rfl rfl
  have z0 : ∀ n ∈ d0.weights Tryz.prog 22, n ≤ reachBytes := fun n hn => by have := List.all_eq_true.1 hsz n (DataW.weights_mem_each (j := 0) (t := 22) rfl rfl n hn); simpa using this
  have z1 : ∀ n ∈ d1.weights Tryz.prog 40, n ≤ reachBytes := fun n hn => by have := List.all_eq_true.1 hsz n (DataW.weights_mem_each (j := 1) (t := 40) rfl rfl n hn); simpa using this
  have z2 : ∀ n ∈ d2.weights Tryz.prog 40, n ≤ reachBytes := fun n hn => by have := List.all_eq_true.1 hsz n (DataW.weights_mem_each (j := 2) (t := 40) rfl rfl n hn); simpa using this
  clear hA0 hval0 hsz0
  refine (packTwo_walk v0 k0 h0 z0 v1 k1 h1 z1 v2 k2 h2 z2 (ml_of_shape hsh)).mono fun e W' ⟨he, bel⟩ => ?_
  subst he
  exact ⟨_, rfl, _, _, _, [], _, [], hW', trodAll_mk1 (shut_bool Tryz.underlying4 _), (trodAll_cons_mk (Below.trod lo (by kernel_rfl) (of_decide_eq_true (by kernel_rfl)) h0 bel (fun x hx => by obtain ⟨_, hh⟩ := h0; exact DataW.trod_lt _ _ _ _ hh x hx)) (trodAll_cons_mk (Below.trod lo (by kernel_rfl) (of_decide_eq_true (by kernel_rfl)) h1 bel (fun x hx => by obtain ⟨_, hh⟩ := h1; exact DataW.trod_lt _ _ _ _ hh x hx)) (trodAll_cons_mk (Below.trod lo (by kernel_rfl) (of_decide_eq_true (by kernel_rfl)) h2 bel (fun x hx => by obtain ⟨_, hh⟩ := h2; exact DataW.trod_lt _ _ _ _ hh x hx)) trodAll_mk0))), rfl, bel.frame _, fun h => by cases h⟩

theorem said : Rows.PackTwoSaid :=
  OpenClaim.holds_of_wide 4 Tryz.f4 rfl rfl rfl rfl rfl rfl rfl ⟨rfl, rfl, rfl, rfl, rfl⟩ rfl rfl rfl rfl rfl (by kernel_rfl) Tryz.func4 (by kernel_rfl)
    (of_decide_eq_true (by kernel_rfl)) (by unfold Func.isWrapper; first | (rw [if_pos (by decide +kernel)]; kernel_rfl) | (rw [if_neg (by decide +kernel)]; exact ⟨rfl, rfl⟩))
    (fun os started H enc _ => lifted os started H enc)

theorem plain (f : FuncId) (fn : Func) (hf : Tryz.pinned.checked.prog.funcNamed "revetment/revetmentkeep.PackTwo" = some f) (hfn : Tryz.pinned.checked.prog.funcs[f]? = some fn) :
    true = Tryz.pinned.checked.prog.looks [] ∧ ∀ (j : Nat) t, fn.params[j]? = some t → Tryz.pinned.checked.prog.wantsStandIn t = false := by
  obtain rfl : f = 4 := Option.some.inj ((show Tryz.prog.funcNamed "revetment/revetmentkeep.PackTwo" = some 4 by kernel_rfl).symm.trans hf) |>.symm
  obtain rfl : fn = Tryz.f4 := (Option.some.inj (Tryz.func4.symm.trans hfn)).symm
  refine ⟨by kernel_rfl, fun j t ht => ?_⟩
  rw [Tryz.params4] at ht
  have hm : t ∈ [22, 40, 40] := by simpa using Array.mem_of_getElem? ht
  have hall : ([22, 40, 40].all fun u => !Tryz.prog.wantsStandIn u) = true := by kernel_rfl
  have hm' : t ∈ [22, 40, 40] := hm
  exact (show Tryz.prog.wantsStandIn t = false by simpa using List.all_eq_true.1 hall t hm')

theorem card : Rows.PackTwoCardSaid :=
  Claim7.holds_tied_plain_at .later [] _ _ _ _ said (fun _ h => by cases h) (by kernel_rfl) (fun _ h => by cases h) packTwo_row_tie rfl ⟨rfl, rfl⟩ (by kernel_rfl) rfl plain (by kernel_rfl)
#print axioms card
end Go.Proofs.YtipajekehbpghaaGreatDoor.packTwo
