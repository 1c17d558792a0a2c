/-
  The walk of PackSafe.
-/
import Derived.Test.YtipajekehbpghaaGreatDoorZm
import Derived.Test.YtipajekehbpghaaGreatDoorZk
import Derived.Test.YtipajekehbpghaaGreatDoorZp
import Derived.Test.YtipajekehbpghaaGreatDoorZo
import Derived.Test.YtipajekehbpghaaGreatDoorZf
import Derived.Test.YtipajekehbpghaaGreatDoorCards
import Derived.Test.YtipajekehbpghaaGreatDoorTie
import Derived.ProofKit
import Derived.OpenShut
import Derived.ShutString
import Derived.ChangeOld
import Derived.Below
import Derived.SizedLaws
import Derived.Deep.DeepHandedRow
import Derived.Lib.LaidTab
import Derived.SevenTiedAt
import Derived.LaidMore
set_option linter.unusedVariables false
set_option linter.unusedSimpArgs false

namespace Go.Proofs.YtipajekehbpghaaGreatDoor
open Go.RowKit Go.Maps Tre Pk

theorem errS {c : Int} (h : c ≠ 0) : errV c = .iface 89 (.int .i64 c) := if_neg h
theorem errN {c : Int} (h : c = 0) : errV c = .nilIface := by rw [h]; rfl
theorem bsE (l : Pth.Bs) (h : l = []) : (bs l).toList.isEmpty = true := by rw [List.isEmpty_iff]; exact (str_nil l).2 h
theorem bsNe {l : Pth.Bs} (h : l ≠ []) : (bs l).toList.isEmpty = false := by rw [← Bool.not_eq_true, List.isEmpty_iff]; exact fun e => h ((str_nil l).1 e)

set_option maxRecDepth 100000 in
set_option maxHeartbeats 16000000 in
theorem packSafe_main (v : Value) (l : List Deed) (vl : Value) (ps : List (Ent × Value)) (e : Ent) (mv : Value) (w : World) (hD : DeedsIn w v l) (hE : Ents w vl ps) (he : Came w e mv) (hm : ML w) (ht : ErrT w) :
    Calls Tryz.prog 13 #[v, vl, ev e mv] w fun r w' => r = .returned (.bool true) ∧ Below w.heap.size w w' := by
  obtain ⟨W, hW⟩ : ∃ W, W = w.alloc (.cells #[.string (bs e.name), .int .u8 e.kind, .int .i64 e.mode, .int .i64 e.uid, .int .i64 e.gid, .int .i64 e.size, .int .i64 e.sec, .int .i64 e.nano, .string (bs e.link), .string (bs e.user), .string (bs e.group), .int .i64 e.major, .int .i64 e.minor, .string (bs e.data), mv] 40) := ⟨_, rfl⟩
  have HB0 := Lib.hid (show Below w.heap.size w W by rw [hW]; exact (Below.refl _ _).alloc (Nat.le_refl _) _)
  have hWs : W.heap.size = w.heap.size + 1 := by rw [hW]; simp
  have BEW := Lib.hid (show Blk W w.heap.size 40 (evc e mv) by rw [hW]; exact Blk.new w 40 _)
  have lE : w.heap.size < W.heap.size := by omega
  have FIN := Lib.hid (fun w' (h : Below W.heap.size W w') => (thenB HB0.out h : Below w.heap.size w w'))
  have HM := Lib.hid (hm.below HB0.out)
  have HET := Lib.hid (ht.below HB0.out)
  have PK := Lib.hid (packed_any W HM.out)
  have GR := Lib.hid (fun w' (hb : Below W.heap.size W w') => grown_any w' (HM.out.below hb))
  have PL := Lib.hid (fun w' (hb : Below W.heap.size W w') => planted_any ((hD.below HB0.out).below hb) (HM.out.below hb))
  have LO := Lib.hid (fun w' (hb : Below W.heap.size W w') => lots_any ((hE.below HB0.out).below hb))
  have LE := Lib.hid (fun w' (hb : Below W.heap.size W w') => large_any e mv w' ((he.below HB0.out).below hb))
  have CE := Lib.hid (he.below HB0.out)
  have EE := Lib.hid (hE.below HB0.out)
  have HW := Lib.hid hW
  obtain ⟨X, cap, rfl, _⟩ := id hD
  obtain ⟨X2, cap2, rfl, _⟩ := id hE.at_.row
  unfold ev evc at LE ⊢
  clear hD hm he hE ht hW
  go_enter Tryz.func13, Tryz.ntmps13
  go_wp2_with fail
  rw [← HW.out]
  refine PK.out.mono ?_
  rintro r w0 ⟨rfl, h0⟩
  have B0 := Lib.hid h0
  clear h0 HW
  go_wp2_with fail
  refine (GR.out _ B0.out).mono ?_
  rintro r w1 ⟨rfl, h1⟩
  have B1 := Lib.hid (thenB B0.out h1)
  clear h1
  go_wp2_with fail
  refine (PL.out _ B1.out).mono ?_
  rintro r w2 ⟨h2, ⟨hb, rfl⟩ | ⟨hb, g, on, of, rfl, hT, hO⟩⟩
  · have B2 := Lib.hid (thenB B1.out h2)
    clear h2
    go_wp2_with fail; go_ret; exact ⟨rfl, FIN.out _ B2.out⟩
  have B2 := Lib.hid (thenB B1.out h2)
  have hl60 := bigL_len hb
  have hnx0 := plant_nx l
  have HS := Lib.hid (plant_std l)
  have HD := Lib.hid (plant_dir1 l)
  have HT := Lib.hid hT
  have HO := Lib.hid (fun b hb => Nat.le_trans B1.out.size (hO b hb))
  obtain ⟨t, ht⟩ : ∃ t, t = plant l := ⟨_, rfl⟩
  rw [← ht] at HT HS hnx0 HD
  have hnx : t.nx ≤ 60 := by omega
  clear h2 hb hT hO ht PL hnx0 PK GR B0 B1
  go_wp2_with fail
  refine (LO.out _ B2.out).mono ?_
  rintro r w3 ⟨rfl, h3⟩
  have B3 := Lib.hid (thenB B2.out h3)
  have T3 := Lib.hid (HT.out.below h3)
  clear h3 LO HT
  obtain ⟨lo, hlo⟩ : ∃ b, b = lotsE (ps.map Prod.fst) := ⟨_, rfl⟩
  rw [← hlo]
  have HLO := Lib.hid hlo
  clear hlo
  cases lo with
  | true => go_wp2_with fail; go_ret; exact ⟨rfl, FIN.out _ B3.out⟩
  | false =>
  obtain ⟨hl20, hlar⟩ := lots_no HLO.out.symm
  rw [List.length_map] at hl20
  have EO := Lib.hid (show ∀ p ∈ ps, EntOk p.1 from fun p hp => (EE.out.came p hp).ok (hlar p.1 (List.mem_map_of_mem hp)))
  clear hlar
  have kE := BEW.out.below B3.out lE; have c0 : w3.cell? ⟨w.heap.size, 0, none⟩ = some (.string (bs e.name)) := kE.cell 0; have c1 : w3.cell? ⟨w.heap.size, 1, none⟩ = some (.int .u8 e.kind) := kE.cell 1; have c2 : w3.cell? ⟨w.heap.size, 2, none⟩ = some (.int .i64 e.mode) := kE.cell 2; have c3 : w3.cell? ⟨w.heap.size, 3, none⟩ = some (.int .i64 e.uid) := kE.cell 3; have c4 : w3.cell? ⟨w.heap.size, 4, none⟩ = some (.int .i64 e.gid) := kE.cell 4; have c5 : w3.cell? ⟨w.heap.size, 5, none⟩ = some (.int .i64 e.size) := kE.cell 5; have c6 : w3.cell? ⟨w.heap.size, 6, none⟩ = some (.int .i64 e.sec) := kE.cell 6; have c7 : w3.cell? ⟨w.heap.size, 7, none⟩ = some (.int .i64 e.nano) := kE.cell 7; have c8 : w3.cell? ⟨w.heap.size, 8, none⟩ = some (.string (bs e.link)) := kE.cell 8; have c9 : w3.cell? ⟨w.heap.size, 9, none⟩ = some (.string (bs e.user)) := kE.cell 9; have c10 : w3.cell? ⟨w.heap.size, 10, none⟩ = some (.string (bs e.group)) := kE.cell 10; have c11 : w3.cell? ⟨w.heap.size, 11, none⟩ = some (.int .i64 e.major) := kE.cell 11; have c12 : w3.cell? ⟨w.heap.size, 12, none⟩ = some (.int .i64 e.minor) := kE.cell 12; have c13 : w3.cell? ⟨w.heap.size, 13, none⟩ = some (.string (bs e.data)) := kE.cell 13; have c14 : w3.cell? ⟨w.heap.size, 14, none⟩ = some mv := kE.cell 14; clear kE
  go_wp2_with fail
  refine (LE.out _ B3.out).mono ?_
  rintro r w4 ⟨rfl, h4⟩
  have B4 := Lib.hid (thenB B3.out h4)
  have T4 := Lib.hid (T3.out.below h4)
  clear h4 LE T3
  obtain ⟨le, hle⟩ : ∃ b, b = largeE e := ⟨_, rfl⟩
  rw [← hle]
  have HLE := Lib.hid hle
  clear hle
  clear c0 c1 c2 c3 c4 c5 c6 c7 c8 c9 c10 c11 c12 c13 c14
  cases le with
  | true => go_wp2_with fail; go_ret; exact ⟨rfl, FIN.out _ B4.out⟩
  | false =>
  have OE := Lib.hid (CE.out.ok HLE.out.symm)
  obtain ⟨ne1, _⟩ := large_no HLE.out.symm
  have AL := Lib.hid (all_any HM.out B4.out HO.out T4.out HS.out (by omega) _ ps (EE.out.at_.below B4.out) (by omega) EO.out (.inl HET.out))
  have q1 := all_nx t (ps.map Prod.fst)
  rw [List.length_map] at q1
  have q2 := all_both HS.out HD.out (ps.map Prod.fst)
  obtain ⟨A1, hA1⟩ : ∃ A, A = all t (ps.map Prod.fst) := ⟨_, rfl⟩
  rw [← hA1] at AL q1 q2
  have S1 := Lib.hid q2.1
  have D1 := Lib.hid q2.2
  clear hA1 q2
  go_wp2_with fail
  refine AL.out.mono ?_
  rintro r w5 ⟨rv, rfl, hd5, n5, f5, k1, k2, k3⟩
  have B5 := Lib.hid (show Below W.heap.size W w5 from B4.out.trans (k3.down HO.out B4.out.size))
  have T5 : Hid (TreeAt w5 g n5 f5 A1.1) := Lib.hid k1
  have O5 := Lib.hid (fun b (hb : b ∈ own g n5 f5) => (k2 b hb).elim (HO.out b) (fun hh => Nat.le_trans B4.out.size hh))
  clear k1 k2 k3 AL T4 hd5 HO
  have ST1 := Lib.hid (fun w' (h : TreeAt w' g n5 f5 A1.1) (hm : ML w') => standing_any h S1.out (by omega) hm)
  go_wp2_with fail
  refine (ST1.out _ T5.out (HM.out.below B5.out)).mono ?_
  rintro r w6 ⟨rfl, h6⟩
  have B6 := Lib.hid (thenB B5.out h6)
  have T6 := Lib.hid (T5.out.below h6)
  clear h6 ST1 T5
  have CP := Lib.hid (copy_any T6.out)
  go_wp2_with fail
  refine CP.out.mono ?_
  rintro r w7 ⟨g', o1, o2, rfl, hcp, hfr, h7⟩
  have B7 := Lib.hid (thenB B6.out h7)
  have T7 := Lib.hid (T6.out.below h7)
  have U7 := Lib.hid hcp
  have NE7 := Lib.hid (fun b (hb : b ∈ own g' o1 o2) (hn : b ∈ own g n5 f5) => (by have := hfr b hb; have := T6.out.lt b hn; omega : False))
  clear hcp hfr h7 CP T6
  have IN := Lib.hid (into_any (HM.out.below B7.out) T7.out S1.out (by omega) e mv (CE.out.pcs.below B7.out) OE.out)
  have x1 := into_nx A1.1 e
  have S2 := Lib.hid (Pk.Std.into S1.out e)
  have TOLD := Lib.hid (fun h => into_told S1.out D1.out (e := e) h)
  have ERR := Lib.hid (fun h => into_err (t := A1.1) (e := e) h)
  obtain ⟨P, hP⟩ : ∃ P, P = into A1.1 e := ⟨_, rfl⟩
  rw [← hP] at IN x1 S2 TOLD ERR
  unfold ev evc at IN
  clear hP
  have kE := BEW.out.below B7.out lE; have c0 : w7.cell? ⟨w.heap.size, 0, none⟩ = some (.string (bs e.name)) := kE.cell 0; have c1 : w7.cell? ⟨w.heap.size, 1, none⟩ = some (.int .u8 e.kind) := kE.cell 1; have c2 : w7.cell? ⟨w.heap.size, 2, none⟩ = some (.int .i64 e.mode) := kE.cell 2; have c3 : w7.cell? ⟨w.heap.size, 3, none⟩ = some (.int .i64 e.uid) := kE.cell 3; have c4 : w7.cell? ⟨w.heap.size, 4, none⟩ = some (.int .i64 e.gid) := kE.cell 4; have c5 : w7.cell? ⟨w.heap.size, 5, none⟩ = some (.int .i64 e.size) := kE.cell 5; have c6 : w7.cell? ⟨w.heap.size, 6, none⟩ = some (.int .i64 e.sec) := kE.cell 6; have c7 : w7.cell? ⟨w.heap.size, 7, none⟩ = some (.int .i64 e.nano) := kE.cell 7; have c8 : w7.cell? ⟨w.heap.size, 8, none⟩ = some (.string (bs e.link)) := kE.cell 8; have c9 : w7.cell? ⟨w.heap.size, 9, none⟩ = some (.string (bs e.user)) := kE.cell 9; have c10 : w7.cell? ⟨w.heap.size, 10, none⟩ = some (.string (bs e.group)) := kE.cell 10; have c11 : w7.cell? ⟨w.heap.size, 11, none⟩ = some (.int .i64 e.major) := kE.cell 11; have c12 : w7.cell? ⟨w.heap.size, 12, none⟩ = some (.int .i64 e.minor) := kE.cell 12; have c13 : w7.cell? ⟨w.heap.size, 13, none⟩ = some (.string (bs e.data)) := kE.cell 13; have c14 : w7.cell? ⟨w.heap.size, 14, none⟩ = some mv := kE.cell 14; clear kE
  go_wp2_with fail
  refine IN.out.mono ?_
  rintro r w8 ⟨rfl, n8, f8, k1, k2, k3⟩
  have B8 := Lib.hid (show Below W.heap.size W w8 from B7.out.trans (k3.down O5.out B7.out.size))
  have T8 := Lib.hid k1
  have U8 := Lib.hid (U7.out.kept k3.size (fun b hb => k3.block b (U7.out.lt b hb) (fun hn => NE7.out b hb hn)))
  clear c0 c1 c2 c3 c4 c5 c6 c7 c8 c9 c10 c11 c12 c13 c14
  clear k1 k2 k3 IN T7 U7 NE7
  have SELF := Lib.hid (same_self S1.out.nd)
  by_cases e1 : P.2 = 0
  rotate_left
  · rw [errS e1]
    have T8' := T8.out
    rw [ERR.out e1] at T8'
    have SM := Lib.hid (same_any T8' U8.out S1.out S1.out (by omega) (by omega) true ⟨fun _ => SELF.out, fun _ => rfl⟩)
    clear T8'
    go_wp2_with fail
    refine SM.out.mono ?_
    rintro r w9 ⟨rfl, h9⟩
    have B9 := Lib.hid (thenB B8.out h9)
    clear h9
    go_wp2_with fail; go_ret; exact ⟨rfl, FIN.out _ B9.out⟩
  rw [errN e1]
  obtain ⟨tok, told⟩ := TOLD.out e1
  have TO := Lib.hid told
  have C1 := Lib.hid (fun w' (hb : Below W.heap.size W w') => clean_any (bs e.name) w' (by rw [bs_size]; omega) (HM.out.below hb))
  have lce := Pth.clean_len e.name
  rw [bs_list, tok] at C1
  obtain ⟨a, ha⟩ : ∃ a, a = Pth.clean e.name := ⟨_, rfl⟩
  rw [← ha] at C1 lce TO
  clear ha told tok TOLD ERR e1
  have kE := BEW.out.below B8.out lE; have c0 : w8.cell? ⟨w.heap.size, 0, none⟩ = some (.string (bs e.name)) := kE.cell 0; have c1 : w8.cell? ⟨w.heap.size, 1, none⟩ = some (.int .u8 e.kind) := kE.cell 1; have c2 : w8.cell? ⟨w.heap.size, 2, none⟩ = some (.int .i64 e.mode) := kE.cell 2; have c3 : w8.cell? ⟨w.heap.size, 3, none⟩ = some (.int .i64 e.uid) := kE.cell 3; have c4 : w8.cell? ⟨w.heap.size, 4, none⟩ = some (.int .i64 e.gid) := kE.cell 4; have c5 : w8.cell? ⟨w.heap.size, 5, none⟩ = some (.int .i64 e.size) := kE.cell 5; have c6 : w8.cell? ⟨w.heap.size, 6, none⟩ = some (.int .i64 e.sec) := kE.cell 6; have c7 : w8.cell? ⟨w.heap.size, 7, none⟩ = some (.int .i64 e.nano) := kE.cell 7; have c8 : w8.cell? ⟨w.heap.size, 8, none⟩ = some (.string (bs e.link)) := kE.cell 8; have c9 : w8.cell? ⟨w.heap.size, 9, none⟩ = some (.string (bs e.user)) := kE.cell 9; have c10 : w8.cell? ⟨w.heap.size, 10, none⟩ = some (.string (bs e.group)) := kE.cell 10; have c11 : w8.cell? ⟨w.heap.size, 11, none⟩ = some (.int .i64 e.major) := kE.cell 11; have c12 : w8.cell? ⟨w.heap.size, 12, none⟩ = some (.int .i64 e.minor) := kE.cell 12; have c13 : w8.cell? ⟨w.heap.size, 13, none⟩ = some (.string (bs e.data)) := kE.cell 13; have c14 : w8.cell? ⟨w.heap.size, 14, none⟩ = some mv := kE.cell 14; clear kE
  go_wp2_with fail
  refine (C1.out _ B8.out).mono ?_
  rintro r w9 ⟨rfl, h9⟩
  have B9 := Lib.hid (thenB B8.out h9)
  have T9 := Lib.hid (T8.out.below h9)
  have U9 := Lib.hid (U8.out.below h9)
  clear c0 c1 c2 c3 c4 c5 c6 c7 c8 c9 c10 c11 c12 c13 c14
  clear h9 T8 U8 C1
  have ST2 := Lib.hid (fun w' (h : TreeAt w' g n8 f8 P.1) (hm : ML w') => standing_any h S2.out (by omega) hm)
  go_wp2_with fail
  refine (ST2.out _ T9.out (HM.out.below B9.out)).mono ?_
  rintro r wa ⟨rfl, ha⟩
  have Ba := Lib.hid (thenB B9.out ha)
  have Ta := Lib.hid (T9.out.below ha)
  have Ua := Lib.hid (U9.out.below ha)
  clear ha ST2 T9 U9
  have GB := Lib.hid (get_any Ta.out (bs a) (fun k hk => by have := (S2.out.short hk).2; omega) (by rw [bs_size]; omega))
  rw [bs_list] at GB
  rcases TO.out with ⟨a0, tt⟩ | ⟨n, hn, hk⟩
  · have hno : Tre.look P.1.ents a = none := by
      cases hl : Tre.look P.1.ents a with
      | none => rfl
      | some k =>
        have := (S2.out.ok _ (look_mem hl)).1
        exact absurd a0 (right_ne this)
    have q := bsE a a0
    rw [getV_none hno] at GB
    unfold ndv ndc zero at GB
    simp only at GB
    have hTa := Ta.out
    rw [tt] at hTa
    have SM := Lib.hid (fun w' (hb : Below wa.heap.size wa w') => same_any (hTa.below hb) (Ua.out.below hb) S1.out S1.out (by omega) (by omega) true ⟨fun _ => SELF.out, fun _ => rfl⟩)
    clear hTa hno a0 tt TO
    go_wp2_with fail
    refine GB.out.mono ?_
    rintro r wb ⟨rfl, hb⟩
    have hb2 := hb.alloc hb.size (.cells #[.int .u8 0, .int .i64 0, .int .i64 0, .int .i64 0, .int .i64 0, .int .i64 0, .string (bs []), .string (bs []), .int .i64 0, .int .i64 0] 33)
    have Bb := Lib.hid (thenB Ba.out hb2)
    have SM2 := Lib.hid (SM.out _ hb2)
    clear hb hb2 GB SM
    go_wp2_with fail
    refine SM2.out.mono ?_
    rintro r wc ⟨rfl, hc⟩
    have Bc := Lib.hid (thenB Bb.out hc)
    clear hc
    go_wp2_with fail; go_ret; exact ⟨rfl, FIN.out _ Bc.out⟩
  · have hka : ∃ k, Tre.look P.1.ents a = some k ∧ P.1.file k = n := by
      unfold T.get at hn
      exact Option.map_eq_some_iff.1 hn
    obtain ⟨k, hka, rfl⟩ := hka
    have ane : a ≠ [] := right_ne (S2.out.ok _ (look_mem hka)).1
    have q := bsNe ane
    rw [getV_of hka] at GB
    obtain ⟨n, hn⟩ : ∃ n, n = P.1.file k := ⟨_, rfl⟩
    rw [← hn] at GB hk
    unfold ndv ndc at GB
    have hways : ((n.kind : Int) == e.kind) = true ∨ (((n.kind : Int) == e.kind) = false ∧ ((e.kind : Int) == 49) = true) := by
      by_cases h : n.kind = e.kind
      · left; rw [h]; simp
      · right
        exact ⟨by rw [beq_eq_false_iff_ne]; omega, by rw [hk.resolve_left h]; rfl⟩
    clear hn hka ane TO hk SELF
    have lw := Ba.out.size
    go_wp2_with fail
    refine GB.out.mono ?_
    rintro r wb ⟨rfl, hb⟩
    have hb2 := hb.alloc hb.size (.cells #[.int .u8 n.kind, .int .i64 n.mode, .int .i64 n.uid, .int .i64 n.gid, .int .i64 n.sec, .int .i64 n.nano, .string (bs n.data), .string (bs n.link), .int .i64 n.major, .int .i64 n.minor] 33)
    have Bb := Lib.hid (thenB Ba.out hb)
    have Bb2 := Lib.hid (thenB Ba.out hb2)
    have KN := Blk.new wb 33 #[.int .u8 n.kind, .int .i64 n.mode, .int .i64 n.uid, .int .i64 n.gid, .int .i64 n.sec, .int .i64 n.nano, .string (bs n.data), .string (bs n.link), .int .i64 n.major, .int .i64 n.minor]
    have n0 : (wb.alloc (.cells #[.int .u8 n.kind, .int .i64 n.mode, .int .i64 n.uid, .int .i64 n.gid, .int .i64 n.sec, .int .i64 n.nano, .string (bs n.data), .string (bs n.link), .int .i64 n.major, .int .i64 n.minor] 33)).cell? ⟨wb.heap.size, 0, none⟩ = some (.int .u8 n.kind) := KN.cell 0
    have kE := BEW.out.below Bb2.out lE
    have c1 : (wb.alloc (.cells #[.int .u8 n.kind, .int .i64 n.mode, .int .i64 n.uid, .int .i64 n.gid, .int .i64 n.sec, .int .i64 n.nano, .string (bs n.data), .string (bs n.link), .int .i64 n.major, .int .i64 n.minor] 33)).cell? ⟨w.heap.size, 1, none⟩ = some (.int .u8 e.kind) := kE.cell 1
    clear hb hb2 GB KN kE
    rcases hways with k1 | ⟨k1, k2⟩
    · go_wp2_with fail; go_ret; exact ⟨rfl, FIN.out _ Bb2.out⟩
    · go_wp2_with fail; go_ret; exact ⟨rfl, FIN.out _ Bb2.out⟩

set_option maxRecDepth 100000 in
theorem packSafe_walk {H : Type} {enc : TypeId × Value → H} {w : World} {d1 d2 d3 : DataW H} {p1 p2 p3 : List MemPlace} {base : Nat} (v : Value) (hok1 : Value.okWide Tryz.prog w .any base 22 v)
    (h1 : DataW.Trod enc Tryz.prog w 0 (fun _ => true) true 22 v d1 p1) (hz1 : ∀ n ∈ d1.weights Tryz.prog 22, n ≤ reachBytes)
    (vl : Value) (hok2 : Value.okWide Tryz.prog w .any base 26 vl) (h2 : DataW.Trod enc Tryz.prog w 0 (fun _ => true) true 26 vl d2 p2) (hz2 : ∀ n ∈ d2.weights Tryz.prog 26, n ≤ reachBytes)
    (ve : Value) (hok3 : Value.okWide Tryz.prog w .any base 40 ve) (h3 : DataW.Trod enc Tryz.prog w 0 (fun _ => true) true 40 ve d3 p3) (hz3 : ∀ n ∈ d3.weights Tryz.prog 40, n ≤ reachBytes)
    (hL : laidMetH Tryz.prog Rows.packSafeRow.laid w) (hsh : ML w) :
    Calls Tryz.prog 13 #[v, vl, ve] w fun e w' => e = .returned (.bool true) ∧ Below w.heap.size w w' := by
  obtain ⟨l, hl⟩ := deeds_of hok1 h1 hz1
  obtain ⟨ps, hp⟩ := ents_of hok2 h2 hz2
  obtain ⟨e, mv, rfl, he⟩ := ent_open hok3 h3 hz3
  exact packSafe_main v l vl ps e mv w hl hp he hsh (errT_of_laid hL (by simp [Rows.packSafeRow, Rows.laid_errors_errorType]))

end Go.Proofs.YtipajekehbpghaaGreatDoor

/-
  PackSafe: the call returns true for every input, and its arguments read afterwards as before; the card.
-/
namespace Go.Proofs.YtipajekehbpghaaGreatDoor.packSafe
open Go.ChangeShapes Go.WideShapes Go.ChangeAt Go.RowKit
open Go.ChangeMaps (open_string shut_string)
set_option linter.unusedVariables false

theorem lo : laidOutB Tryz.prog = true := by kernel_rfl
theorem own : ownKnob Tryz.prog.godebug = none := by kernel_rfl

def leaf : DataW Unit → Value
  | .lit (.int k n) => .int k n
  | _ => .nilIface
def flat : DataW Unit → List Value
  | .agg ds => ds.flatMap fun | .agg es => es.map leaf | d => [leaf d]
  | d => [leaf d]
/-- a world for the witness: the settled one, the listed tables holding what they are listed with -/
noncomputable def laidWorld (os : Os) : World := { World.holding Tryz.prog os ⟨#[], #[], []⟩ with heap := ((((World.holding Tryz.prog os ⟨#[], #[], []⟩).heap.modify 2 fun | .cells _ t f => .cells (flat Go.Pinned.utf8First).toArray t f | o => o).modify 3 fun | .cells _ t f => .cells (flat Rows.laid_unicode_utf8_acceptRanges).toArray t f | o => o).modify 0 fun | .cells _ t f => .cells #[.iface 200 (.agg #[.pointer (some ⟨4, 35, none⟩)])] t f | o => o) }
theorem door_met (os : Os) (args : Array Value) : laidMetH Tryz.prog Rows.packSafeRow.laid ((laidWorld os).forCall (fun _ _ => 0) ⟨#[], args, []⟩).memory :=
  laidMetH_of_parts3 (fuel := 8) (laidMet_of_run' 8 (by kernel_rfl) (by kernel_rfl)) (by kernel_rfl) (by kernel_rfl)

set_option maxRecDepth 100000 in
theorem lifted (os : Os) (started : os.Started) (H : Type) (enc : TypeId × Value → H) :
    ReturnsInHanded {} Tryz.checked os 13 .any (fun w args => (Rows.packSafeSpec.pre enc Tryz.prog Tryz.f13 Rows.packSafeRow.domain false w args ∧ laidMetH Tryz.prog Rows.packSafeRow.laid w) ∧ sizedMet enc Tryz.prog Tryz.f13 (OpenSpec.ofChange Rows.packSafeSpec) false w args)
      (Rows.packSafeSpec.post enc Tryz.prog Tryz.f13 false true false false) := by
  refine and_shaped (C := Tryz.checked) (X := fun w _ => laidMetH Tryz.prog Rows.packSafeRow.laid w) (fun _ _ _ hh h => h.of_heap hh) own started (by kernel_rfl) Tryz.func13
    (ChangeSpec.witness_shaped (enc := enc) (C := Tryz.checked) (os := os) (X := fun w _ => laidMetH Tryz.prog Rows.packSafeRow.laid w) false (laidWorld os) #[.slice none 0 0, .slice none 0 0, .agg #[.string ByteArray.empty, .int .u8 0, .int .i64 0, .int .i64 0, .int .i64 0, .int .i64 0, .int .i64 0, .int .i64 0, .string ByteArray.empty, .string ByteArray.empty, .string ByteArray.empty, .int .i64 0, .int .i64 0, .string ByteArray.empty, .slice none 0 0]] 8 rfl (World.shaped_of_RefB (by kernel_rfl) (by kernel_rfl)) (by kernel_rfl) (by kernel_rfl) (by kernel_rfl) (door_met os _)) ?_
  intro W base args ds gs before hval0 hW hcnd hsz0 hL hsh _
  have hval : ∀ (j : Nat) t v, Tryz.f13.params[j]? = some t → args[j]? = some v → Value.okWide Tryz.prog W .any base t v := hval0
  have hW' := hW
  obtain ⟨p, q, hA0, hV, rfl, hfz, hnd⟩ := hW
  have hA : DataW.TrodAll enc Tryz.prog W 0 (fun _ => true) true Tryz.f13.params.toList args.toList ds p := hA0
  have hsz : (DataW.weightsEach Tryz.prog (Tryz.f13.params.toList ++ Rows.packSafeSpec.plain.varTypes Tryz.prog) (ds ++ gs)).all (· ≤ reachBytes) = true := hsz0
  rw [Tryz.params13] at hA hval hsz
  obtain ⟨v0, vs0, d0, ds0, p0, q0, hargs, rfl, rfl, h0, r0⟩ := trodAll_cons hA
  obtain ⟨v1, vs1, d1, ds1, p1, q1, rfl, rfl, rfl, h1, r1⟩ := trodAll_cons r0
  obtain ⟨v2, vs2, d2, ds2, p2, q2, rfl, rfl, rfl, h2, r2⟩ := trodAll_cons r1
  obtain ⟨rfl, rfl, rfl⟩ := trodAll_nil r2
  obtain rfl : args = #[v0, v1, v2] := by cases args; simp_all
  obtain ⟨rfl, rfl⟩ := trodVars_none hV
  have k0 := hval 0 22 v0 rfl rfl
  have k1 := hval 1 26 v1 rfl rfl
  have k2 := hval 2 40 v2 rfl rfl
  have z0 : ∀ n ∈ d0.weights Tryz.prog 22, n ≤ reachBytes := fun n hn => by have := List.all_eq_true.1 hsz n (DataW.weights_mem_each (j := 0) (t := 22) rfl rfl n hn); simpa using this
  have z1 : ∀ n ∈ d1.weights Tryz.prog 26, n ≤ reachBytes := fun n hn => by have := List.all_eq_true.1 hsz n (DataW.weights_mem_each (j := 1) (t := 26) rfl rfl n hn); simpa using this
  have z2 : ∀ n ∈ d2.weights Tryz.prog 40, n ≤ reachBytes := fun n hn => by have := List.all_eq_true.1 hsz n (DataW.weights_mem_each (j := 2) (t := 40) rfl rfl n hn); simpa using this
  clear hA0 hval0 hsz0
  refine (packSafe_walk v0 k0 h0 z0 v1 k1 h1 z1 v2 k2 h2 z2 hL (ml_of_shape hsh)).mono fun e W' ⟨he, bel⟩ => ?_
  subst he
  exact ⟨_, rfl, _, _, _, [], _, [], hW', trodAll_mk1 (shut_bool Tryz.underlying4 _), (trodAll_cons_mk (Below.trod lo (by kernel_rfl) (of_decide_eq_true (by kernel_rfl)) h0 bel (fun x hx => by obtain ⟨_, hh⟩ := h0; exact DataW.trod_lt _ _ _ _ hh x hx)) (trodAll_cons_mk (Below.trod lo (by kernel_rfl) (of_decide_eq_true (by kernel_rfl)) h1 bel (fun x hx => by obtain ⟨_, hh⟩ := h1; exact DataW.trod_lt _ _ _ _ hh x hx)) (trodAll_cons_mk (Below.trod lo (by kernel_rfl) (of_decide_eq_true (by kernel_rfl)) h2 bel (fun x hx => by obtain ⟨_, hh⟩ := h2; exact DataW.trod_lt _ _ _ _ hh x hx)) trodAll_mk0))), rfl, bel.frame _, fun h => by cases h⟩

theorem said : Rows.PackSafeSaid :=
  OpenClaim.holds_of_wide 13 Tryz.f13 rfl rfl rfl rfl rfl rfl rfl ⟨rfl, rfl, rfl, rfl, rfl⟩ rfl rfl rfl rfl rfl (by kernel_rfl) Tryz.func13 (by kernel_rfl)
    (of_decide_eq_true (by kernel_rfl)) (by unfold Func.isWrapper; first | (rw [if_pos (by decide +kernel)]; kernel_rfl) | (rw [if_neg (by decide +kernel)]; exact ⟨rfl, rfl⟩))
    (fun os started H enc _ => lifted os started H enc)

theorem plain (f : FuncId) (fn : Func) (hf : Tryz.pinned.checked.prog.funcNamed "revetment/revetmentkeep.PackSafe" = some f) (hfn : Tryz.pinned.checked.prog.funcs[f]? = some fn) :
    true = Tryz.pinned.checked.prog.looks [] ∧ ∀ (j : Nat) t, fn.params[j]? = some t → Tryz.pinned.checked.prog.wantsStandIn t = false := by
  obtain rfl : f = 13 := Option.some.inj ((show Tryz.prog.funcNamed "revetment/revetmentkeep.PackSafe" = some 13 by kernel_rfl).symm.trans hf) |>.symm
  obtain rfl : fn = Tryz.f13 := (Option.some.inj (Tryz.func13.symm.trans hfn)).symm
  refine ⟨by kernel_rfl, fun j t ht => ?_⟩
  rw [Tryz.params13] at ht
  have hm : t ∈ [22, 26, 40] := by simpa using Array.mem_of_getElem? ht
  have hall : ([22, 26, 40].all fun u => !Tryz.prog.wantsStandIn u) = true := by kernel_rfl
  have hm' : t ∈ [22, 26, 40] := hm
  exact (show Tryz.prog.wantsStandIn t = false by simpa using List.all_eq_true.1 hall t hm')

theorem card : Rows.PackSafeCardSaid :=
  Claim7.holds_tied_plain_at .later [] _ _ _ _ said (fun _ h => by cases h) (by kernel_rfl) (fun _ h => by cases h) packSafe_row_tie rfl ⟨rfl, rfl⟩ (by kernel_rfl) rfl plain (by kernel_rfl)
#print axioms card
end Go.Proofs.YtipajekehbpghaaGreatDoor.packSafe
