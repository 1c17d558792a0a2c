/-
  The walk of DifferGone.
-/
import Derived.Test.YtipajekehbpghaaGreatDoorZr
import Derived.Test.YtipajekehbpghaaGreatDoorZm
import Derived.Test.YtipajekehbpghaaGreatDoorZt
import Derived.Test.YtipajekehbpghaaGreatDoorZo
import Derived.Test.YtipajekehbpghaaGreatDoorZf
import Derived.Test.YtipajekehbpghaaGreatDoorCards
import Derived.Test.YtipajekehbpghaaGreatDoorTie
import Derived.ProofKit
import Derived.OpenShut
import Derived.ShutString
import Derived.ChangeOld
import Derived.Below
import Derived.SizedLaws
import Derived.Deep.DeepHandedRow
import Derived.Lib.LaidTab
import Derived.SevenTiedAt
import Derived.LaidMore
set_option linter.unusedVariables false
set_option linter.unusedSimpArgs false

namespace Pk
open Pth Tre
theorem make_sub {t : T} {x : Deed} (h1 : x.what = 1) (s : Bs) (hs : t.has s = true) : (act t x).1.has s = true := by
  by_cases h : (act t x).2 = 0
  · obtain ⟨_, he⟩ := create_ok h1 h
    obtain ⟨k, hk⟩ := has_look hs
    unfold T.has
    rw [he, look_snoc, hk]
    rfl
  · rw [act_err h]; exact hs
end Pk
namespace Go.Proofs.YtipajekehbpghaaGreatDoor
open Go.RowKit Go.Maps Tre Pk

theorem mapLen3 {ps : List (Ent × Value)} {l : List Ent} (h : ps.map Prod.fst = l) : ps.length = l.length := by rw [← h, List.length_map]
theorem err_some3 {c : Int} (h : c ≠ 0) : errV c = .iface 89 (.int .i64 c) := if_neg h
theorem err_none3 {c : Int} (h : c = 0) : errV c = .nilIface := by rw [h]; rfl
section
variable {H : Type} {enc : TypeId × Value → H}
set_option maxRecDepth 100000 in
theorem node_open {W : World} {v : Value} {d : DataW H} {ps : List MemPlace} {base : Nat} (hok : Value.okWide Tryz.prog W .any base 33 v)
    (h : DataW.Trod enc Tryz.prog W 0 (fun _ => true) true 33 v d ps) (hz : ∀ n ∈ d.weights Tryz.prog 33, n ≤ reachBytes) : ∃ n : Nd, v = ndv n ∧ n.kind ≤ 255 ∧ n.data.length ≤ 140737488351232 ∧ n.link.length ≤ 140737488351232 := by
  obtain ⟨cs, rfl, hsz⟩ := WideShapes.okWide_struct Tryz.underlying33 hok
  obtain ⟨fuel, hf⟩ := h
  obtain ⟨n, e, e2, hk⟩ := node_of hf
  simp only at e2
  subst e2
  have hw : (nodeD n : DataW H).weights Tryz.prog 33 = [n.data.length, n.link.length] := by
    simp [nodeD, timeD, DataW.weights, DataW.weightsEach, Tryz.underlying33, Tryz.underlying31]
  rw [hw] at hz
  have a1 := hz n.data.length (by simp)
  have a2 := hz n.link.length (by simp)
  unfold reachBytes at a1 a2
  refine ⟨n, ?_, hk, by omega, by omega⟩
  unfold ndv
  simp only [Value.cells] at e
  rw [Array.toList_inj.1 e]
end

set_option maxRecDepth 100000 in
set_option maxHeartbeats 16000000 in
theorem differGone_main (v : Value) (l : List Deed) (which : Int) (n : Nd) (w : World) (hD : DeedsIn w v l) (hn1 : n.kind ≤ 255) (hn2 : n.data.length ≤ 140737488351232) (hn3 : n.link.length ≤ 140737488351232) (hm : ML w) :
    Calls Tryz.prog 9 #[v, .int .i64 which, ndv n] w fun r w' => r = .returned (.bool true) ∧ Below w.heap.size w w' := by
  obtain ⟨W, hW⟩ : ∃ W, W = w.alloc (.cells #[.int .u8 n.kind, .int .i64 n.mode, .int .i64 n.uid, .int .i64 n.gid, .int .i64 n.sec, .int .i64 n.nano, .string (bs n.data), .string (bs n.link), .int .i64 n.major, .int .i64 n.minor] 33) := ⟨_, rfl⟩
  have HB0 := Lib.hid (show Below w.heap.size w W by rw [hW]; exact (Below.refl _ _).alloc (Nat.le_refl _) _)
  have hWs : W.heap.size = w.heap.size + 1 := by rw [hW]; simp
  have BNW := Lib.hid (show Blk W w.heap.size 33 #[.int .u8 n.kind, .int .i64 n.mode, .int .i64 n.uid, .int .i64 n.gid, .int .i64 n.sec, .int .i64 n.nano, .string (bs n.data), .string (bs n.link), .int .i64 n.major, .int .i64 n.minor] by rw [hW]; exact Blk.new w 33 _)
  have lN : w.heap.size < W.heap.size := by omega
  have FIN := Lib.hid (fun w' (h : Below W.heap.size W w') => (thenB HB0.out h : Below w.heap.size w w'))
  have HM := Lib.hid (hm.below HB0.out)
  have CF := Lib.hid (comparedF_any W HM.out)
  have PK := Lib.hid (fun w' (hb : Below W.heap.size W w') => packed_any w' (HM.out.below hb))
  have PL := Lib.hid (fun w' (hb : Below W.heap.size W w') => planted_any ((hD.below HB0.out).below hb) (HM.out.below hb))
  have HW := Lib.hid hW
  obtain ⟨X, cap, rfl, _⟩ := id hD
  have b1 : ((bs n.data).size : Int) ≤ 140737488351232 := by rw [bs_size]; omega
  have b2 : ((bs n.link).size : Int) ≤ 140737488351232 := by rw [bs_size]; omega
  unfold ndv ndc
  clear hD hm hW
  go_enter Tryz.func9, Tryz.ntmps9
  go_wp2_with fail
  rw [← HW.out]
  refine CF.out.mono ?_
  rintro r w0 ⟨rfl, h0⟩
  have B0 := Lib.hid h0
  clear h0 HW
  go_wp2_with fail
  refine (PK.out _ B0.out).mono ?_
  rintro r w1 ⟨rfl, h1⟩
  have B1 := Lib.hid (thenB B0.out h1)
  clear h1
  go_wp2_with fail
  refine (PL.out _ B1.out).mono ?_
  rintro r w2 ⟨h2, ⟨hb, rfl⟩ | ⟨hb, g, on, of, rfl, hT, hO⟩⟩
  · have B2 := Lib.hid (thenB B1.out h2)
    clear h2
    go_wp2_with fail; go_ret; exact ⟨rfl, FIN.out _ B2.out⟩
  have B2 := Lib.hid (thenB B1.out h2)
  have hl60 := bigL_len hb
  have hnx0 := plant_nx l
  have HS := Lib.hid (plant_std l)
  have HT := Lib.hid hT
  have HO := Lib.hid (fun b hb => Nat.le_trans B1.out.size (hO b hb))
  obtain ⟨t, ht⟩ : ∃ t, t = plant l := ⟨_, rfl⟩
  rw [← ht] at HT HS hnx0
  have hnx : t.nx ≤ 60 := by omega
  clear h2 hb hT hO ht PL hnx0 PK CF
  have z0 : w2.cell? ⟨w.heap.size, 0, none⟩ = some (.int .u8 n.kind) := (BNW.out.below B2.out lN).cell 0; have z1 : w2.cell? ⟨w.heap.size, 1, none⟩ = some (.int .i64 n.mode) := (BNW.out.below B2.out lN).cell 1; have z2 : w2.cell? ⟨w.heap.size, 2, none⟩ = some (.int .i64 n.uid) := (BNW.out.below B2.out lN).cell 2; have z3 : w2.cell? ⟨w.heap.size, 3, none⟩ = some (.int .i64 n.gid) := (BNW.out.below B2.out lN).cell 3; have z4 : w2.cell? ⟨w.heap.size, 4, none⟩ = some (.int .i64 n.sec) := (BNW.out.below B2.out lN).cell 4; have z5 : w2.cell? ⟨w.heap.size, 5, none⟩ = some (.int .i64 n.nano) := (BNW.out.below B2.out lN).cell 5; have z6 : w2.cell? ⟨w.heap.size, 6, none⟩ = some (.string (bs n.data)) := (BNW.out.below B2.out lN).cell 6; have z7 : w2.cell? ⟨w.heap.size, 7, none⟩ = some (.string (bs n.link)) := (BNW.out.below B2.out lN).cell 7; have z8 : w2.cell? ⟨w.heap.size, 8, none⟩ = some (.int .i64 n.major) := (BNW.out.below B2.out lN).cell 8; have z9 : w2.cell? ⟨w.heap.size, 9, none⟩ = some (.int .i64 n.minor) := (BNW.out.below B2.out lN).cell 9
  by_cases hbig : 600 < n.data.length + n.link.length
  · have hbi : (600 : Int) < (bs n.data).size + (bs n.link).size := by rw [bs_size, bs_size]; omega
    clear hbig
    go_wp2_with fail; go_ret; exact ⟨rfl, FIN.out _ B2.out⟩
  have hbi : ¬ (600 : Int) < (bs n.data).size + (bs n.link).size := by rw [bs_size, bs_size]; omega
  have LR := Lib.hid (list_right HS.out false)
  have hln := list_len t false
  have hln2 : t.names.length ≤ 60 := by rw [names_len]; exact HS.out.cn
  have LI := Lib.hid (list_any HT.out HS.out (by omega) (HM.out.below B2.out) false)
  have NM := Lib.hid (fun w' (hb : Below w2.heap.size w2 w') => names_any (HT.out.below hb) HS.out ((HM.out.below B2.out).below hb))
  have D1 := Lib.hid (fun w' (hb : Below w2.heap.size w2 w') => do_tree (HT.out.below hb) HS.out (by omega) ((HM.out.below B2.out).below hb) ⟨1, [122, 122], [], 0, n⟩ hn1 (by show 2 ≤ 10000; omega) (by show 0 ≤ 10000; omega) (by simp only; omega) (by simp only; omega))
  have MM := Lib.hid (fun (h : (act t ⟨1, [122, 122], [], 0, n⟩).2 = 0) => more_made HS.out (x := ⟨1, [122, 122], [], 0, n⟩) rfl h false)
  have SUB := Lib.hid (fun s hs => make_sub (t := t) (x := ⟨1, [122, 122], [], 0, n⟩) rfl s hs)
  have S1 := Lib.hid (HS.out.act ⟨1, [122, 122], [], 0, n⟩)
  have x1 := (act_nx t ⟨1, [122, 122], [], 0, n⟩).1
  obtain ⟨C1, hC1⟩ : ∃ C, C = act t ⟨1, [122, 122], [], 0, n⟩ := ⟨_, rfl⟩
  rw [← hC1] at D1 MM SUB S1 x1
  have CG := Lib.hid (fun i (hi : i < t.names.length) (h : (act C1.1 (rmv t.names[i])).2 = 0) => compare_gone HS.out S1.out SUB.out hi false h)
  obtain ⟨L, hL⟩ : ∃ L, L = list t false := ⟨_, rfl⟩
  rw [← hL] at LR hln LI MM CG
  have HNAME := Lib.hid (fun (s : Pth.Bs) (h : s ∈ t.names) => HS.out.name h)
  obtain ⟨N, hN⟩ : ∃ N, N = t.names := ⟨_, rfl⟩
  rw [← hN] at hln hln2
  rw [← hN] at CG HNAME NM
  unfold dv dvc at D1
  simp only at D1
  clear hL hC1 hN hbig hn1 hn2 hn3
  go_wp2_with fail
  clear z0 z1 z2 z3 z4 z5 z6 z7 z8 z9
  refine LI.out.mono ?_
  rintro r w3 ⟨v3, ps, rfl, hps, hen, h3⟩
  have B3 := Lib.hid h3
  have E3 := Lib.hid hen.at_
  have hpl : ps.length ≤ 60 := by rw [mapLen3 hps]; omega
  have RE := Lib.hid (show ∀ p ∈ ps, rightE p.1 = true from fun p hp => LR.out p.1 (by rw [← hps]; exact List.mem_map_of_mem hp))
  have HPS := Lib.hid hps
  clear h3 hen hps LI LR
  obtain ⟨XA, xc, rfl, _⟩ := E3.out.row
  go_wp2_with fail
  refine (NM.out _ B3.out).mono ?_
  rintro r w4 ⟨v4, rfl, hv, h4⟩
  have B4 := Lib.hid (thenB B3.out h4)
  have E4 := Lib.hid (E3.out.below h4)
  have V4 := Lib.hid hv
  obtain ⟨YA, yc, rfl, hyc⟩ := hv.form
  clear hv h4 NM
  have W4 := Lib.hid (thenB B2.out B4.out)
  have T4 := Lib.hid (HT.out.below B4.out)
  have D14 := Lib.hid (D1.out _ B4.out)
  have z0 : w4.cell? ⟨w.heap.size, 0, none⟩ = some (.int .u8 n.kind) := (BNW.out.below W4.out lN).cell 0; have z1 : w4.cell? ⟨w.heap.size, 1, none⟩ = some (.int .i64 n.mode) := (BNW.out.below W4.out lN).cell 1; have z2 : w4.cell? ⟨w.heap.size, 2, none⟩ = some (.int .i64 n.uid) := (BNW.out.below W4.out lN).cell 2; have z3 : w4.cell? ⟨w.heap.size, 3, none⟩ = some (.int .i64 n.gid) := (BNW.out.below W4.out lN).cell 3; have z4 : w4.cell? ⟨w.heap.size, 4, none⟩ = some (.int .i64 n.sec) := (BNW.out.below W4.out lN).cell 4; have z5 : w4.cell? ⟨w.heap.size, 5, none⟩ = some (.int .i64 n.nano) := (BNW.out.below W4.out lN).cell 5; have z6 : w4.cell? ⟨w.heap.size, 6, none⟩ = some (.string (bs n.data)) := (BNW.out.below W4.out lN).cell 6; have z7 : w4.cell? ⟨w.heap.size, 7, none⟩ = some (.string (bs n.link)) := (BNW.out.below W4.out lN).cell 7; have z8 : w4.cell? ⟨w.heap.size, 8, none⟩ = some (.int .i64 n.major) := (BNW.out.below W4.out lN).cell 8; have z9 : w4.cell? ⟨w.heap.size, 9, none⟩ = some (.int .i64 n.minor) := (BNW.out.below W4.out lN).cell 9
  repeat' ((fail_if_success (with_reducible refine halt_at 8 ?_)); first | go_values | go_skip | go_guarded | go_step | go_upon | go_back | (simp only [Int.not_lt, Int.not_le] at *; go_simp) | (go_values <;> (try go_simp)) | (go_ite <;> go_prune <;> (try go_simp)) | (split <;> (first | (rename_i hx; exact (hx _ rfl).elim) | go_prune)))
  go_cut [47] (fun s47 wx => ∃ w8 n8 f8, s47 = .bool false ∧ w8 = wx ∧ Hid (TreeAt w8 g n8 f8 C1.1) ∧ Hid (∀ b ∈ own g n8 f8, W.heap.size ≤ b) ∧ Hid (EntsAt w8 (.slice XA ps.length xc) ps) ∧ Hid (HasT w8 w3.heap.size (.slice YA N.length yc) N) ∧ Hid (Below W.heap.size W w8))
  case first =>
    go_wp2_with fail
    refine D14.out.mono ?_
    rintro r w6 ⟨rfl, n6, f6, k1, k2, k3⟩
    have T6 := Lib.hid k1
    have O6 := Lib.hid (fun b (hb : b ∈ own g n6 f6) => (k2 b hb).elim (HO.out b) (fun hh => Nat.le_trans W4.out.size hh))
    have W6 := Lib.hid (show Below W.heap.size W w6 from W4.out.trans (k3.down HO.out W4.out.size))
    have E6 := Lib.hid (E4.out.kept T4.out k3)
    have V6 : Hid (HasT w6 w3.heap.size (.slice YA N.length yc) N) := Lib.hid (ownsRow_kept T4.out k3 V4.out (by decide))
    clear k1 k2 k3 D14 D1 T4 E4 V4
    clear z0 z1 z2 z3 z4 z5 z6 z7 z8 z9
    by_cases e1 : C1.2 = 0
    · have hmm := MM.out e1
      have MO := Lib.hid (moreD_any (HM.out.below W6.out) T6.out S1.out _ ps E6.out (by omega) (fun p hp => by have := (right_ent (RE.out p hp)).1; omega))
      rw [HPS.out, hmm] at MO
      rw [err_none3 e1]
      clear e1 hmm
      go_wp2_with fail
      refine MO.out.mono ?_
      rintro r w7 ⟨v7, rfl, hv7, h7⟩
      obtain ⟨w8, hw8⟩ : ∃ x, x = w7.alloc (.cells #[.string ⟨#[122, 122]⟩] 9) := ⟨_, rfl⟩
      have h78 : Below w7.heap.size w7 w8 := by rw [hw8]; exact (Below.refl _ _).alloc (Nat.le_refl _) _
      have K8 : HasS w8 0 (.slice (some ⟨w7.heap.size, 0, none⟩) 1 1) [[122, 122]] := ⟨_, 1, rfl, Nat.le_refl _, .inr ⟨w7.heap.size, 0, rfl, Nat.zero_le _, by rw [hw8]; simp, fun j hj => by
        obtain rfl : j = 0 := by simp at hj; omega
        rw [hw8]; exact (Blk.new w7 9 _).cell 0⟩⟩
      have EQ := Lib.hid (eq_any (hv7.later h78).has K8 (by decide) (by decide))
      have B68 := Lib.hid (thenB h7 h78)
      have HW8 := Lib.hid hw8
      obtain ⟨X7, c7, rfl, _⟩ := hv7.form
      clear hv7 h7 h78 K8 hw8 MO
      go_wp2_with fail
      rw [← HW8.out]
      refine EQ.out.mono ?_
      rintro r w9 ⟨rfl, h9⟩
      have B9 := Lib.hid (thenB B68.out h9)
      clear h9
      rw [decide_eq_true (show True from trivial)]
      go_wp2_with fail
      go_meet
      exact ⟨_, n6, f6, rfl, rfl, Lib.hid (T6.out.below B9.out), O6, Lib.hid (E6.out.below B9.out), Lib.hid (V6.out.later B9.out), Lib.hid (thenB W6.out B9.out)⟩
    · rw [err_some3 e1]
      clear e1
      go_wp2_with fail
      go_meet
      exact ⟨_, n6, f6, rfl, rfl, T6, O6, E6, V6, W6⟩
  case rest =>
  obtain ⟨w8, n8, f8, rfl, rfl, T8, O8, E8, V8, W8⟩ := hcut
  clear z0 z1 z2 z3 z4 z5 z6 z7 z8 z9
  clear D14 D1 T4 E4 V4 E3 B4 W4 MM
  rcases V8.out.has.ways with ⟨A0, c0, hA0, h0⟩ | ⟨b, off, c3, hv, hc3, _, hb8, hpos, hrow⟩
  · injection hA0 with _ e0 _
    have hl0 : ((N.length : Int) == 0) = true := by rw [h0]; rfl
    clear h0 e0
    go_wp2_with fail; go_ret; exact ⟨rfl, FIN.out _ W8.out⟩
  injection hv with ea _ ec
  subst ea ec
  have hl0 : ((N.length : Int) == 0) = false := beq_eq_false_iff_ne.2 (by omega)
  have p1 := pickN_lo which N.length (by omega)
  have p2 := pickN_hi which N.length (by omega)
  have PI := Lib.hid (fun w => pick_any which N.length w (by omega) (by omega))
  obtain ⟨k0, hk0⟩ : ∃ k0, k0 = pickN which N.length := ⟨_, rfl⟩
  rw [← hk0] at p1 p2 PI
  obtain ⟨k, rfl⟩ := Int.eq_ofNat_of_zero_le p1
  have hkl : k < N.length := by omega
  have c0 := hrow k hkl
  have hmemk : N[k] ∈ N := List.getElem_mem hkl
  have cg := CG.out k hkl
  obtain ⟨a, ha⟩ : ∃ a, a = N[k] := ⟨_, rfl⟩
  rw [← ha] at c0 hmemk cg
  obtain ⟨ka, hka, har, _, _⟩ := HNAME.out a hmemk
  have hal := (right_len har).1
  have CGK := Lib.hid cg
  have D2 := Lib.hid (do_tree T8.out S1.out (by omega) (HM.out.below W8.out) ⟨3, a, [], 0, zero⟩ (Nat.zero_le _) (by simp only; omega) (Nat.zero_le _) (Nat.zero_le _) (Nat.zero_le _))
  have S2 := Lib.hid (S1.out.act (rmv a))
  have x2 := (act_nx C1.1 (rmv a)).1
  have hrm : act C1.1 ⟨3, a, [], 0, zero⟩ = act C1.1 (rmv a) := rfl
  rw [hrm] at D2
  obtain ⟨C2, hC2⟩ : ∃ C, C = act C1.1 (rmv a) := ⟨_, rfl⟩
  rw [← hC2] at D2 CGK S2 x2
  unfold dv dvc zero at D2
  simp only at D2
  clear hk0 ha hmemk hka har hrow hrm hC2 cg CG HNAME
  go_wp2_with fail
  refine (PI.out _).mono ?_
  rintro r w' ⟨rfl, hw⟩
  subst w'
  go_wp2_with fail
  refine D2.out.mono ?_
  rintro r w9 ⟨rfl, n9, f9, k1, k2, k3⟩
  have T9 := Lib.hid k1
  have W9 := Lib.hid (show Below W.heap.size W w9 from W8.out.trans (k3.down O8.out W8.out.size))
  have E9 := Lib.hid (E8.out.kept T8.out k3)
  clear k1 k2 k3 D2 T8 E8 V8 c0
  by_cases e2 : C2.2 = 0
  rotate_left
  · rw [err_some3 e2]
    go_wp2_with fail; go_ret; exact ⟨rfl, FIN.out _ W9.out⟩
  rw [err_none3 e2]
  have hmem := CGK.out e2
  have CM := Lib.hid (differC_any (HM.out.below W9.out) T9.out S2.out (by omega) _ ps E9.out (by omega) RE.out)
  rw [HPS.out] at CM
  have hcl := compare_len C2.1 L 0
  have HMEM := Lib.hid hmem
  clear e2 hmem CGK
  go_wp2_with fail
  refine CM.out.mono ?_
  rintro r wa ⟨va, rfl, hva, ha⟩
  have Wa := Lib.hid (thenB W9.out ha)
  have CT := Lib.hid (containsD_any hva (k, 1) HMEM.out (by show (compareGo C2.1 0 L).length ≤ 1000; omega))
  obtain ⟨Xa, ca, rfl⟩ := hva.form
  clear hva ha CM
  go_wp2_with fail
  refine CT.out.mono ?_
  rintro r wb ⟨rfl, hb⟩
  have Wb := Lib.hid (thenB Wa.out hb)
  clear hb
  go_wp2_with fail; go_ret; exact ⟨rfl, FIN.out _ Wb.out⟩

set_option maxRecDepth 100000 in
theorem differGone_walk {H : Type} {enc : TypeId × Value → H} {w : World} {d1 d3 : DataW H} {p1 p3 : List MemPlace} {base : Nat} (v : Value) (hok1 : Value.okWide Tryz.prog w .any base 22 v)
    (h1 : DataW.Trod enc Tryz.prog w 0 (fun _ => true) true 22 v d1 p1) (hz1 : ∀ n ∈ d1.weights Tryz.prog 22, n ≤ reachBytes)
    (which : Int) (_hw : (Lit.int .i64 which).wf = true)
    (vn : Value) (hok3 : Value.okWide Tryz.prog w .any base 33 vn) (h3 : DataW.Trod enc Tryz.prog w 0 (fun _ => true) true 33 vn d3 p3) (hz3 : ∀ n ∈ d3.weights Tryz.prog 33, n ≤ reachBytes) (hsh : ML w) :
    Calls Tryz.prog 9 #[v, .int .i64 which, vn] w fun e w' => e = .returned (.bool true) ∧ Below w.heap.size w w' := by
  obtain ⟨l, hl⟩ := deeds_of hok1 h1 hz1
  obtain ⟨n, rfl, hn1, hn2, hn3⟩ := node_open hok3 h3 hz3
  exact differGone_main v l which n w hl hn1 hn2 hn3 hsh

end Go.Proofs.YtipajekehbpghaaGreatDoor

/-
  DifferGone: the call returns true for every input, and its arguments read afterwards as before; the card.
-/
namespace Go.Proofs.YtipajekehbpghaaGreatDoor.differGone
open Go.ChangeShapes Go.WideShapes Go.ChangeAt Go.RowKit
open Go.ChangeMaps (open_string shut_string)
set_option linter.unusedVariables false

theorem lo : laidOutB Tryz.prog = true := by kernel_rfl
theorem own : ownKnob Tryz.prog.godebug = none := by kernel_rfl

def leaf : DataW Unit → Value
  | .lit (.int k n) => .int k n
  | _ => .nilIface
def flat : DataW Unit → List Value
  | .agg ds => ds.flatMap fun | .agg es => es.map leaf | d => [leaf d]
  | d => [leaf d]
/-- a world for the witness: the settled one, the listed tables holding what they are listed with -/
noncomputable def laidWorld (os : Os) : World := { World.holding Tryz.prog os ⟨#[], #[], []⟩ with heap := (((World.holding Tryz.prog os ⟨#[], #[], []⟩).heap.modify 2 fun | .cells _ t f => .cells (flat Go.Pinned.utf8First).toArray t f | o => o).modify 3 fun | .cells _ t f => .cells (flat Rows.laid_unicode_utf8_acceptRanges).toArray t f | o => o) }
theorem door_met (os : Os) (args : Array Value) : laidMetH Tryz.prog Rows.differGoneRow.laid ((laidWorld os).forCall (fun _ _ => 0) ⟨#[], args, []⟩).memory :=
  laidMetH_of_parts3 (fuel := 8) (laidMet_of_run' 8 (by kernel_rfl) (by kernel_rfl)) (by kernel_rfl) (by kernel_rfl)

set_option maxRecDepth 100000 in
theorem lifted (os : Os) (started : os.Started) (H : Type) (enc : TypeId × Value → H) :
    ReturnsInHanded {} Tryz.checked os 9 .any (fun w args => (Rows.differGoneSpec.pre enc Tryz.prog Tryz.f9 Rows.differGoneRow.domain false w args ∧ laidMetH Tryz.prog Rows.differGoneRow.laid w) ∧ sizedMet enc Tryz.prog Tryz.f9 (OpenSpec.ofChange Rows.differGoneSpec) false w args)
      (Rows.differGoneSpec.post enc Tryz.prog Tryz.f9 false true false false) := by
  refine and_shaped (C := Tryz.checked) (X := fun w _ => laidMetH Tryz.prog Rows.differGoneRow.laid w) (fun _ _ _ hh h => h.of_heap hh) own started (by kernel_rfl) Tryz.func9
    (ChangeSpec.witness_shaped (enc := enc) (C := Tryz.checked) (os := os) (X := fun w _ => laidMetH Tryz.prog Rows.differGoneRow.laid w) false (laidWorld os) #[.slice none 0 0, .int .i64 0, .agg #[.int .u8 0, .int .i64 0, .int .i64 0, .int .i64 0, .int .i64 0, .int .i64 0, .string ByteArray.empty, .string ByteArray.empty, .int .i64 0, .int .i64 0]] 8 rfl (World.shaped_of_RefB (by kernel_rfl) (by kernel_rfl)) (by kernel_rfl) (by kernel_rfl) (by kernel_rfl) (door_met os _)) ?_
  intro W base args ds gs before hval0 hW hcnd hsz0 hL hsh _
  have hval : ∀ (j : Nat) t v, Tryz.f9.params[j]? = some t → args[j]? = some v → Value.okWide Tryz.prog W .any base t v := hval0
  have hW' := hW
  obtain ⟨p, q, hA0, hV, rfl, hfz, hnd⟩ := hW
  have hA : DataW.TrodAll enc Tryz.prog W 0 (fun _ => true) true Tryz.f9.params.toList args.toList ds p := hA0
  have hsz : (DataW.weightsEach Tryz.prog (Tryz.f9.params.toList ++ Rows.differGoneSpec.plain.varTypes Tryz.prog) (ds ++ gs)).all (· ≤ reachBytes) = true := hsz0
  rw [Tryz.params9] at hA hval hsz
  obtain ⟨v0, vs0, d0, ds0, p0, q0, hargs, rfl, rfl, h0, r0⟩ := trodAll_cons hA
  obtain ⟨v1, vs1, d1, ds1, p1, q1, rfl, rfl, rfl, h1, r1⟩ := trodAll_cons r0
  obtain ⟨v2, vs2, d2, ds2, p2, q2, rfl, rfl, rfl, h2, r2⟩ := trodAll_cons r1
  obtain ⟨rfl, rfl, rfl⟩ := trodAll_nil r2
  obtain rfl : args = #[v0, v1, v2] := by cases args; simp_all
  obtain ⟨rfl, rfl⟩ := trodVars_none hV
  have k0 := hval 0 22 v0 rfl rfl
  obtain ⟨a1, rfl, rfl, rfl, w1⟩ := open_int Tryz.underlying3 (hval 1 3 v1 rfl rfl) h1
  have k2 := hval 2 33 v2 rfl rfl
  have z0 : ∀ n ∈ d0.weights Tryz.prog 22, n ≤ reachBytes := fun n hn => by have := List.all_eq_true.1 hsz n (DataW.weights_mem_each (j := 0) (t := 22) rfl rfl n hn); simpa using this
  have z2 : ∀ n ∈ d2.weights Tryz.prog 33, n ≤ reachBytes := fun n hn => by have := List.all_eq_true.1 hsz n (DataW.weights_mem_each (j := 2) (t := 33) rfl rfl n hn); simpa using this
  clear hA0 hval0 hsz0
  refine (differGone_walk v0 k0 h0 z0 a1 w1 v2 k2 h2 z2 (ml_of_shape hsh)).mono fun e W' ⟨he, bel⟩ => ?_
  subst he
  exact ⟨_, rfl, _, _, _, [], _, [], hW', trodAll_mk1 (shut_bool Tryz.underlying4 _), (trodAll_cons_mk (Below.trod lo (by kernel_rfl) (of_decide_eq_true (by kernel_rfl)) h0 bel (fun x hx => by obtain ⟨_, hh⟩ := h0; exact DataW.trod_lt _ _ _ _ hh x hx)) (trodAll_cons_mk (shut_int Tryz.underlying3 w1) (trodAll_cons_mk (Below.trod lo (by kernel_rfl) (of_decide_eq_true (by kernel_rfl)) h2 bel (fun x hx => by obtain ⟨_, hh⟩ := h2; exact DataW.trod_lt _ _ _ _ hh x hx)) trodAll_mk0))), rfl, bel.frame _, fun h => by cases h⟩

theorem said : Rows.DifferGoneSaid :=
  OpenClaim.holds_of_wide 9 Tryz.f9 rfl rfl rfl rfl rfl rfl rfl ⟨rfl, rfl, rfl, rfl, rfl⟩ rfl rfl rfl rfl rfl (by kernel_rfl) Tryz.func9 (by kernel_rfl)
    (of_decide_eq_true (by kernel_rfl)) (by unfold Func.isWrapper; first | (rw [if_pos (by decide +kernel)]; kernel_rfl) | (rw [if_neg (by decide +kernel)]; exact ⟨rfl, rfl⟩))
    (fun os started H enc _ => lifted os started H enc)

theorem plain (f : FuncId) (fn : Func) (hf : Tryz.pinned.checked.prog.funcNamed "revetment/revetmentkeep.DifferGone" = some f) (hfn : Tryz.pinned.checked.prog.funcs[f]? = some fn) :
    true = Tryz.pinned.checked.prog.looks [] ∧ ∀ (j : Nat) t, fn.params[j]? = some t → Tryz.pinned.checked.prog.wantsStandIn t = false := by
  obtain rfl : f = 9 := Option.some.inj ((show Tryz.prog.funcNamed "revetment/revetmentkeep.DifferGone" = some 9 by kernel_rfl).symm.trans hf) |>.symm
  obtain rfl : fn = Tryz.f9 := (Option.some.inj (Tryz.func9.symm.trans hfn)).symm
  refine ⟨by kernel_rfl, fun j t ht => ?_⟩
  rw [Tryz.params9] at ht
  have hm : t ∈ [22, 3, 33] := by simpa using Array.mem_of_getElem? ht
  have hall : ([22, 3, 33].all fun u => !Tryz.prog.wantsStandIn u) = true := by kernel_rfl
  have hm' : t ∈ [22, 3, 33] := hm
  exact (show Tryz.prog.wantsStandIn t = false by simpa using List.all_eq_true.1 hall t hm')

theorem card : Rows.DifferGoneCardSaid :=
  Claim7.holds_tied_plain_at .later [] _ _ _ _ said (fun _ h => by cases h) (by kernel_rfl) (fun _ h => by cases h) differGone_row_tie rfl ⟨rfl, rfl⟩ (by kernel_rfl) rfl plain (by kernel_rfl)
#print axioms card
end Go.Proofs.YtipajekehbpghaaGreatDoor.differGone
