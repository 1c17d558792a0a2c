/-
  The walk of DifferOne.
-/
import Derived.Test.YtipajekehbpghaaGreatDoorZr
import Derived.Test.YtipajekehbpghaaGreatDoorZm
import Derived.Test.YtipajekehbpghaaGreatDoorZf
import Derived.Test.YtipajekehbpghaaGreatDoorZo
import Derived.Test.YtipajekehbpghaaGreatDoorCards
import Derived.Test.YtipajekehbpghaaGreatDoorTie
import Derived.ProofKit
import Derived.OpenShut
import Derived.ShutString
import Derived.ChangeOld
import Derived.Below
import Derived.SizedLaws
import Derived.Deep.DeepHandedRow
import Derived.Lib.LaidTab
import Derived.SevenTiedAt
import Derived.LaidMore
set_option linter.unusedVariables false
set_option linter.unusedSimpArgs false

namespace Pk
open Pth Tre
theorem differ_one2 {t : T} (ht : Std t) (hd : Dir1 t) {N : List Bs} (hN : N = t.names) {L : List Ent} (hL : L = list t false) {i : Nat} (hi : i < N.length) {k : Nat} (hk : look t.ents N[i] = some k) {n : Int} (h0 : 0 ≤ n) (h1 : n ≤ 4095) :
    (act t (chmod N[i] n)).2 = 0 ∧ ∃ m, ∃ hm : m < N.length, (∀ j (hj : j < m), (act t (chmod N[i] n)).1.alike N[i] N[j] = false) ∧ (act t (chmod N[i] n)).1.alike N[i] N[m] = true ∧
      compare (act t (chmod N[i] n)).1 L = if (t.file k).mode = n then [] else [(m, 3)] := by
  subst hN hL
  exact differ_one ht hd hi hk h0 h1
end Pk
namespace Go.Proofs.YtipajekehbpghaaGreatDoor
open Go.RowKit Go.Maps Tre Pk

theorem mapLen4 {ps : List (Ent × Value)} {l : List Ent} (h : ps.map Prod.fst = l) : ps.length = l.length := by rw [← h, List.length_map]

set_option maxRecDepth 100000 in
theorem alikeC_any {w : World} {g : Nat} {on of : Option Nat} {t : T} (h : TreeAt w g on of t) (a s : Pth.Bs) (pt pa : Nat) (ha : a.length ≤ 1000) (hs : s.length ≤ 1000) (c1 : w.cell? ⟨pt, 0, none⟩ = some (.pointer (some ⟨g, 0, none⟩))) (c2 : w.cell? ⟨pa, 0, none⟩ = some (.string (bs a))) :
    Calls Tryz.prog 31 #[.string (bs s), .pointer (some ⟨pt, 0, none⟩), .pointer (some ⟨pa, 0, none⟩)] w fun e w' => e = .returned (.bool (t.alike a s)) ∧ w' = w := by
  have AL := Lib.hid (alike_any h (bs a) (bs s) (by rw [bs_size]; omega) (by rw [bs_size]; omega))
  rw [bs_list, bs_list] at AL
  have l1 := World.block_lt_of_cell? w ⟨pt, 0, none⟩ c1
  have l2 := World.block_lt_of_cell? w ⟨pa, 0, none⟩ c2
  simp only at l1 l2
  clear h
  go_enter Tryz.func31, Tryz.ntmps31
  go_wp2_with fail
  refine AL.out.mono ?_
  rintro e w1 ⟨rfl, hw⟩
  subst w1
  go_wp2_with fail
  go_ret
  exact ⟨rfl, rfl⟩

set_option maxRecDepth 100000 in
set_option maxHeartbeats 4000000 in
theorem indexS_any {w : World} {g : Nat} {on of : Option Nat} {t : T} (h : TreeAt w g on of t) (N : List Pth.Bs) (b off c : Nat) (hb : b < w.heap.size) (hr : RowS w b off N) (hl : N.length ≤ 1000) (hN : ∀ s ∈ N, s.length ≤ 1000) (a : Pth.Bs) (ha : a.length ≤ 1000) (pt pa : Nat)
    (c1 : w.cell? ⟨pt, 0, none⟩ = some (.pointer (some ⟨g, 0, none⟩))) (c2 : w.cell? ⟨pa, 0, none⟩ = some (.string (bs a))) (m : Nat) (hm : m < N.length) (hno : ∀ j (hj : j < m), t.alike a (N[j]'(by omega)) = false) (hy : t.alike a N[m] = true) :
    Calls Tryz.prog 30 #[.slice (some ⟨b, off, none⟩) N.length c, .func (.func 31) #[] #[.pointer (some ⟨pt, 0, none⟩), .pointer (some ⟨pa, 0, none⟩)]] w fun e w' => e = .returned (.int .i64 m) ∧ Below w.heap.size w w' := by
  have R := Lib.hid hr
  have HT := Lib.hid h
  have HN := Lib.hid hN
  have HNO := Lib.hid hno
  have HY := Lib.hid hy
  have C1 := Lib.hid c1
  have C2 := Lib.hid c2
  have l1 := World.block_lt_of_cell? w ⟨pt, 0, none⟩ c1
  have l2 := World.block_lt_of_cell? w ⟨pa, 0, none⟩ c2
  simp only at l1 l2
  have hli : (N.length : Int) ≤ 1000 := by omega
  clear hr h hN hno hy c1 c2
  go_enter Tryz.func30, Tryz.ntmps30
  go_wp2_with fail
  go_loopg [5, 8] (N.length) (fun gg _ iv wr => ∃ i : Nat, iv = .int .i64 i ∧ i ≤ m ∧ gg = N.length - i ∧ Hid (Below w.heap.size w wr))
  case atStart => exact ⟨0, rfl, by omega, by omega, Lib.hid (Below.refl _ _)⟩
  case round =>
    obtain ⟨i, rfl, hi, hg, HW⟩ := hrel
    have HG := Lib.hid hg
    clear hg
    have hil : i < N.length := by omega
    have hii : (i : Int) < N.length := by omega
    have hi0 : (0 : Int) ≤ i := by omega
    have cs : wr.cell? ⟨b, off + i, none⟩ = some (.string (bs N[i])) := (HW.out.cell (p := ⟨b, off + i, none⟩) hb).trans (R.out i hil)
    have hsl := HN.out _ (List.getElem_mem hil)
    have AC := Lib.hid (alikeC_any (HT.out.below HW.out) a N[i] pt pa ha hsl ((HW.out.cell (p := ⟨pt, 0, none⟩) l1).trans C1.out) ((HW.out.cell (p := ⟨pa, 0, none⟩) l2).trans C2.out))
    by_cases him : i = m
    · have hh : t.alike a N[i] = true := by subst him; exact HY.out
      rw [hh] at AC
      obtain ⟨s, hs⟩ : ∃ s, s = N[i] := ⟨_, rfl⟩
      rw [← hs] at cs AC
      subst him
      clear hh hs
      go_wp2_with fail
      refine AC.out.mono ?_
      rintro e w1 ⟨rfl, hw⟩
      subst w1
      go_wp2_with fail
      go_ret
      exact ⟨rfl, HW.out⟩
    · have hh : t.alike a N[i] = false := HNO.out i (by omega)
      rw [hh] at AC
      obtain ⟨s, hs⟩ : ∃ s, s = N[i] := ⟨_, rfl⟩
      rw [← hs] at cs AC
      clear hh hs
      go_wp2_with fail
      refine AC.out.mono ?_
      rintro e w1 ⟨rfl, hw⟩
      subst w1
      go_wp2_with fail
      go_roundg (N.length - (i + 1))
      case measure => have := HG.out; omega
      case rel => exact ⟨i + 1, by go_num, by omega, rfl, HW⟩

set_option maxRecDepth 100000 in
set_option maxHeartbeats 16000000 in
theorem differOne_main (v : Value) (l : List Deed) (which nn : Int) (w : World) (hD : DeedsIn w v l) (hm : ML w) :
    Calls Tryz.prog 5 #[v, .int .i64 which, .int .i64 nn] w fun r w' => r = .returned (.bool true) ∧ Below w.heap.size w w' := by
  have CF := Lib.hid (comparedF_any w hm)
  have PK := Lib.hid (fun w' (hb : Below w.heap.size w w') => packed_any w' (hm.below hb))
  have PL := Lib.hid (fun w' (hb : Below w.heap.size w w') => planted_any (hD.below hb) (hm.below hb))
  have HM := Lib.hid hm
  obtain ⟨X, cap, rfl, _⟩ := id hD
  clear hD hm
  go_enter Tryz.func5, Tryz.ntmps5
  go_wp2_with fail
  refine CF.out.mono ?_
  rintro r w0 ⟨rfl, h0⟩
  have B0 := Lib.hid h0
  clear h0
  go_wp2_with fail
  refine (PK.out _ B0.out).mono ?_
  rintro r w1 ⟨rfl, h1⟩
  have B1 := Lib.hid (thenB B0.out h1)
  clear h1
  go_wp2_with fail
  refine (PL.out _ B1.out).mono ?_
  rintro r w2 ⟨h2, ⟨hb, rfl⟩ | ⟨hb, g, on, of, rfl, hT, hO⟩⟩
  · have B2 := Lib.hid (thenB B1.out h2)
    clear h2
    go_wp2_with fail
    go_ret
    exact ⟨rfl, B2.out.alloc B2.out.size _⟩
  obtain ⟨w3, hw3⟩ : ∃ x, x = w2.alloc (.cells #[.pointer (some ⟨g, 0, none⟩)] 24) := ⟨_, rfl⟩
  have h23 : Below w2.heap.size w2 w3 := by rw [hw3]; exact (Below.refl _ _).alloc (Nat.le_refl _) _
  have B2 := Lib.hid (thenB B1.out h2)
  have B3 := Lib.hid (thenB B2.out h23)
  have KT := Lib.hid (show Blk w3 w2.heap.size 24 #[.pointer (some ⟨g, 0, none⟩)] by rw [hw3]; exact Blk.new w2 24 _)
  have HW3 := Lib.hid hw3
  have hl60 := bigL_len hb
  have hnx0 := plant_nx l
  have HS := Lib.hid (plant_std l)
  have HD := Lib.hid (plant_dir1 l)
  have OLT := Lib.hid (fun b (hb : b ∈ own g on of) => (hT.lt b hb : b < w2.heap.size))
  have HT := Lib.hid (hT.below h23)
  have HO := Lib.hid (fun b hb => Nat.le_trans B1.out.size (hO b hb))
  obtain ⟨t, ht⟩ : ∃ t, t = plant l := ⟨_, rfl⟩
  rw [← ht] at HT HS hnx0 HD
  have hnx : t.nx ≤ 60 := by omega
  have ct : w3.cell? ⟨w2.heap.size, 0, none⟩ = some (.pointer (some ⟨g, 0, none⟩)) := KT.out.cell 0
  have lt3 := KT.out.lt
  clear h2 h23 hb hT hO ht PL hnx0 PK CF hw3
  have LR := Lib.hid (list_right HS.out false)
  have hln := list_len t false
  have hln2 : t.names.length ≤ 60 := by rw [names_len]; exact HS.out.cn
  have LI := Lib.hid (list_any HT.out HS.out (by omega) (HM.out.below B3.out) false)
  have NM := Lib.hid (fun w' (hb : Below w3.heap.size w3 w') => names_any (HT.out.below hb) HS.out ((HM.out.below B3.out).below hb))
  obtain ⟨L, hL⟩ : ∃ L, L = list t false := ⟨_, rfl⟩
  rw [← hL] at LR hln LI
  have HNAME := Lib.hid (fun (s : Pth.Bs) (h : s ∈ t.names) => HS.out.name h)
  obtain ⟨N, hN⟩ : ∃ N, N = t.names := ⟨_, rfl⟩
  have LAW := Lib.hid (fun i (hi : i < N.length) k (hk : Tre.look t.ents N[i] = some k) (n : Int) (h0 : 0 ≤ n) (h1 : n ≤ 4095) => differ_one2 HS.out HD.out hN hL hi hk h0 h1)
  rw [← hN] at hln hln2
  rw [← hN] at HNAME NM
  clear hL hN
  go_wp2_with fail
  rw [← HW3.out]
  clear HW3
  go_wp2_with fail
  refine LI.out.mono ?_
  rintro r w4 ⟨v4, ps, rfl, hps, hen, h4⟩
  have B4 := Lib.hid h4
  have E4 := Lib.hid hen.at_
  have hpl : ps.length ≤ 60 := by rw [mapLen4 hps]; omega
  have RE := Lib.hid (show ∀ p ∈ ps, rightE p.1 = true from fun p hp => LR.out p.1 (by rw [← hps]; exact List.mem_map_of_mem hp))
  have HPS := Lib.hid hps
  have ct4 : w4.cell? ⟨w2.heap.size, 0, none⟩ = some (.pointer (some ⟨g, 0, none⟩)) := (KT.out.below h4 lt3).cell 0
  have lt4 := (KT.out.below h4 lt3).lt
  clear h4 hen hps LI LR ct
  obtain ⟨XA, xc, rfl, _⟩ := E4.out.row
  go_wp2_with fail
  refine (NM.out _ B4.out).mono ?_
  rintro r w5 ⟨v5, rfl, hv, h5⟩
  have B5 := Lib.hid (thenB B4.out h5)
  have E5 := Lib.hid (E4.out.below h5)
  have V5 := Lib.hid hv
  have H45 := Lib.hid h5
  obtain ⟨YA, yc, rfl, hyc⟩ := hv.form
  have W5 := Lib.hid (thenB B3.out B5.out)
  have ct5 : w5.cell? ⟨w2.heap.size, 0, none⟩ = some (.pointer (some ⟨g, 0, none⟩)) := (KT.out.below B5.out lt3).cell 0
  have lt5 := (KT.out.below B5.out lt3).lt
  clear hv h5 NM ct4 lt4
  rcases V5.out.has.ways with ⟨A0, c0, hA0, h0⟩ | ⟨b, off, c3, hv, hc3, _, hb5, hpos, hrow⟩
  · injection hA0 with _ e0 _
    have hl0 : ((N.length : Int) == 0) = true := by rw [h0]; rfl
    clear h0 e0
    go_wp2_with fail
    go_ret
    exact ⟨rfl, W5.out⟩
  injection hv with ea _ ec
  subst ea ec
  have hl0 : ((N.length : Int) == 0) = false := beq_eq_false_iff_ne.2 (by omega)
  have p1 := pickN_lo which N.length (by omega)
  have p2 := pickN_hi which N.length (by omega)
  have PI := Lib.hid (fun w => pick_any which N.length w (by omega) (by omega))
  obtain ⟨k0, hk0⟩ : ∃ k0, k0 = pickN which N.length := ⟨_, rfl⟩
  rw [← hk0] at p1 p2 PI
  obtain ⟨k, rfl⟩ := Int.eq_ofNat_of_zero_le p1
  have q1 := pickN_lo nn 4096 (by omega)
  have q2 := pickN_hi nn 4096 (by omega)
  have PQ := Lib.hid (fun w => pick_any nn 4096 w (by omega) (by omega))
  obtain ⟨q, hq⟩ : ∃ q, q = pickN nn 4096 := ⟨_, rfl⟩
  rw [← hq] at q1 q2 PQ
  have hkl : k < N.length := by omega
  have c0 := hrow k hkl
  have hmemk : N[k] ∈ N := List.getElem_mem hkl
  obtain ⟨ka, hka, har, _, _⟩ := HNAME.out N[k] hmemk
  have law := LAW.out k hkl ka hka q q1 (by omega)
  have HSH := Lib.hid (fun s (hs : s ∈ N) => (show s.length ≤ 1000 from by obtain ⟨_, _, hr, _⟩ := HNAME.out s hs; have := (right_len hr).1; omega))
  obtain ⟨a, ha⟩ : ∃ a, a = N[k] := ⟨_, rfl⟩
  rw [← ha] at c0 hka har law
  have hal := (right_len har).1
  have S1 := Lib.hid (HS.out.act (chmod a q))
  have x1 := (act_nx t (chmod a q)).1
  have D1 := Lib.hid (fun w' (h : TreeAt w' g on of t) (hm : ML w') => do_tree h HS.out (by omega) hm ⟨6, a, [], q, zero⟩ (Nat.zero_le _) (by simp only; omega) (Nat.zero_le _) (Nat.zero_le _) (Nat.zero_le _))
  have hrm : act t ⟨6, a, [], q, zero⟩ = act t (chmod a q) := rfl
  rw [hrm] at D1
  obtain ⟨C1, hC1⟩ : ∃ C, C = act t (chmod a q) := ⟨_, rfl⟩
  rw [← hC1] at D1 S1 x1 law
  obtain ⟨le, m, hml, lno, ly, lcmp⟩ := law
  have e0 : errV C1.2 = .nilIface := by rw [le]; rfl
  rw [e0] at D1
  have LNO := Lib.hid lno
  have LY := Lib.hid ly
  have GB := Lib.hid (fun w' (h : TreeAt w' g on of t) => get_any h (bs a) (fun k hk => by have := (HS.out.short hk).2; omega) (by rw [bs_size]; omega))
  rw [bs_list, getV_of hka] at GB
  obtain ⟨n, hn⟩ : ∃ n, n = t.file ka := ⟨_, rfl⟩
  rw [← hn] at GB lcmp
  have LC := Lib.hid lcmp
  have R5 := Lib.hid hrow
  unfold ndv ndc at GB
  unfold dv dvc zero at D1
  simp only at D1
  have T5 := Lib.hid (HT.out.below B5.out)
  have hkc : (k : Int) < yc := by omega
  clear hk0 hq hka har hrm hC1 le lno ly lcmp e0 hn hrow LAW HNAME hmemk ha
  go_wp2_with fail
  refine (PI.out _).mono ?_
  rintro r w' ⟨rfl, hw⟩
  subst w'
  obtain ⟨w6, hw6⟩ : ∃ x, x = w5.alloc (.cells #[.string (bs a)] 9) := ⟨_, rfl⟩
  have h56 : Below w5.heap.size w5 w6 := by rw [hw6]; exact (Below.refl _ _).alloc (Nat.le_refl _) _
  have B6 := Lib.hid (thenB B5.out h56)
  have H56 := Lib.hid h56
  have KA := Lib.hid (show Blk w6 w5.heap.size 9 #[.string (bs a)] by rw [hw6]; exact Blk.new w5 9 _)
  have T6 := Lib.hid (T5.out.below h56)
  have HW6 := Lib.hid hw6
  have ct6 : w6.cell? ⟨w2.heap.size, 0, none⟩ = some (.pointer (some ⟨g, 0, none⟩)) := (KT.out.below B6.out lt3).cell 0
  have lt6 := (KT.out.below B6.out lt3).lt
  have ca6 : w6.cell? ⟨w5.heap.size, 0, none⟩ = some (.string (bs a)) := KA.out.cell 0
  have la6 := KA.out.lt
  clear hw6 h56
  go_wp2_with fail
  rw [← HW6.out]
  clear HW6
  go_wp2_with fail
  refine (GB.out _ T6.out).mono ?_
  rintro r w7 ⟨rfl, h7⟩
  obtain ⟨w8, hw8⟩ : ∃ x, x = w7.alloc (.cells #[.int .u8 n.kind, .int .i64 n.mode, .int .i64 n.uid, .int .i64 n.gid, .int .i64 n.sec, .int .i64 n.nano, .string (bs n.data), .string (bs n.link), .int .i64 n.major, .int .i64 n.minor] 33) := ⟨_, rfl⟩
  have h78 : Below w7.heap.size w7 w8 := by rw [hw8]; exact (Below.refl _ _).alloc (Nat.le_refl _) _
  have B68 := Lib.hid (thenB h7 h78)
  have B8 := Lib.hid (thenB B6.out B68.out)
  have KN := Lib.hid (show Blk w8 w7.heap.size 33 #[.int .u8 n.kind, .int .i64 n.mode, .int .i64 n.uid, .int .i64 n.gid, .int .i64 n.sec, .int .i64 n.nano, .string (bs n.data), .string (bs n.link), .int .i64 n.major, .int .i64 n.minor] by rw [hw8]; exact Blk.new w7 33 _)
  have T8 := Lib.hid (T6.out.below B68.out)
  have KA8 := Lib.hid (KA.out.below B68.out la6)
  have KT8 := Lib.hid (KT.out.below B8.out lt3)
  have W8 := Lib.hid (thenB B3.out B8.out)
  have H58 := Lib.hid (thenB H56.out B68.out)
  have E8 := Lib.hid (E5.out.below H58.out)
  have R8 := Lib.hid (R5.out.below H58.out hb5)
  have HW8 := Lib.hid hw8
  have hz5 : w2.heap.size ≤ w5.heap.size := by have := B5.out.size; omega
  have hz7 : w2.heap.size ≤ w7.heap.size := by have := h7.size; have := H56.out.size; omega
  have D18 := Lib.hid (D1.out _ T8.out (HM.out.below W8.out))
  have ct8 : w8.cell? ⟨w2.heap.size, 0, none⟩ = some (.pointer (some ⟨g, 0, none⟩)) := KT8.out.cell 0
  have lt8 := KT8.out.lt
  have ca8 : w8.cell? ⟨w5.heap.size, 0, none⟩ = some (.string (bs a)) := KA8.out.cell 0
  have la8 := KA8.out.lt
  clear hw8 h78 h7 ct5 lt5 ct6 lt6 ca6 la6
  go_wp2_with fail
  rw [← HW8.out]
  clear HW8
  go_wp2_with fail
  refine (PQ.out _).mono ?_
  rintro r w' ⟨rfl, hw⟩
  subst w'
  go_wp2_with fail
  refine D18.out.mono ?_
  rintro r w9 ⟨rfl, n9, f9, k1, k2, k3⟩
  have T9 : Hid (TreeAt w9 g n9 f9 C1.1) := Lib.hid k1
  have W9 := Lib.hid (W8.out.trans (k3.down HO.out W8.out.size))
  have E9 := Lib.hid (E8.out.kept T8.out k3)
  have nO := Lib.hid (fun b (h : w2.heap.size ≤ b) => (fun hm => by have := OLT.out b hm; omega : b ∉ own g on of))
  have hz2 := B3.out.size
  have KT9 := Lib.hid (show Blk w9 w2.heap.size 24 #[.pointer (some ⟨g, 0, none⟩)] from (k3.block _ lt8 (nO.out _ (Nat.le_refl _))).trans KT8.out)
  have KA9 := Lib.hid (show Blk w9 w5.heap.size 9 #[.string (bs a)] from (k3.block _ la8 (nO.out _ hz5)).trans KA8.out)
  have KN9 := Lib.hid (show Blk w9 w7.heap.size 33 #[.int .u8 n.kind, .int .i64 n.mode, .int .i64 n.uid, .int .i64 n.gid, .int .i64 n.sec, .int .i64 n.nano, .string (bs n.data), .string (bs n.link), .int .i64 n.major, .int .i64 n.minor] from (k3.block _ KN.out.lt (nO.out _ hz7)).trans KN.out)
  have R9 := Lib.hid (show RowS w9 b off N from fun j hj => by
    have hbz : b < w8.heap.size := Nat.lt_of_lt_of_le hb5 H58.out.size
    have := R8.out j hj
    rw [← this]
    unfold World.cell?
    simp only [k3.block b hbz (T8.out.apartS (R8.out j hj))])
  have hb9 : b < w9.heap.size := Nat.lt_of_lt_of_le (Nat.lt_of_lt_of_le hb5 H58.out.size) k3.size
  clear k1 k2 k3 D18 T8 E8 KT8 KA8 KN R8 ct8 lt8 ca8 la8
  have CM := Lib.hid (differC_any (HM.out.below W9.out) T9.out S1.out (by omega) _ ps E9.out (by omega) RE.out)
  rw [HPS.out, LC.out] at CM
  have ct9 : w9.cell? ⟨w2.heap.size, 0, none⟩ = some (.pointer (some ⟨g, 0, none⟩)) := KT9.out.cell 0
  have lt9 := KT9.out.lt
  go_wp2_with fail
  refine CM.out.mono ?_
  rintro r wa ⟨va, rfl, hva, ha⟩
  have Wa := Lib.hid (thenB W9.out ha)
  have Ha := Lib.hid ha
  have HVA := Lib.hid hva
  obtain ⟨Xa, ca, rfl⟩ := hva.form
  have n1 : wa.cell? ⟨w7.heap.size, 1, none⟩ = some (.int .i64 n.mode) := (KN9.out.below ha KN9.out.lt).cell 1
  have ln1 := (KN9.out.below ha KN9.out.lt).lt
  clear hva ha CM ct9 lt9
  by_cases hmq : n.mode = q
  · have hq1 : (n.mode == q) = true := by rw [hmq]; simp
    rw [if_pos hmq]
    have hz0 : ((([] : List (Nat × Int)).length : Int) == 0) = true := rfl
    clear hmq
    go_wp2_with fail
    go_ret
    exact ⟨rfl, Wa.out⟩
  · have hq1 : (n.mode == q) = false := beq_eq_false_iff_ne.2 hmq
    have hva := HVA.out
    rw [if_neg hmq] at hva ⊢
    have HV2 := Lib.hid hva
    have ctA : wa.cell? ⟨w2.heap.size, 0, none⟩ = some (.pointer (some ⟨g, 0, none⟩)) := (KT9.out.below Ha.out KT9.out.lt).cell 0
    have caA : wa.cell? ⟨w5.heap.size, 0, none⟩ = some (.string (bs a)) := (KA9.out.below Ha.out KA9.out.lt).cell 0
    have IX := Lib.hid (indexS_any (c := yc) (T9.out.below Ha.out) N b off (Nat.lt_of_lt_of_le hb9 Ha.out.size) (R9.out.below Ha.out hb9) (by omega) HSH.out a (by omega) w2.heap.size w5.heap.size ctA caA m hml LNO.out LY.out)
    have hone : ([(m, (3 : Int))] : List (Nat × Int)).length = 1 := rfl
    rw [hone]
    clear hmq hva HVA ctA caA
    go_wp2_with fail
    refine IX.out.mono ?_
    rintro r wb ⟨rfl, hb⟩
    obtain ⟨wc, hwc⟩ : ∃ x, x = wb.alloc (.cells #[.int .i64 (m : Int), .int .i64 3] 60) := ⟨_, rfl⟩
    have hbc : Below wb.heap.size wb wc := by rw [hwc]; exact (Below.refl _ _).alloc (Nat.le_refl _) _
    have Wc := Lib.hid (thenB (thenB Wa.out hb) hbc)
    have D6 := Lib.hid (HV2.out.later (thenB hb hbc))
    have D7 := Lib.hid (show HasD wc wb.heap.size (.slice (some ⟨wb.heap.size, 0, none⟩) 1 1) [(m, 3)] by
      rw [hwc]
      exact World.ownsRow_lit (e := 60) (size := 2) wb #[.int .i64 (m : Int), .int .i64 3] 1 (Nat.le_refl _) (by decide) rfl)
    have EQ := Lib.hid (eqD_same D6.out D7.out (by rw [hone]; omega))
    rw [hone] at EQ
    have HWC := Lib.hid hwc
    clear hb hbc hwc IX n1 ln1
    go_wp2_with fail
    rw [← HWC.out]
    refine EQ.out.mono ?_
    rintro r wd ⟨rfl, hd⟩
    have Wd := Lib.hid (thenB Wc.out hd)
    clear hd
    go_wp2_with fail
    go_ret
    exact ⟨rfl, Wd.out⟩

set_option maxRecDepth 100000 in
theorem differOne_walk {H : Type} {enc : TypeId × Value → H} {w : World} {d1 : DataW H} {p1 : List MemPlace} {base : Nat} (v : Value) (hok1 : Value.okWide Tryz.prog w .any base 22 v)
    (h1 : DataW.Trod enc Tryz.prog w 0 (fun _ => true) true 22 v d1 p1) (hz1 : ∀ n ∈ d1.weights Tryz.prog 22, n ≤ reachBytes)
    (which : Int) (_hw : (Lit.int .i64 which).wf = true) (n : Int) (_hn : (Lit.int .i64 n).wf = true) (hsh : ML w) :
    Calls Tryz.prog 5 #[v, .int .i64 which, .int .i64 n] w fun e w' => e = .returned (.bool true) ∧ Below w.heap.size w w' := by
  obtain ⟨l, hl⟩ := deeds_of hok1 h1 hz1
  exact differOne_main v l which n w hl hsh

end Go.Proofs.YtipajekehbpghaaGreatDoor

/-
  DifferOne: the call returns true for every input, and its arguments read afterwards as before; the card.
-/
namespace Go.Proofs.YtipajekehbpghaaGreatDoor.differOne
open Go.ChangeShapes Go.WideShapes Go.ChangeAt Go.RowKit
open Go.ChangeMaps (open_string shut_string)
set_option linter.unusedVariables false

theorem lo : laidOutB Tryz.prog = true := by kernel_rfl
theorem own : ownKnob Tryz.prog.godebug = none := by kernel_rfl

def leaf : DataW Unit → Value
  | .lit (.int k n) => .int k n
  | _ => .nilIface
def flat : DataW Unit → List Value
  | .agg ds => ds.flatMap fun | .agg es => es.map leaf | d => [leaf d]
  | d => [leaf d]
/-- a world for the witness: the settled one, the listed tables holding what they are listed with -/
noncomputable def laidWorld (os : Os) : World := { World.holding Tryz.prog os ⟨#[], #[], []⟩ with heap := (((World.holding Tryz.prog os ⟨#[], #[], []⟩).heap.modify 2 fun | .cells _ t f => .cells (flat Go.Pinned.utf8First).toArray t f | o => o).modify 3 fun | .cells _ t f => .cells (flat Rows.laid_unicode_utf8_acceptRanges).toArray t f | o => o) }
theorem door_met (os : Os) (args : Array Value) : laidMetH Tryz.prog Rows.differOneRow.laid ((laidWorld os).forCall (fun _ _ => 0) ⟨#[], args, []⟩).memory :=
  laidMetH_of_parts3 (fuel := 8) (laidMet_of_run' 8 (by kernel_rfl) (by kernel_rfl)) (by kernel_rfl) (by kernel_rfl)

set_option maxRecDepth 100000 in
theorem lifted (os : Os) (started : os.Started) (H : Type) (enc : TypeId × Value → H) :
    ReturnsInHanded {} Tryz.checked os 5 .any (fun w args => (Rows.differOneSpec.pre enc Tryz.prog Tryz.f5 Rows.differOneRow.domain false w args ∧ laidMetH Tryz.prog Rows.differOneRow.laid w) ∧ sizedMet enc Tryz.prog Tryz.f5 (OpenSpec.ofChange Rows.differOneSpec) false w args)
      (Rows.differOneSpec.post enc Tryz.prog Tryz.f5 false true false false) := by
  refine and_shaped (C := Tryz.checked) (X := fun w _ => laidMetH Tryz.prog Rows.differOneRow.laid w) (fun _ _ _ hh h => h.of_heap hh) own started (by kernel_rfl) Tryz.func5
    (ChangeSpec.witness_shaped (enc := enc) (C := Tryz.checked) (os := os) (X := fun w _ => laidMetH Tryz.prog Rows.differOneRow.laid w) false (laidWorld os) #[.slice none 0 0, .int .i64 0, .int .i64 0] 8 rfl (World.shaped_of_RefB (by kernel_rfl) (by kernel_rfl)) (by kernel_rfl) (by kernel_rfl) (by kernel_rfl) (door_met os _)) ?_
  intro W base args ds gs before hval0 hW hcnd hsz0 hL hsh _
  have hval : ∀ (j : Nat) t v, Tryz.f5.params[j]? = some t → args[j]? = some v → Value.okWide Tryz.prog W .any base t v := hval0
  have hW' := hW
  obtain ⟨p, q, hA0, hV, rfl, hfz, hnd⟩ := hW
  have hA : DataW.TrodAll enc Tryz.prog W 0 (fun _ => true) true Tryz.f5.params.toList args.toList ds p := hA0
  have hsz : (DataW.weightsEach Tryz.prog (Tryz.f5.params.toList ++ Rows.differOneSpec.plain.varTypes Tryz.prog) (ds ++ gs)).all (· ≤ reachBytes) = true := hsz0
  rw [Tryz.params5] at hA hval hsz
  obtain ⟨v0, vs0, d0, ds0, p0, q0, hargs, rfl, rfl, h0, r0⟩ := trodAll_cons hA
  obtain ⟨v1, vs1, d1, ds1, p1, q1, rfl, rfl, rfl, h1, r1⟩ := trodAll_cons r0
  obtain ⟨v2, vs2, d2, ds2, p2, q2, rfl, rfl, rfl, h2, r2⟩ := trodAll_cons r1
  obtain ⟨rfl, rfl, rfl⟩ := trodAll_nil r2
  obtain rfl : args = #[v0, v1, v2] := by cases args; simp_all
  obtain ⟨rfl, rfl⟩ := trodVars_none hV
  have k0 := hval 0 22 v0 rfl rfl
  obtain ⟨a1, rfl, rfl, rfl, w1⟩ := open_int Tryz.underlying3 (hval 1 3 v1 rfl rfl) h1
  obtain ⟨a2, rfl, rfl, rfl, w2⟩ := open_int Tryz.underlying3 (hval 2 3 v2 rfl rfl) h2
  have z0 : ∀ n ∈ d0.weights Tryz.prog 22, n ≤ reachBytes := fun n hn => by have := List.all_eq_true.1 hsz n (DataW.weights_mem_each (j := 0) (t := 22) rfl rfl n hn); simpa using this
  clear hA0 hval0 hsz0
  refine (differOne_walk v0 k0 h0 z0 a1 w1 a2 w2 (ml_of_shape hsh)).mono fun e W' ⟨he, bel⟩ => ?_
  subst he
  exact ⟨_, rfl, _, _, _, [], _, [], hW', trodAll_mk1 (shut_bool Tryz.underlying4 _), (trodAll_cons_mk (Below.trod lo (by kernel_rfl) (of_decide_eq_true (by kernel_rfl)) h0 bel (fun x hx => by obtain ⟨_, hh⟩ := h0; exact DataW.trod_lt _ _ _ _ hh x hx)) (trodAll_cons_mk (shut_int Tryz.underlying3 w1) (trodAll_cons_mk (shut_int Tryz.underlying3 w2) trodAll_mk0))), rfl, bel.frame _, fun h => by cases h⟩

theorem said : Rows.DifferOneSaid :=
  OpenClaim.holds_of_wide 5 Tryz.f5 rfl rfl rfl rfl rfl rfl rfl ⟨rfl, rfl, rfl, rfl, rfl⟩ rfl rfl rfl rfl rfl (by kernel_rfl) Tryz.func5 (by kernel_rfl)
    (of_decide_eq_true (by kernel_rfl)) (by unfold Func.isWrapper; first | (rw [if_pos (by decide +kernel)]; kernel_rfl) | (rw [if_neg (by decide +kernel)]; exact ⟨rfl, rfl⟩))
    (fun os started H enc _ => lifted os started H enc)

theorem plain (f : FuncId) (fn : Func) (hf : Tryz.pinned.checked.prog.funcNamed "revetment/revetmentkeep.DifferOne" = some f) (hfn : Tryz.pinned.checked.prog.funcs[f]? = some fn) :
    true = Tryz.pinned.checked.prog.looks [] ∧ ∀ (j : Nat) t, fn.params[j]? = some t → Tryz.pinned.checked.prog.wantsStandIn t = false := by
  obtain rfl : f = 5 := Option.some.inj ((show Tryz.prog.funcNamed "revetment/revetmentkeep.DifferOne" = some 5 by kernel_rfl).symm.trans hf) |>.symm
  obtain rfl : fn = Tryz.f5 := (Option.some.inj (Tryz.func5.symm.trans hfn)).symm
  refine ⟨by kernel_rfl, fun j t ht => ?_⟩
  rw [Tryz.params5] at ht
  have hm : t ∈ [22, 3, 3] := by simpa using Array.mem_of_getElem? ht
  have hall : ([22, 3, 3].all fun u => !Tryz.prog.wantsStandIn u) = true := by kernel_rfl
  have hm' : t ∈ [22, 3, 3] := hm
  exact (show Tryz.prog.wantsStandIn t = false by simpa using List.all_eq_true.1 hall t hm')

theorem card : Rows.DifferOneCardSaid :=
  Claim7.holds_tied_plain_at .later [] _ _ _ _ said (fun _ h => by cases h) (by kernel_rfl) (fun _ h => by cases h) differOne_row_tie rfl ⟨rfl, rfl⟩ (by kernel_rfl) rfl plain (by kernel_rfl)
#print axioms card
end Go.Proofs.YtipajekehbpghaaGreatDoor.differOne
