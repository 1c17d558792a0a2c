/-
  differ.Compare: how members differ from a tree.
-/
import Derived.Test.YtipajekehbpghaaGreatDoorZq
import Derived.Test.YtipajekehbpghaaGreatDoorZo
import Derived.Test.YtipajekehbpghaaGreatDoorZm
import Derived.Deep.LoopGhost
import Derived.BigQuiet
import Derived.Deep.QuietTactic
import Derived.Laws.StructEq
import Derived.Test.YtipajekehbpghaaGreatDoorZd
set_option linter.unusedVariables false
set_option linter.unusedSimpArgs false

namespace Go.Proofs.YtipajekehbpghaaGreatDoor
open Go.RowKit Go.Maps Tre Pk

theorem compare_snoc {t : T} {L : List Ent} {i : Nat} (hi : i < L.length) : compareGo t 0 (L.take (i + 1)) = compareGo t 0 (L.take i) ++ (comparedE t L[i]).map fun c => (i, c) := by
  rw [List.take_succ_eq_append_getElem hi, compareGo_app, List.length_take, Nat.min_eq_left (Nat.le_of_lt hi), Nat.zero_add]
  show _ ++ ((comparedE t L[i]).map (fun c => (i, c)) ++ []) = _
  rw [List.append_nil]
theorem compared_len (t : T) (e : Ent) : (comparedE t e).length ≤ 8 := by
  have ht : ∀ b c, (tell b c).length ≤ 1 := fun b c => by unfold tell; split <;> simp
  unfold comparedE
  split
  · simp
  · split
    · simp
    · split
      · split <;> simp
      · split
        · simp
        · rename_i m _ _ _
          unfold diffs
          simp only [List.length_append]
          have a1 := ht (!(m.mode == e.mode)) 3
          have a2 := ht (!(m.uid == e.uid)) 4
          have a3 := ht (!(m.gid == e.gid)) 5
          have a4 := ht (!(m.sec == e.sec && m.nano == e.nano)) 6
          have a5 := ht (!((m.data.length : Int) == e.size)) 7
          have a6 := ht ((m.data.length : Int) == e.size && !(m.data == bytesE e)) 8
          have a7 := ht (!(m.link == e.link)) 9
          have a8 := ht (!(m.major == e.major) || !(m.minor == e.minor)) 10
          omega
theorem compare_len (t : T) : ∀ (l : List Ent) (i : Nat), (compareGo t i l).length ≤ 8 * l.length
  | [], _ => by simp [compareGo]
  | e :: r, i => by
    have h1 := compare_len t r (i + 1)
    have h2 := compared_len t e
    show ((comparedE t e).map (fun c => (i, c)) ++ compareGo t (i + 1) r).length ≤ _
    rw [List.length_append, List.length_map, List.length_cons]
    omega
theorem hasI_kept {w w' : World} {B B2 e s n : Nat} {v v2 : Value} {l : List Int} {xs : List Value} (h : HasI w B v l) (hg : w.grownBy w' v2.ownBlock) (h2 : w.ownsRow B2 e s v2 n xs) (hne : 3 ≠ e) : HasI w' B v l :=
  World.ownsRow.kept h hg (own_apart h h2 hne)
/-- What Compare hands out. -/
def DiffPost (w : World) (l : List (Nat × Int)) (r : Ending) (w' : World) : Prop := ∃ v, r = .returned v ∧ HasD w' w.heap.size v l ∧ Below w.heap.size w w'

set_option maxRecDepth 100000 in
set_option maxHeartbeats 8000000 in
theorem differC_any {w : World} {g : Nat} {on of : Option Nat} {t : T} (hm : ML w) (h : TreeAt w g on of t) (ht : Std t) (hx : t.nx ≤ 100000)
    (v : Value) (ps : List (Ent × Value)) (he : EntsAt w v ps) (hl : ps.length ≤ 100) (hq : ∀ p ∈ ps, rightE p.1 = true) :
    Calls Tryz.prog 29 #[.pointer (some ⟨g, 0, none⟩), v] w (DiffPost w (compare t (ps.map Prod.fst))) := by
  obtain ⟨i0, i1, i2, i3, i4⟩ := info_parts infoDf
  have HEN := Lib.hid he
  have HQ := Lib.hid hq
  have CE := Lib.hid (fun w' (hb : Below w.heap.size w w') (e : Ent) (mv : Value) (hp : Pcs w' mv e.map) (hr : rightE e = true) => compared_any (hm.below hb) (h.below hb) ht hx e mv hp hr)
  obtain ⟨A, cap, hv, hcap, hr⟩ := he.row
  have hli : (ps.length : Int) ≤ 100 := by omega
  obtain ⟨L, hL⟩ : ∃ L, L = ps.map Prod.fst := ⟨_, rfl⟩
  have hLl : L.length = ps.length := by rw [hL, List.length_map]
  have HLL := Lib.hid hLl
  have HLE := Lib.hid hL
  rw [← hL]
  have HR := Lib.hid hr
  have HCL := Lib.hid (fun i => compare_len t (L.take i) 0)
  subst hv
  clear hm h ht hq hr he hLl hL hx
  go_enter Tryz.func29, Tryz.ntmps29
  go_wp2_with fail
  go_loopg [5, 12] (ps.length) (fun gg ov iv wr => ∃ (i : Nat), iv = .int .i64 i ∧ i + gg = ps.length ∧ Hid (HasD wr w.heap.size ov (compareGo t 0 (L.take i))) ∧ Hid (Below w.heap.size w wr))
  case atStart => exact ⟨0, rfl, by omega, Lib.hid (by rw [List.take_zero]; exact HasD.nil _ _), Lib.hid (Below.refl _ _)⟩
  case round =>
    obtain ⟨i, rfl, hg, MD, HW⟩ := hrel
    have HG := Lib.hid hg
    have hil : i ≤ ps.length := by omega
    clear hg
    by_cases hlt : i < ps.length
    · have hlti : (i : Int) < ps.length := by omega
      rcases HR.out with hn | ⟨b, off, rfl, hb, hrow⟩
      · rw [hn] at hlt; cases hlt
      have hEw := HEN.out.below HW.out
      obtain ⟨p, hp⟩ : ∃ p, p = ps[i] := ⟨_, rfl⟩
      have hmem : p ∈ ps := by rw [hp]; exact List.getElem_mem hlt
      have hpc := hEw.pc p hmem
      have hre := HQ.out p hmem
      obtain ⟨E, mv⟩ := p
      have hrw := (hrow.below HW.out hb).at_ hlt hp.symm
      have hiL : i < L.length := by rw [HLL.out]; exact hlt
      have hLi : L[i] = E := by
        have := HLE.out
        subst this
        rw [List.getElem_map, ← hp]
      have hsn := compare_snoc (t := t) hiL
      rw [hLi] at hsn
      have hc8 := compared_len t E
      have hdl := HCL.out i
      rw [List.length_take] at hdl
      have hMd := MD.out
      obtain ⟨U, hU⟩ : ∃ U, U = compareGo t 0 (L.take i) := ⟨_, rfl⟩
      rw [← hU] at hsn hMd hdl
      obtain ⟨n, k, m1, m2, m3, z, sc, na, l, u, gr, mj, mn, d, mp⟩ := E
      obtain ⟨MA0, mcap, hmv, _⟩ := id hpc
      simp only at hmv
      subst hmv
      have hev : ev ⟨n, k, m1, m2, m3, z, sc, na, l, u, gr, mj, mn, d, mp⟩ (.slice MA0 mp.length mcap) = .agg #[.string (bs n), .int .u8 k, .int .i64 m1, .int .i64 m2, .int .i64 m3, .int .i64 z, .int .i64 sc, .int .i64 na, .string (bs l), .string (bs u), .string (bs gr), .int .i64 mj, .int .i64 mn, .string (bs d), .slice MA0 mp.length mcap] := rfl
      have hB := (Below.refl wr.heap.size wr).alloc (Nat.le_refl _) (.cells #[.string (bs n), .int .u8 k, .int .i64 m1, .int .i64 m2, .int .i64 m3, .int .i64 z, .int .i64 sc, .int .i64 na, .string (bs l), .string (bs u), .string (bs gr), .int .i64 mj, .int .i64 mn, .string (bs d), .slice MA0 mp.length mcap] 40)
      have IN := Lib.hid (CE.out _ (thenB HW.out hB) ⟨n, k, m1, m2, m3, z, sc, na, l, u, gr, mj, mn, d, mp⟩ (.slice MA0 mp.length mcap) (hpc.below hB) hre)
      rw [hev] at IN
      obtain ⟨C, hC⟩ : ∃ C, C = comparedE t ⟨n, k, m1, m2, m3, z, sc, na, l, u, gr, mj, mn, d, mp⟩ := ⟨_, rfl⟩
      rw [← hC] at IN hsn hc8
      have HSN := Lib.hid hsn
      have MDF := Lib.hid hMd
      have HB := Lib.hid hB
      have d0 : wr.cell? ⟨b, off + i * 15, none⟩ = some (.string (bs n)) := hrw 0 (by omega)
      have d1 : wr.cell? ⟨b, off + i * 15 + 1, none⟩ = some (.int .u8 k) := hrw 1 (by omega)
      have d2 : wr.cell? ⟨b, off + i * 15 + 2, none⟩ = some (.int .i64 m1) := hrw 2 (by omega)
      have d3 : wr.cell? ⟨b, off + i * 15 + 3, none⟩ = some (.int .i64 m2) := hrw 3 (by omega)
      have d4 : wr.cell? ⟨b, off + i * 15 + 4, none⟩ = some (.int .i64 m3) := hrw 4 (by omega)
      have d5 : wr.cell? ⟨b, off + i * 15 + 5, none⟩ = some (.int .i64 z) := hrw 5 (by omega)
      have d6 : wr.cell? ⟨b, off + i * 15 + 6, none⟩ = some (.int .i64 sc) := hrw 6 (by omega)
      have d7 : wr.cell? ⟨b, off + i * 15 + 7, none⟩ = some (.int .i64 na) := hrw 7 (by omega)
      have d8 : wr.cell? ⟨b, off + i * 15 + 8, none⟩ = some (.string (bs l)) := hrw 8 (by omega)
      have d9 : wr.cell? ⟨b, off + i * 15 + 9, none⟩ = some (.string (bs u)) := hrw 9 (by omega)
      have d10 : wr.cell? ⟨b, off + i * 15 + 10, none⟩ = some (.string (bs gr)) := hrw 10 (by omega)
      have d11 : wr.cell? ⟨b, off + i * 15 + 11, none⟩ = some (.int .i64 mj) := hrw 11 (by omega)
      have d12 : wr.cell? ⟨b, off + i * 15 + 12, none⟩ = some (.int .i64 mn) := hrw 12 (by omega)
      have d13 : wr.cell? ⟨b, off + i * 15 + 13, none⟩ = some (.string (bs d)) := hrw 13 (by omega)
      have d14 : wr.cell? ⟨b, off + i * 15 + 14, none⟩ = some (.slice MA0 mp.length mcap) := hrw 14 (by omega)
      obtain ⟨X, capo, rfl⟩ := MDF.out.form
      have hul : U.length ≤ 800 := by omega
      clear hEw hmem hp hpc hrw hLi hsn hMd hU hev hB hC hrow hre hiL hdl MD
      go_wp2_with fail
      refine IN.out.mono ?_
      rintro en w2 ⟨v2, rfl, hv2, h2⟩
      have B2 := Lib.hid (thenB HB.out h2)
      have V2 := Lib.hid (hv2.mono (B' := w.heap.size) (Nat.le_trans (Nat.le_trans HW.out.size HB.out.size) (Nat.le_refl _)))
      have D2 := Lib.hid (MDF.out.later B2.out)
      have W2 := Lib.hid (thenB HW.out B2.out)
      obtain ⟨XI, ci, rfl, hci⟩ := hv2.form
      have hcii : (C.length : Int) ≤ ci := by omega
      have hc8i : (C.length : Int) ≤ 8 := by omega
      clear hv2 h2 IN d0 d1 d2 d3 d4 d5 d6 d7 d8 d9 d10 d11 d12 d13 d14
      go_wp2_with fail
      go_loopg [5, 21] (C.length) (fun g2 ov jv wr => ∃ (j : Nat), jv = .int .i64 j ∧ j + g2 = C.length ∧ Hid (HasD wr w.heap.size ov (U ++ (C.take j).map fun c => (i, c))) ∧ Hid (HasI wr w.heap.size (.slice XI C.length ci) C) ∧ Hid (Below w.heap.size w wr))
      case atStart => exact ⟨0, rfl, by omega, Lib.hid (by rw [List.take_zero, List.map_nil, List.append_nil]; exact D2.out), V2, W2⟩
      case round =>
        obtain ⟨j, rfl, hg2, MQ, VQ, HQ2⟩ := hrel
        have HG2 := Lib.hid hg2
        have hjl : j ≤ C.length := by omega
        clear hg2
        by_cases hjt : j < C.length
        · have hjti : (j : Int) < C.length := by omega
          obtain ⟨X5, c5, rfl⟩ := MQ.out.form
          rcases VQ.out.ways with ⟨_, h0⟩ | ⟨gi, cg, hvi, _, hgi, _, hcell⟩
          · rw [h0] at hjt; cases hjt
          have cj := hcell j hjt
          injection hvi with ex _ ec
          subst ex ec
          have hnx : C.take (j + 1) = C.take j ++ [C[j]] := List.take_succ_eq_append_getElem hjt
          obtain ⟨q, hq⟩ : ∃ q, q = C[j] := ⟨_, rfl⟩
          rw [← hq] at cj hnx
          have HNX := Lib.hid hnx
          obtain ⟨K, hK⟩ : ∃ K, K = U ++ (C.take j).map fun c => (i, c) := ⟨_, rfl⟩
          have hkl : K.length ≤ 808 := by rw [hK, List.length_append, List.length_map, List.length_take]; omega
          rw [← hK] at MQ ⊢
          have HK := Lib.hid hK
          clear hq hnx hcell hK
          have hz3 := HQ2.out.size
          have hj0 : (0 : Int) ≤ j := by omega
          go_wp2_with (first
            | (at_builtin; refine wpList_append_own _ rfl (.tmp 25) (.tmp 29) 54 rfl w.heap.size 60 i0 _ 2 16 Tryz.underlying54 i1 i2 i3 i4 rfl (by decide) (.slice X5 K.length c5) K.length (dfCells K) rfl (World.ownsRow.alloc MQ.out _) ⟨wr.heap.size, 0, none⟩ 1 1 [.int .i64 (i : Int), .int .i64 q] rfl rfl (new_two wr _ _ _) (by intro u hu; simp at hu; rcases hu with rfl | rfl <;> rfl) (by unfold maxLen; omega) (by omega) (by have := hz3; simp; omega) ?_; intro v9 w9 hown9 hgrow9 _))
          have A9 := Lib.hid (World.ownsRow.alloc MQ.out (.cells #[.int .i64 (i : Int), .int .i64 q] 60))
          have I9 := Lib.hid (VQ.out.later ((Below.refl wr.heap.size wr).alloc (Nat.le_refl _) (.cells #[.int .i64 (i : Int), .int .i64 q] 60)))
          have I99 : Hid (HasI w9 w.heap.size (.slice (some ⟨gi, 0, none⟩) C.length ci) C) := Lib.hid (hasI_kept I9.out hgrow9 A9.out (by decide))
          have B9 := Lib.hid ((HQ2.out.alloc hz3 (.cells #[.int .i64 (i : Int), .int .i64 q] 60)).grown hgrow9 (HQ2.out.alloc hz3 _).size (fun q hq => (World.ownsRow.lt A9.out q hq).1))
          have DD9 : Hid (HasD w9 w.heap.size v9 (U ++ (C.take (j + 1)).map fun c => (i, c))) := Lib.hid (by
            rw [HNX.out, List.map_append, ← List.append_assoc, ← HK.out]
            unfold HasD
            rw [dfCells_app, List.length_append]
            exact hown9)
          clear hown9 hgrow9
          go_roundg (C.length - (j + 1))
          case measure => have := HG2.out; omega
          case rel => exact ⟨j + 1, by go_num, by have := HG2.out; omega, DD9, I99, B9⟩
        · have hjti : ¬ (j : Int) < C.length := by omega
          have hta : C.take j = C := List.take_of_length_le (by omega)
          rw [hta, ← HSN.out] at MQ
          clear hta
          go_wp2_with fail
          go_roundg (ps.length - (i + 1))
          case measure => have := HG.out; omega
          case rel => exact ⟨i + 1, by go_num, by have := HG.out; omega, MQ, HQ2⟩
    · have hlti : ¬ (i : Int) < ps.length := by omega
      have hta : L.take i = L := by rw [List.take_of_length_le (by rw [HLL.out]; omega)]
      rw [hta] at MD
      clear hta
      go_wp2_with fail
      go_ret
      exact ⟨_, rfl, MD.out, HW.out⟩

end Go.Proofs.YtipajekehbpghaaGreatDoor

namespace Go.Proofs.YtipajekehbpghaaGreatDoor
open Go.RowKit Go.Maps Tre Pk

/-- Row b holds differences. -/
def RowDf (w : World) (b : Nat) (l : List (Nat × Int)) : Prop := ∀ (i : Nat) (hi : i < l.length), w.cell? ⟨b, i * 2, none⟩ = some (.int .i64 (l[i].1 : Int)) ∧ w.cell? ⟨b, i * 2 + 1, none⟩ = some (.int .i64 l[i].2)
theorem dfCells_get : ∀ (l : List (Nat × Int)) (i : Nat) (hi : i < l.length), (dfCells l)[i * 2]? = some (.int .i64 (l[i].1 : Int)) ∧ (dfCells l)[i * 2 + 1]? = some (.int .i64 l[i].2)
  | p :: l, 0, _ => ⟨rfl, rfl⟩
  | p :: l, i + 1, hi => by
    have := dfCells_get l i (by simpa using hi)
    have e : dfCells (p :: l) = .int .i64 (p.1 : Int) :: .int .i64 p.2 :: dfCells l := rfl
    rw [e, show (i + 1) * 2 = i * 2 + 1 + 1 by omega]
    exact this
theorem HasD.ways {w : World} {B : Nat} {v : Value} {l : List (Nat × Int)} (h : HasD w B v l) : (v = .slice none 0 0 ∧ l = []) ∨ ∃ g cap, v = .slice (some ⟨g, 0, none⟩) l.length cap ∧ B ≤ g ∧ g < w.heap.size ∧ l.length ≤ cap ∧ RowDf w g l := by
  obtain ⟨h1, hw⟩ := h
  rcases hw with ⟨rfl, h0⟩ | ⟨g, cap, cur, rfl, hB, hg, hc, hm, hcs, ht⟩
  · exact .inl ⟨rfl, List.length_eq_zero_iff.1 h0⟩
  · right
    refine ⟨g, cap, rfl, hB, (Array.getElem?_eq_some_iff.1 hg).1, hc, fun i hi => ?_⟩
    obtain ⟨c1, c2⟩ := dfCells_get l i hi
    rw [← ht, List.getElem?_take, if_pos (by omega), Array.getElem?_toList] at c1 c2
    rw [Blk.cell hg, Blk.cell hg, c1, c2]
    exact ⟨rfl, rfl⟩
theorem diff_neq (w : World) (a b : Int) : (binOp .neq 60 (.agg #[.int .i64 a, .int .i64 b]) (.agg #[.int .i64 a, .int .i64 b])).run Tryz.prog w = .ok (.bool false) w := by
  have h1 := Tryz.underlying3
  have h5 : Tryz.prog.stoodInHeld 60 = false := by kernel_rfl
  rw [run_neq_struct, run_equalIn_agg w 9999 60 _ _ (by kernel_rfl) (by kernel_rfl)]
  simp [go_sem, h1, h5]

set_option maxRecDepth 100000 in
set_option maxHeartbeats 2000000 in
theorem eqD_rows (l : List (Nat × Int)) (b1 c1 b2 c2 : Nat) (w : World) (hb1 : b1 < w.heap.size) (hb2 : b2 < w.heap.size) (h1 : RowDf w b1 l) (h2 : RowDf w b2 l) (hl : l.length ≤ 1000) :
    Calls Tryz.prog 33 #[.slice (some ⟨b1, 0, none⟩) l.length c1, .slice (some ⟨b2, 0, none⟩) l.length c2] w fun e w' => e = .returned (.bool true) ∧ Below w.heap.size w w' := by
  have R1 := Lib.hid h1
  have R2 := Lib.hid h2
  have hli : (l.length : Int) ≤ 1000 := by omega
  clear h1 h2
  go_enter Tryz.func33, Tryz.ntmps33
  go_wp2_with fail
  go_loopg [13] (l.length) (fun g iv wr => ∃ i : Nat, iv = .int .i64 i ∧ i ≤ l.length ∧ g = l.length - i ∧ Below w.heap.size w wr)
  case atStart => exact ⟨0, rfl, by omega, by omega, Below.refl _ _⟩
  case round =>
    obtain ⟨i, rfl, hi, hg, hbw⟩ := hrel
    have HW := Lib.hid hbw
    have HG := Lib.hid hg
    clear hbw hg
    by_cases hil : i < l.length
    · have hii : (i : Int) < l.length := by omega
      have hi0 : (0 : Int) ≤ i := by omega
      obtain ⟨k0, k1⟩ := R1.out i hil
      obtain ⟨m0, m1⟩ := R2.out i hil
      obtain ⟨r, hrd⟩ : ∃ r, r = l[i] := ⟨_, rfl⟩
      rw [← hrd] at k0 k1 m0 m1
      have d0 : wr.cell? ⟨b1, i * 2, none⟩ = some (.int .i64 (r.1 : Int)) := (HW.out.cell (p := ⟨b1, i * 2, none⟩) hb1).trans k0
      have d1 : wr.cell? ⟨b1, i * 2 + 1, none⟩ = some (.int .i64 r.2) := (HW.out.cell (p := ⟨b1, i * 2 + 1, none⟩) hb1).trans k1
      have e0 : wr.cell? ⟨b2, i * 2, none⟩ = some (.int .i64 (r.1 : Int)) := (HW.out.cell (p := ⟨b2, i * 2, none⟩) hb2).trans m0
      have e1 : wr.cell? ⟨b2, i * 2 + 1, none⟩ = some (.int .i64 r.2) := (HW.out.cell (p := ⟨b2, i * 2 + 1, none⟩) hb2).trans m1
      have hq := fun w => diff_neq w (r.1 : Int) r.2
      clear k0 k1 m0 m1 hrd
      go_wp2_with fail
      go_quiet (fail)
      go_wp2_with fail
      go_roundg (l.length - (i + 1))
      case measure => have := HG.out; omega
      case rel => exact ⟨i + 1, by go_num, by omega, by omega, below_drewN HW.out _⟩
    · have hii : (l.length : Int) ≤ i := by omega
      go_wp2_with fail
      go_ret
      exact ⟨rfl, HW.out⟩
theorem eqD_none (A B : Option Addr) (c1 c2 : Nat) (w : World) :
    Calls Tryz.prog 33 #[.slice A 0 c1, .slice B 0 c2] w fun e w' => e = .returned (.bool true) ∧ Below w.heap.size w w' := by
  go_enter Tryz.func33, Tryz.ntmps33
  go_wp2_with fail
  refine wp_loop_rounds 1 ?_
  rw [rounds_succ]
  go_wp2_with fail
  go_ret
  exact ⟨rfl, Below.refl _ _⟩
/-- slices.Equal at two rows of the same differences. -/
theorem eqD_same {w : World} {B C : Nat} {u v : Value} {l : List (Nat × Int)} (h : HasD w B u l) (k : HasD w C v l) (hl : l.length ≤ 1000) :
    Calls Tryz.prog 33 #[u, v] w fun e w' => e = .returned (.bool true) ∧ Below w.heap.size w w' := by
  obtain ⟨X, c1, rfl⟩ := h.form
  obtain ⟨Y, c2, rfl⟩ := k.form
  by_cases h0 : l = []
  · subst h0; exact eqD_none _ _ _ _ _
  · rcases h.ways with ⟨_, h1⟩ | ⟨g1, k1, e1, _, hg1, _, r1⟩
    · exact absurd h1 h0
    rcases k.ways with ⟨_, h1⟩ | ⟨g2, k2, e2, _, hg2, _, r2⟩
    · exact absurd h1 h0
    cases e1
    cases e2
    exact eqD_rows l _ _ _ _ w hg1 hg2 r1 r2 hl

end Go.Proofs.YtipajekehbpghaaGreatDoor

namespace Go.Proofs.YtipajekehbpghaaGreatDoor
open Go.RowKit Go.Maps Tre Pk

/-- What is listed under a name. -/
def Told (f : Lit → Option Value) (l : List Ent) : Prop := ∀ s, (f (.string s)).isSome = l.any fun e => Pth.clean e.name == s
theorem Told.nil : Told (fun _ => none) [] := fun _ => rfl
theorem Told.snoc {f : Lit → Option Value} {l : List Ent} (h : Told f l) (e : Ent) (v : Value) : Told (setF f (.string (Pth.clean e.name)) v) (l ++ [e]) := fun s => by
  rw [List.any_append]
  have hs : setF f (.string (Pth.clean e.name)) v (.string s) = if s = Pth.clean e.name then some v else f (.string s) := by
    unfold setF
    simp [Lit.sameKey]
  rw [hs]
  by_cases hc : s = Pth.clean e.name
  · rw [if_pos hc, hc]; simp
  · rw [if_neg hc, h s]
    simp [show ¬ Pth.clean e.name = s from fun x => hc x.symm]
theorem more_take {t : T} {l : List Ent} {j : Nat} (hj : j < t.names.length) : (t.names.take (j + 1)).filter (fun s => !(l.any fun e => Pth.clean e.name == s)) = (t.names.take j).filter (fun s => !(l.any fun e => Pth.clean e.name == s)) ++ (if (l.any fun e => Pth.clean e.name == t.names[j]) = true then [] else [t.names[j]]) := by
  rw [List.take_succ_eq_append_getElem hj, List.filter_append]
  congr 1
  by_cases h : (l.any fun e => Pth.clean e.name == t.names[j]) = true
  · rw [if_pos h, List.filter_cons_of_neg (by simp [h])]; rfl
  · rw [if_neg h, List.filter_cons_of_pos (by simpa using h)]; rfl

set_option maxRecDepth 100000 in
set_option maxHeartbeats 8000000 in
theorem moreD_any {w : World} {g : Nat} {on of : Option Nat} {t : T} (hm : ML w) (h : TreeAt w g on of t) (ht : Std t)
    (v : Value) (ps : List (Ent × Value)) (he : EntsAt w v ps) (hl : ps.length ≤ 100) (hq : ∀ p ∈ ps, p.1.name.length ≤ 1000) :
    Calls Tryz.prog 43 #[.pointer (some ⟨g, 0, none⟩), v] w fun r w' => ∃ v', r = .returned v' ∧ HasT w' w.heap.size v' (more t (ps.map Prod.fst)) ∧ Below w.heap.size w w' := by
  obtain ⟨i0, i1, i2, i3, i4⟩ := info_parts infoTx
  have HM := Lib.hid hm
  have HEN := Lib.hid he
  have HQ := Lib.hid hq
  have NM := Lib.hid (fun w' (hb : Below w.heap.size w w') => names_any (h.below hb) ht (hm.below hb))
  have hln : t.names.length ≤ 60 := by rw [names_len]; exact ht.cn
  have HNA := Lib.hid (fun s (hs : s ∈ t.names) => (show s.length ≤ 120 from by obtain ⟨_, _, hr, _⟩ := ht.name hs; exact (right_len hr).1))
  obtain ⟨A, cap, hv, hcap, hr⟩ := he.row
  have hli : (ps.length : Int) ≤ 100 := by omega
  obtain ⟨L, hL⟩ : ∃ L, L = ps.map Prod.fst := ⟨_, rfl⟩
  have hLl : L.length = ps.length := by rw [hL, List.length_map]
  have HLL := Lib.hid hLl
  have HLE := Lib.hid hL
  rw [← hL]
  have HR := Lib.hid hr
  have hmore : more t L = t.names.filter fun s => !(L.any fun e => Pth.clean e.name == s) := rfl
  have MT := Lib.hid (fun j hj => more_take (t := t) (l := L) (j := j) hj)
  obtain ⟨N, hN⟩ : ∃ N, N = t.names := ⟨_, rfl⟩
  rw [← hN] at hmore hln
  rw [← hN] at NM HNA MT
  obtain ⟨R, hR⟩ : ∃ R, R = more t L := ⟨_, rfl⟩
  rw [← hR] at hmore ⊢
  have HMO := Lib.hid hmore
  subst hv
  have M0 := Lib.hid (MapF.made w Tryz.prog 9)
  have B0 := Lib.hid ((Below.refl w.heap.size w).alloc (Nat.le_refl _) (.map #[] 0))
  have T0 := Lib.hid Told.nil
  clear hm h ht hq hr he hLl hL hmore hR hN
  have hmm := @run_makeMap Tryz.prog
  go_enter Tryz.func43, Tryz.ntmps43
  go_wp2_with fail
  go_loopg [18] (ps.length) (fun gg iv wr => ∃ (i : Nat) (f : Lit → Option Value) (n : Nat), iv = .int .i64 i ∧ i + gg = ps.length ∧ Hid (MapF wr Tryz.prog 9 w.heap.size f n) ∧ n ≤ i ∧ Hid (Told f (L.take i)) ∧ Hid (Below w.heap.size w wr))
  case atStart => exact ⟨0, _, 0, rfl, by omega, M0, Nat.le_refl _, Lib.hid (by rw [List.take_zero]; exact Told.nil), B0⟩
  case round =>
    obtain ⟨i, f, cnt, rfl, hg, MF, hcnt, TD, HW⟩ := hrel
    have HG := Lib.hid hg
    have hil : i ≤ ps.length := by omega
    clear hg M0 B0 T0
    by_cases hlt : i < ps.length
    · have hlti : (i : Int) < ps.length := by omega
      rcases HR.out with hn | ⟨b, off, rfl, hb, hrow⟩
      · rw [hn] at hlt; cases hlt
      have hEw := HEN.out.below HW.out
      obtain ⟨p, hp⟩ : ∃ p, p = ps[i] := ⟨_, rfl⟩
      have hmem : p ∈ ps := by rw [hp]; exact List.getElem_mem hlt
      have hpc := hEw.pc p hmem
      have hre := HQ.out p hmem
      obtain ⟨E, mv⟩ := p
      have hrw := (hrow.below HW.out hb).at_ hlt hp.symm
      have hiL : i < L.length := by rw [HLL.out]; exact hlt
      have hLi : L[i] = E := by
        have := HLE.out
        subst this
        rw [List.getElem_map, ← hp]
      have hts : L.take (i + 1) = L.take i ++ [E] := by rw [List.take_succ_eq_append_getElem hiL, hLi]
      have HTS := Lib.hid hts
      have TS := Lib.hid (TD.out.snoc E (.int .i64 (i : Int)))
      obtain ⟨n, k, m1, m2, m3, z, sc, na, l, u, gr, mj, mn, d, mp⟩ := E
      obtain ⟨MA0, mcap, hmv, _⟩ := id hpc
      simp only at hmv hre
      subst hmv
      have hB := (Below.refl wr.heap.size wr).alloc (Nat.le_refl _) (.cells #[.string (bs n), .int .u8 k, .int .i64 m1, .int .i64 m2, .int .i64 m3, .int .i64 z, .int .i64 sc, .int .i64 na, .string (bs l), .string (bs u), .string (bs gr), .int .i64 mj, .int .i64 mn, .string (bs d), .slice MA0 mp.length mcap] 40)
      have lcn := Pth.clean_len n
      have C1 := Lib.hid (clean_any (bs n) _ (by rw [bs_size]; omega) (HM.out.below (thenB HW.out hB)))
      rw [bs_list] at C1
      simp only at TS
      obtain ⟨a, ha⟩ : ∃ a, a = Pth.clean n := ⟨_, rfl⟩
      rw [← ha] at C1 lcn TS
      have HB := Lib.hid hB
      have d0 : wr.cell? ⟨b, off + i * 15, none⟩ = some (.string (bs n)) := hrw 0 (by omega)
      have d1 : wr.cell? ⟨b, off + i * 15 + 1, none⟩ = some (.int .u8 k) := hrw 1 (by omega)
      have d2 : wr.cell? ⟨b, off + i * 15 + 2, none⟩ = some (.int .i64 m1) := hrw 2 (by omega)
      have d3 : wr.cell? ⟨b, off + i * 15 + 3, none⟩ = some (.int .i64 m2) := hrw 3 (by omega)
      have d4 : wr.cell? ⟨b, off + i * 15 + 4, none⟩ = some (.int .i64 m3) := hrw 4 (by omega)
      have d5 : wr.cell? ⟨b, off + i * 15 + 5, none⟩ = some (.int .i64 z) := hrw 5 (by omega)
      have d6 : wr.cell? ⟨b, off + i * 15 + 6, none⟩ = some (.int .i64 sc) := hrw 6 (by omega)
      have d7 : wr.cell? ⟨b, off + i * 15 + 7, none⟩ = some (.int .i64 na) := hrw 7 (by omega)
      have d8 : wr.cell? ⟨b, off + i * 15 + 8, none⟩ = some (.string (bs l)) := hrw 8 (by omega)
      have d9 : wr.cell? ⟨b, off + i * 15 + 9, none⟩ = some (.string (bs u)) := hrw 9 (by omega)
      have d10 : wr.cell? ⟨b, off + i * 15 + 10, none⟩ = some (.string (bs gr)) := hrw 10 (by omega)
      have d11 : wr.cell? ⟨b, off + i * 15 + 11, none⟩ = some (.int .i64 mj) := hrw 11 (by omega)
      have d12 : wr.cell? ⟨b, off + i * 15 + 12, none⟩ = some (.int .i64 mn) := hrw 12 (by omega)
      have d13 : wr.cell? ⟨b, off + i * 15 + 13, none⟩ = some (.string (bs d)) := hrw 13 (by omega)
      have d14 : wr.cell? ⟨b, off + i * 15 + 14, none⟩ = some (.slice MA0 mp.length mcap) := hrw 14 (by omega)
      have hkey := strK (bs a) (by rw [bs_size]; unfold maxLen; omega)
      rw [bs_list] at hkey
      have hmx : cnt < maxLen := by unfold maxLen; omega
      clear hEw hmem hp hpc hrw hLi hB hrow hre hiL ha hts
      go_wp2_with fail
      refine C1.out.mono ?_
      rintro en w2 ⟨rfl, h2⟩
      have B2 := Lib.hid (thenB HB.out h2)
      have W2 := Lib.hid (thenB HW.out B2.out)
      have MF2 := Lib.hid (MF.out.below B2.out)
      clear h2 C1 d0 d1 d2 d3 d4 d5 d6 d7 d8 d9 d10 d11 d12 d13 d14
      go_wp2_with (first | (refine wpList_f_store rfl (.tmp 29) (.tmp 30) (.tmp 31) 68 rfl 3 strL Tryz.underlying68 MF2.out hmx rfl (.string (bs a)) (.int .i64 (i : Int)) (.string a) rfl rfl hkey ?_; intro w9 hm9 hg9 hs9; have M9 := Lib.hid hm9; have B9 := Lib.hid (W2.out.grown hg9 W2.out.size (fun q hq => by cases hq; exact Nat.le_refl _)); clear hm9 hg9 hs9))
      go_roundg (ps.length - (i + 1))
      case measure => have := HG.out; omega
      case rel => exact ⟨i + 1, _, _, by go_num, by have := HG.out; omega, M9, by split <;> omega, Lib.hid (by rw [HTS.out]; exact TS.out), B9⟩
    · have hlti : ¬ (i : Int) < ps.length := by omega
      have hta : L.take i = L := by rw [List.take_of_length_le (by rw [HLL.out]; omega)]
      rw [hta] at TD
      clear hta
      go_wp2_with fail
      refine (NM.out _ HW.out).mono ?_
      rintro en w3 ⟨v3, rfl, hv3, h3⟩
      have W3 := Lib.hid (thenB HW.out h3)
      have MF3 := Lib.hid (MF.out.below h3)
      have hs := hv3.has
      clear hv3 h3
      have hlni : (N.length : Int) ≤ 60 := by omega
      obtain ⟨YA, yc, rfl, hyc, hyr⟩ := hs
      have HYR := Lib.hid hyr
      have hyci : (N.length : Int) ≤ yc := by omega
      clear hyr
      go_wp2_with fail
      go_loopg [10, 36] (N.length) (fun gg ov jv wr => ∃ (j : Nat), jv = .int .i64 j ∧ j + gg = N.length ∧ Hid (HasT wr w3.heap.size ov ((N.take j).filter fun s => !(L.any fun e => Pth.clean e.name == s))) ∧ Hid (Below w3.heap.size w3 wr))
      case atStart => exact ⟨0, rfl, by omega, Lib.hid (by rw [List.take_zero]; exact World.ownsRow_nil _ _ _ _), Lib.hid (Below.refl _ _)⟩
      case round =>
        obtain ⟨j, rfl, hg, MD, HX⟩ := hrel
        have HG2 := Lib.hid hg
        have hjl : j ≤ N.length := by omega
        clear hg
        by_cases hjt : j < N.length
        · have hjti : (j : Int) < N.length := by omega
          rcases HYR.out with h0 | ⟨b, off, rfl, _, hb3, hys⟩
          · rw [h0] at hjt; cases hjt
          have hsn := MT.out j hjt
          have hmem : N[j] ∈ N := List.getElem_mem hjt
          have hsl := HNA.out _ hmem
          have cs : wr.cell? ⟨b, off + j, none⟩ = some (.string (bs N[j])) := (HX.out.cell (p := ⟨b, off + j, none⟩) hb3).trans (hys j hjt)
          have hfl : ((N.take j).filter fun s => !(L.any fun e => Pth.clean e.name == s)).length ≤ 60 := Nat.le_trans (List.length_filter_le _ _) (by rw [List.length_take]; omega)
          obtain ⟨s, hs⟩ : ∃ s, s = N[j] := ⟨_, rfl⟩
          rw [← hs] at hsn hsl cs
          have hkey := strK (bs s) (by rw [bs_size]; unfold maxLen; omega)
          rw [bs_list] at hkey
          have MFX := Lib.hid (MF3.out.below HX.out)
          obtain ⟨K, hK⟩ : ∃ K, K = (N.take j).filter fun s => !(L.any fun e => Pth.clean e.name == s) := ⟨_, rfl⟩
          rw [← hK] at hsn hfl MD
          have htold := TD.out s
          rw [← htold] at hsn
          have HSN := Lib.hid hsn
          obtain ⟨X5, c5, rfl, hc5⟩ := MD.out.form
          obtain ⟨r, hr⟩ : ∃ r, r = f (.string s) := ⟨_, rfl⟩
          have HRR := Lib.hid hr.symm
          rw [← hr] at HSN
          have hz := HX.out.size
          have hj0 : (0 : Int) ≤ j := by omega
          clear hs hK hsn htold hr hmem hys
          cases r with
          | some x =>
            have hsn := HSN.out
            simp only [Option.isSome_some, if_true, List.append_nil] at hsn
            have HS2 := Lib.hid hsn
            clear hsn
            go_wp2_with (first | (refine wpList_f_look_ok rfl (.tmp 41) (.tmp 42) 68 rfl 3 strL Tryz.underlying68 intZero MFX.out rfl (.string (bs s)) (.string s) rfl hkey _ HRR.out ?_))
            go_roundg (N.length - (j + 1))
            case measure => have := HG2.out; omega
            case rel => exact ⟨j + 1, by go_num, by have := HG2.out; omega, Lib.hid (by rw [HS2.out]; exact MD.out), HX⟩
          | none =>
            have hsn := HSN.out
            simp only [Option.isSome_none, Bool.false_eq_true, if_false] at hsn
            have HS2 := Lib.hid hsn
            clear hsn
            go_wp2_with (first
              | (refine wpList_f_look_ok rfl (.tmp 41) (.tmp 42) 68 rfl 3 strL Tryz.underlying68 intZero MFX.out rfl (.string (bs s)) (.string s) rfl hkey _ HRR.out ?_)
              | (at_builtin; refine wpList_append_own _ rfl (.tmp 48) (.tmp 50) 28 rfl w3.heap.size 9 i0 _ 1 16 Tryz.underlying28 i1 i2 i3 i4 rfl (by decide) (.slice X5 K.length c5) K.length (txCells K) rfl (World.ownsRow.alloc MD.out _) ⟨wr.heap.size, 0, none⟩ 1 1 [.string (bs s)] rfl rfl (new_text rfl _ _) (by intro u hu; simp at hu; subst hu; rfl) (by unfold maxLen; omega) (by omega) (by simp; omega) ?_; intro v9 w9 hown9 hgrow9 _))
            have A9 := Lib.hid (World.ownsRow.alloc MD.out (.cells #[.string (bs s)] 9))
            have B9 := Lib.hid ((HX.out.alloc hz (.cells #[.string (bs s)] 9)).grown hgrow9 (HX.out.alloc hz _).size (fun q hq => (World.ownsRow.lt A9.out q hq).1))
            have D9 := Lib.hid (HasT.pushed hown9)
            clear hown9 hgrow9
            go_roundg (N.length - (j + 1))
            case measure => have := HG2.out; omega
            case rel => exact ⟨j + 1, by go_num, by have := HG2.out; omega, Lib.hid (by rw [HS2.out]; exact D9.out), B9⟩
        · have hjti : ¬ (j : Int) < N.length := by omega
          have hta : N.take j = N := List.take_of_length_le (by omega)
          rw [hta, ← HMO.out] at MD
          clear hta
          go_wp2_with fail
          go_ret
          exact ⟨_, rfl, MD.out.mono W3.out.size, thenB W3.out HX.out⟩

end Go.Proofs.YtipajekehbpghaaGreatDoor

namespace Pk
open Pth Tre
def ce1 : Ent := ⟨[97], 48, 1, 0, 0, 1, 0, 0, [], [], [], 0, 0, [120], []⟩
def ce2 : Ent := ⟨[97], 48, 2, 0, 0, 1, 0, 0, [], [], [], 0, 0, [121], []⟩
def cf2 : Ent := ⟨[98], 54, 0, 0, 0, 0, 0, 0, [], [], [], 0, 0, [], []⟩
def ct1 : T := (into none_ ce1).1
set_option maxRecDepth 100000 in
theorem cr1 : (into none_ ce1).2 = 0 := by decide
set_option maxRecDepth 100000 in
theorem cc1 : compare ct1 [ce2, cf2] = [(0, 3), (0, 8), (1, 1)] := by decide
theorem cs1 : Std ct1 := Std.into Std.none_ _
theorem cn1 : ct1.nx ≤ 124 := by have h := into_nx none_ ce1; have h0 : none_.nx = 0 := rfl; rw [h0] at h; exact h
set_option maxRecDepth 100000 in
theorem cR2 : rightE ce2 = true := by decide
set_option maxRecDepth 100000 in
theorem cRf : rightE cf2 = true := by decide
end Pk
namespace Go.Proofs.YtipajekehbpghaaGreatDoor
open Go.RowKit Go.Maps Tre Pk

theorem okc1 : EntOk ce1 := ⟨by decide, by decide, by decide, by decide, by decide⟩

set_option maxRecDepth 100000 in
set_option maxHeartbeats 8000000 in
theorem comparedF_any (w : World) (hm : ML w) : Calls Tryz.prog 26 #[] w fun e w' => e = .returned (.bool true) ∧ Below w.heap.size w w' := by
  have HM := Lib.hid hm
  obtain ⟨W1, hW1⟩ : ∃ W, W = w.alloc (.cells #[.map none, .map none, .int .i64 0] 71) := ⟨_, rfl⟩
  obtain ⟨W2, hW2⟩ : ∃ W, W = W1.alloc (.cells #[.string ⟨#[97]⟩, .int .u8 48, .int .i64 1, .int .i64 0, .int .i64 0, .int .i64 1, .int .i64 0, .int .i64 0, .string ⟨#[]⟩, .string ⟨#[]⟩, .string ⟨#[]⟩, .int .i64 0, .int .i64 0, .string ⟨#[120]⟩, .slice none 0 0, .string ⟨#[98]⟩, .int .u8 54, .int .i64 0, .int .i64 0, .int .i64 0, .int .i64 0, .int .i64 0, .int .i64 0, .string ⟨#[]⟩, .string ⟨#[]⟩, .string ⟨#[]⟩, .int .i64 0, .int .i64 0, .string ⟨#[]⟩, .slice none 0 0] 40) := ⟨_, rfl⟩
  have hs1 : W1.heap.size = w.heap.size + 1 := by rw [hW1]; simp
  have hs2 : W2.heap.size = w.heap.size + 2 := by rw [hW2]; simp [hs1]
  have B1 := Lib.hid (show Below w.heap.size w W1 by rw [hW1]; exact (Below.refl _ _).alloc (Nat.le_refl _) _)
  have B12 := Lib.hid (show Below W1.heap.size W1 W2 by rw [hW2]; exact (Below.refl _ _).alloc (Nat.le_refl _) _)
  have B2 := Lib.hid (thenB B1.out B12.out)
  have T1 := Lib.hid (show TreeAt W1 w.heap.size none none none_ by rw [hW1]; exact empty_tree w)
  have T2 := Lib.hid (T1.out.below B12.out)
  have L2 := Lib.hid (show Blk W2 (w.heap.size + 1) 40 #[.string ⟨#[97]⟩, .int .u8 48, .int .i64 1, .int .i64 0, .int .i64 0, .int .i64 1, .int .i64 0, .int .i64 0, .string ⟨#[]⟩, .string ⟨#[]⟩, .string ⟨#[]⟩, .int .i64 0, .int .i64 0, .string ⟨#[120]⟩, .slice none 0 0, .string ⟨#[98]⟩, .int .u8 54, .int .i64 0, .int .i64 0, .int .i64 0, .int .i64 0, .int .i64 0, .int .i64 0, .string ⟨#[]⟩, .string ⟨#[]⟩, .string ⟨#[]⟩, .int .i64 0, .int .i64 0, .string ⟨#[]⟩, .slice none 0 0] by rw [hW2, ← hs1]; exact Blk.new W1 40 #[.string ⟨#[97]⟩, .int .u8 48, .int .i64 1, .int .i64 0, .int .i64 0, .int .i64 1, .int .i64 0, .int .i64 0, .string ⟨#[]⟩, .string ⟨#[]⟩, .string ⟨#[]⟩, .int .i64 0, .int .i64 0, .string ⟨#[120]⟩, .slice none 0 0, .string ⟨#[98]⟩, .int .u8 54, .int .i64 0, .int .i64 0, .int .i64 0, .int .i64 0, .int .i64 0, .int .i64 0, .string ⟨#[]⟩, .string ⟨#[]⟩, .string ⟨#[]⟩, .int .i64 0, .int .i64 0, .string ⟨#[]⟩, .slice none 0 0])
  have HW2 := Lib.hid (show W2 = (w.alloc (.cells #[.map none, .map none, .int .i64 0] 71)).alloc (.cells #[.string ⟨#[97]⟩, .int .u8 48, .int .i64 1, .int .i64 0, .int .i64 0, .int .i64 1, .int .i64 0, .int .i64 0, .string ⟨#[]⟩, .string ⟨#[]⟩, .string ⟨#[]⟩, .int .i64 0, .int .i64 0, .string ⟨#[120]⟩, .slice none 0 0, .string ⟨#[98]⟩, .int .u8 54, .int .i64 0, .int .i64 0, .int .i64 0, .int .i64 0, .int .i64 0, .int .i64 0, .string ⟨#[]⟩, .string ⟨#[]⟩, .string ⟨#[]⟩, .int .i64 0, .int .i64 0, .string ⟨#[]⟩, .slice none 0 0] 40) by rw [hW2, hW1])
  have e0 : errV 0 = .nilIface := rfl
  have I1 := Lib.hid (into_any (hm.below B2.out) T2.out Std.none_ (by simp [none_]) ce1 (.slice none 0 0) (pcs_nul _) okc1)
  rw [cr1, e0, show (into none_ ce1).1 = ct1 from rfl] at I1
  unfold ev evc at I1
  simp only [ce1] at I1
  clear hm hW1 hW2
  go_enter Tryz.func26, Tryz.ntmps26
  go_wp2_with fail
  rw [← HW2.out]
  refine I1.out.mono ?_
  rintro e w3 ⟨rfl, n3, f3, k1, k2, k3⟩
  have T3 : Hid (TreeAt w3 w.heap.size n3 f3 ct1) := Lib.hid k1
  have O3 := Lib.hid (show ∀ b ∈ own w.heap.size n3 f3, b ≠ w.heap.size + 1 from fun b hb => by
    rcases k2 b hb with h | h
    · simp [own] at h; omega
    · omega)
  have B3 := Lib.hid (B2.out.trans (k3.down (B := w.heap.size) (fun b hb => by simp [own] at hb; omega) (by omega)))
  have L3 := Lib.hid (show Blk w3 (w.heap.size + 1) 40 #[.string ⟨#[97]⟩, .int .u8 48, .int .i64 1, .int .i64 0, .int .i64 0, .int .i64 1, .int .i64 0, .int .i64 0, .string ⟨#[]⟩, .string ⟨#[]⟩, .string ⟨#[]⟩, .int .i64 0, .int .i64 0, .string ⟨#[120]⟩, .slice none 0 0, .string ⟨#[98]⟩, .int .u8 54, .int .i64 0, .int .i64 0, .int .i64 0, .int .i64 0, .int .i64 0, .int .i64 0, .string ⟨#[]⟩, .string ⟨#[]⟩, .string ⟨#[]⟩, .int .i64 0, .int .i64 0, .string ⟨#[]⟩, .slice none 0 0] from (k3.block (w.heap.size + 1) (by omega) (by simp [own])).trans L2.out)
  clear k1 k2 k3 I1
  have L3b := Lib.hid (show Blk (w3.setCell ⟨w.heap.size + 1, 2, none⟩ (.int .i64 2)) (w.heap.size + 1) 40 (#[.string ⟨#[97]⟩, .int .u8 48, .int .i64 1, .int .i64 0, .int .i64 0, .int .i64 1, .int .i64 0, .int .i64 0, .string ⟨#[]⟩, .string ⟨#[]⟩, .string ⟨#[]⟩, .int .i64 0, .int .i64 0, .string ⟨#[120]⟩, .slice none 0 0, .string ⟨#[98]⟩, .int .u8 54, .int .i64 0, .int .i64 0, .int .i64 0, .int .i64 0, .int .i64 0, .int .i64 0, .string ⟨#[]⟩, .string ⟨#[]⟩, .string ⟨#[]⟩, .int .i64 0, .int .i64 0, .string ⟨#[]⟩, .slice none 0 0].setIfInBounds 2 (.int .i64 2)) from L3.out.set_ 2 _)
  obtain ⟨W4, hW4⟩ : ∃ W, W = (w3.setCell ⟨w.heap.size + 1, 2, none⟩ (.int .i64 2)).setCell ⟨w.heap.size + 1, 13, none⟩ (.string ⟨#[121]⟩) := ⟨_, rfl⟩
  have L4 := Lib.hid (show Blk W4 (w.heap.size + 1) 40 #[.string ⟨#[97]⟩, .int .u8 48, .int .i64 2, .int .i64 0, .int .i64 0, .int .i64 1, .int .i64 0, .int .i64 0, .string ⟨#[]⟩, .string ⟨#[]⟩, .string ⟨#[]⟩, .int .i64 0, .int .i64 0, .string ⟨#[121]⟩, .slice none 0 0, .string ⟨#[98]⟩, .int .u8 54, .int .i64 0, .int .i64 0, .int .i64 0, .int .i64 0, .int .i64 0, .int .i64 0, .string ⟨#[]⟩, .string ⟨#[]⟩, .string ⟨#[]⟩, .int .i64 0, .int .i64 0, .string ⟨#[]⟩, .slice none 0 0] by rw [hW4]; exact L3b.out.set_ 13 (.string ⟨#[121]⟩))
  have B4 := Lib.hid (show Below w.heap.size w W4 by rw [hW4]; exact (B3.out.setCell (p := ⟨w.heap.size + 1, 2, none⟩) (by show w.heap.size ≤ w.heap.size + 1; omega) _).setCell (p := ⟨w.heap.size + 1, 13, none⟩) (by show w.heap.size ≤ w.heap.size + 1; omega) _)
  have T4 := Lib.hid (show TreeAt W4 w.heap.size n3 f3 ct1 by
    rw [hW4]
    refine T3.out.kept (by simp [World.setCell]) fun b hb => ?_
    rw [Below.heap_setCell _ ⟨w.heap.size + 1, 13, none⟩ _ b (O3.out b hb), Below.heap_setCell _ ⟨w.heap.size + 1, 2, none⟩ _ b (O3.out b hb)])
  have HW4 := Lib.hid hW4
  have c2 := L3.out.cell 2
  have f2 := L3.out.frozen 2
  have c13 := L3b.out.cell 13
  have f13 := L3b.out.frozen 13
  have lt3 := L3.out.lt
  have lt3b := L3b.out.lt
  simp only [List.getElem?_toArray, List.getElem?_cons_zero, List.getElem?_cons_succ, List.setIfInBounds_toArray, List.set_cons_zero, List.set_cons_succ] at c2 c13
  have EA := Lib.hid (show EntsAt W4 (.slice (some ⟨w.heap.size + 1, 0, none⟩) 2 2) [(ce2, .slice none 0 0), (cf2, .slice none 0 0)] from by
    refine ⟨⟨_, 2, rfl, Nat.le_refl _, .inr ⟨w.heap.size + 1, 0, rfl, L4.out.lt, fun j hj k hk => ?_⟩⟩, fun p hp => ?_⟩
    · have h2 : j = 0 ∨ j = 1 := by simp at hj; omega
      rcases h2 with rfl | rfl
      · rw [show 0 + 0 * 15 + k = k by omega, L4.out.cell k]
        have : k = 0 ∨ k = 1 ∨ k = 2 ∨ k = 3 ∨ k = 4 ∨ k = 5 ∨ k = 6 ∨ k = 7 ∨ k = 8 ∨ k = 9 ∨ k = 10 ∨ k = 11 ∨ k = 12 ∨ k = 13 ∨ k = 14 := by omega
        rcases this with rfl | rfl | rfl | rfl | rfl | rfl | rfl | rfl | rfl | rfl | rfl | rfl | rfl | rfl | rfl <;> rfl
      · rw [L4.out.cell]
        have : k = 0 ∨ k = 1 ∨ k = 2 ∨ k = 3 ∨ k = 4 ∨ k = 5 ∨ k = 6 ∨ k = 7 ∨ k = 8 ∨ k = 9 ∨ k = 10 ∨ k = 11 ∨ k = 12 ∨ k = 13 ∨ k = 14 := by omega
        rcases this with rfl | rfl | rfl | rfl | rfl | rfl | rfl | rfl | rfl | rfl | rfl | rfl | rfl | rfl | rfl <;> rfl
    · rcases List.mem_cons.1 hp with rfl | hp
      · exact pcs_nul _
      · rw [List.mem_singleton.1 hp]; exact pcs_nul _)
  have CM := Lib.hid (differC_any (HM.out.below B4.out) T4.out cs1 (by have := cn1; omega) _ _ EA.out (by decide) (fun p hp => by
    rcases List.mem_cons.1 hp with rfl | hp
    · exact cR2
    · rw [List.mem_singleton.1 hp]; exact cRf))
  rw [show [(ce2, Value.slice none 0 0), (cf2, Value.slice none 0 0)].map Prod.fst = [ce2, cf2] from rfl, cc1] at CM
  clear hW4 L3 L3b
  go_wp2_with fail
  rw [← HW4.out]
  refine CM.out.mono ?_
  rintro e w5 ⟨v5, rfl, hv5, h5⟩
  have B5 := Lib.hid (thenB B4.out h5)
  obtain ⟨w6, hw6⟩ : ∃ W, W = w5.alloc (.cells #[.int .i64 0, .int .i64 3, .int .i64 0, .int .i64 8, .int .i64 1, .int .i64 1] 60) := ⟨_, rfl⟩
  have B56 := Lib.hid (show Below w5.heap.size w5 w6 by rw [hw6]; exact (Below.refl _ _).alloc (Nat.le_refl _) _)
  have B6 := Lib.hid (thenB B5.out B56.out)
  have D5 := Lib.hid (hv5.later B56.out)
  have D6 := Lib.hid (show HasD w6 w5.heap.size (.slice (some ⟨w5.heap.size, 0, none⟩) 3 3) [(0, 3), (0, 8), (1, 1)] by
    rw [hw6]
    exact World.ownsRow_lit (e := 60) (size := 2) w5 #[.int .i64 0, .int .i64 3, .int .i64 0, .int .i64 8, .int .i64 1, .int .i64 1] 3 (Nat.le_refl _) (by decide) rfl)
  have EQ := Lib.hid (eqD_same D5.out D6.out (by decide))
  have HW6 := Lib.hid hw6
  obtain ⟨X5, c5, rfl⟩ := hv5.form
  clear hv5 h5 hw6 c2 f2 c13 f13 lt3 lt3b CM
  go_wp2_with fail
  rw [← HW6.out]
  refine EQ.out.mono ?_
  rintro e w7 ⟨rfl, h7⟩
  have B7 := Lib.hid (thenB B6.out h7)
  clear h7
  go_wp2_with fail
  go_ret
  exact ⟨rfl, B7.out⟩

end Go.Proofs.YtipajekehbpghaaGreatDoor
