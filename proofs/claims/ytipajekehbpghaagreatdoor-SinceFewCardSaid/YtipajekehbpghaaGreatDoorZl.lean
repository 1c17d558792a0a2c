/-
  pack.into: a member is put into a tree; after an error the tree can be changed.
-/
import Derived.Test.YtipajekehbpghaaGreatDoorZh
import Derived.Test.YtipajekehbpghaaGreatDoorZj
import Derived.Test.YtipajekehbpghaaGreatDoorZb
import Derived.Test.YtipajekehbpghaaGreatDoorZk
import Derived.Laws.Rows
import Derived.Laws.ResultCell
set_option linter.unusedVariables false
set_option linter.unusedSimpArgs false

namespace Go.Proofs.YtipajekehbpghaaGreatDoor
open Go.RowKit Go.Maps Tre Pk

theorem cell_map {w : World} {K : TypeId} {b n : Nat} {f : Lit → Option Value} (h : MapF w Tryz.prog K b f n) (o : Nat) : w.cell? ⟨b, o, none⟩ = none := by
  obtain ⟨D, ⟨es, clock, hb, _⟩, _⟩ := h
  unfold World.cell?
  rw [hb]
/-- Pieces lie in none of a tree's blocks. -/
theorem TreeAt.apartP {w : World} {g : Nat} {on of : Option Nat} {t : T} (h : TreeAt w g on of t) {b off : Nat} {x y : Int} (h1 : w.cell? ⟨b, off, none⟩ = some (.int .i64 x)) (h2 : w.cell? ⟨b, off + 1, none⟩ = some (.int .i64 y)) : b ∉ own g on of := by
  intro hm
  rcases List.mem_cons.1 hm with rfl | hm
  · rw [h.blk.cell] at h1 h2
    rcases off with _ | _ | _ | off
    · simp at h1
    · simp at h1
    · simp at h2
    · simp at h1
  · rcases List.mem_append.1 hm with hm | hm
    · have e : on = some b := by simpa [eq_comm] using hm
      have hn := h.nm
      rw [e] at hn
      rw [cell_map hn] at h1; cases h1
    · have e : of = some b := by simpa [eq_comm] using hm
      obtain ⟨nf, hf, _⟩ := h.fl
      rw [e] at hf
      rw [cell_map hf] at h1; cases h1
theorem Pcs.kept {w w' : World} {g : Nat} {on of : Option Nat} {t : T} {v : Value} {ps : List (Int × Int)} (h : Pcs w v ps) (ht : TreeAt w g on of t) (k : Kept (own g on of) w w') : Pcs w' v ps := by
  obtain ⟨A, cap, e, hc⟩ := h
  refine ⟨A, cap, e, fun j hj => ?_⟩
  obtain ⟨b, off, ea, hb, h1, h2⟩ := hc j hj
  have hn := ht.apartP h1 h2
  have hk := k.block b hb hn
  refine ⟨b, off, ea, Nat.lt_of_lt_of_le hb k.size, ?_, ?_⟩
  · rw [← h1]; unfold World.cell?; simp only [hk]
  · rw [← h2]; unfold World.cell?; simp only [hk]

set_option maxRecDepth 100000 in
set_option maxHeartbeats 8000000 in
theorem into0_any {w0 w : World} {g : Nat} {on of : Option Nat} {t : T} (hm : ML w0) (h0 : Below w0.heap.size w0 w) (hO : ∀ b ∈ own g on of, w0.heap.size ≤ b) (h : TreeAt w g on of t) (ht : Std t) (hx : t.nx ≤ 80000)
    (e : Ent) (mv : Value) (hp : Pcs w mv e.map) (hk : e.kind ≤ 255) (hd : e.data.length ≤ 140737488351232) (hl : e.map.length ≤ 1000000000000) (hz : e.size ≤ 9223372036854775807) (hn : e.name.length ≤ 140737488351232) :
    Calls Tryz.prog 67 #[.pointer (some ⟨g, 0, none⟩), ev e mv] w fun en w' => en = .returned (errV (into0 t e).2) ∧ Turned w g on of (into0 t e).1 w' := by
  have B1 := Lib.hid ((Below.refl w.heap.size w).alloc (Nat.le_refl _) (.cells (evc e mv) 40))
  have KB := Lib.hid (Blk.new w 40 (evc e mv))
  have MR := Lib.hid (memRight_any e mv _ (hp.below B1.out) hk hd hl hz hn)
  have HT := Lib.hid h
  have HS := Lib.hid ht
  have HM := Lib.hid hm
  have H0 := Lib.hid h0
  have HO := Lib.hid hO
  have HP := Lib.hid hp
  have HX := Lib.hid hx
  have HR := Lib.hid (fun (h : rightE e = true) => right_ent h)
  have hin : into0 t e = if rightE e = false then (t, 1) else if Pth.cleanOk e.name = false then (t, 5) else if Pth.clean e.name = [] ∧ e.kind = 53 then (t, 0)
    else if Pth.right (Pth.clean e.name) = false then (t, 5)
    else if e.kind ≠ 49 then
      (if (cleared t (Pth.clean e.name) (e.kind == 53)).2 ≠ 0 then cleared t (Pth.clean e.name) (e.kind == 53) else placed (cleared t (Pth.clean e.name) (e.kind == 53)).1 (Pth.clean e.name) e)
    else if (Pk.linked t e).2 ≠ 0 then (t, (Pk.linked t e).2)
    else if t.alike (Pth.clean e.name) (Pk.linked t e).1 = true then (t, 0)
    else if (cleared t (Pth.clean e.name) false).2 ≠ 0 then cleared t (Pth.clean e.name) false
    else act (cleared t (Pth.clean e.name) false).1 ⟨2, (Pk.linked t e).1, Pth.clean e.name, 0, Tre.zero⟩ := rfl
  obtain ⟨R, hR⟩ : ∃ R, R = into0 t e := ⟨_, rfl⟩
  rw [← hR] at hin ⊢
  have HI := Lib.hid hin
  obtain ⟨E, hE⟩ : ∃ E, E = e := ⟨_, rfl⟩
  rw [← hE] at HI HR HP
  have HE := Lib.hid hE
  obtain ⟨n, k, m1, m2, m3, z, sc, na, l, u, gr, mj, mn, d, mp⟩ := e
  have hev : ev ⟨n, k, m1, m2, m3, z, sc, na, l, u, gr, mj, mn, d, mp⟩ mv = .agg #[.string (bs n), .int .u8 k, .int .i64 m1, .int .i64 m2, .int .i64 m3, .int .i64 z, .int .i64 sc, .int .i64 na, .string (bs l), .string (bs u), .string (bs gr), .int .i64 mj, .int .i64 mn, .string (bs d), mv] := rfl
  have hevc : evc ⟨n, k, m1, m2, m3, z, sc, na, l, u, gr, mj, mn, d, mp⟩ mv = #[.string (bs n), .int .u8 k, .int .i64 m1, .int .i64 m2, .int .i64 m3, .int .i64 z, .int .i64 sc, .int .i64 na, .string (bs l), .string (bs u), .string (bs gr), .int .i64 mj, .int .i64 mn, .string (bs d), mv] := rfl
  rw [hev] at MR ⊢
  rw [hevc] at B1 KB MR
  rw [← hE] at MR
  obtain ⟨rt, hrt⟩ : ∃ rt, rt = rightE E := ⟨_, rfl⟩
  rw [← hrt] at MR
  have HRT := Lib.hid hrt
  have NM := Lib.hid (show E.name = n by rw [hE])
  have NK := Lib.hid (show E.kind = k by rw [hE])
  have LE := Lib.hid (show ev E mv = .agg #[.string (bs n), .int .u8 k, .int .i64 m1, .int .i64 m2, .int .i64 m3, .int .i64 z, .int .i64 sc, .int .i64 na, .string (bs l), .string (bs u), .string (bs gr), .int .i64 mj, .int .i64 mn, .string (bs d), mv] by rw [hE]; rfl)
  have q53 : ((k : Int) == 53) = (k == 53) := kindB k 53
  clear hin hR hE hev hevc hrt h ht hm h0 hO hp hx hd hl hz hn
  go_enter Tryz.func67, Tryz.ntmps67
  go_wp2_with fail
  refine MR.out.mono ?_
  rintro en w1 ⟨rfl, h1⟩
  have B2 := Lib.hid (thenB B1.out h1)
  have K2 := Lib.hid (KB.out.below h1 KB.out.lt)
  clear h1 MR
  cases rt with
  | false =>
    have er : R = (t, 1) := by rw [HI.out, if_pos HRT.out.symm]
    subst er
    go_wp2_with fail
    go_ret
    exact ⟨rfl, Turned.still HT.out B2.out⟩
  | true =>
    have hI := HI.out
    rw [if_neg (by rw [← HRT.out]; simp)] at hI
    obtain ⟨r1, r2, r3, r4⟩ := HR.out HRT.out.symm
    have hcl := Pth.clean_len E.name
    rw [NM.out] at r1 hcl
    have CL := Lib.hid (clean_any (bs n) w1 (by rw [bs_size]; omega) ((HM.out.below H0.out).below B2.out))
    rw [bs_list] at CL
    obtain ⟨c, hc⟩ : ∃ c, c = Pth.clean n := ⟨_, rfl⟩
    obtain ⟨ok, hok⟩ : ∃ ok, ok = Pth.cleanOk n := ⟨_, rfl⟩
    rw [NM.out, NK.out, ← hc, ← hok] at hI
    rw [← hc, ← hok] at CL
    rw [← hc] at hcl
    have RT := Lib.hid (fun w' (hb : Below w.heap.size w w') => right_any (bs c) w' (by rw [bs_size]; omega) ((HM.out.below H0.out).below hb))
    rw [bs_list] at RT
    have HI2 := Lib.hid hI
    have HF := Lib.hid r4
    have hlc : c.length ≤ 121 := by omega
    have kc := (K2.out); have c0 := kc.cell 0; have c1 := kc.cell 1; have c2 := kc.cell 2; have c3 := kc.cell 3; have c4 := kc.cell 4; have c5 := kc.cell 5; have c6 := kc.cell 6; have c7 := kc.cell 7; have c8 := kc.cell 8; have c9 := kc.cell 9; have c10 := kc.cell 10; have c11 := kc.cell 11; have c12 := kc.cell 12; have c13 := kc.cell 13; have c14 := kc.cell 14; have lk := kc.lt; simp only [List.getElem?_toArray, List.getElem?_cons_zero, List.getElem?_cons_succ] at c0 c1 c2 c3 c4 c5 c6 c7 c8 c9 c10 c11 c12 c13 c14; clear kc
    clear hI hc hok hcl r1 r3 r4
    go_wp2_with fail
    refine CL.out.mono ?_
    rintro en w2 ⟨rfl, h2⟩
    have B3 := Lib.hid (thenB B2.out h2)
    have K3 := Lib.hid (K2.out.below h2 lk)
    clear c0 c1 c2 c3 c4 c5 c6 c7 c8 c9 c10 c11 c12 c13 c14 lk
    clear h2 CL
    cases ok with
    | false =>
      have er : R = (t, 5) := by rw [HI2.out, if_pos rfl]
      subst er
      go_wp2_with fail
      go_ret
      exact ⟨rfl, Turned.still HT.out B3.out⟩
    | true =>
      have hI := HI2.out
      rw [if_neg (by simp)] at hI
      by_cases c0 : c = []
      focus
        have hde : (bs c).toList.isEmpty = true := by rw [List.isEmpty_iff]; exact (str_nil c).2 c0
        have hdn : (bs c).toList = [] := (str_nil c).2 c0
        have hr0 : Pth.right c = false := by rw [c0]; decide
        have c1 := K3.out.cell 1
        have lk := K3.out.lt
        simp only [List.getElem?_toArray, List.getElem?_cons_zero, List.getElem?_cons_succ] at c1
        by_cases h53 : k = 53
        · rw [if_pos ⟨c0, h53⟩] at hI
          have e53 : ((k : Int) == 53) = true := by rw [q53]; simpa using h53
          subst hI
          clear q53 h53 c0 HI HI2
          go_wp2_with fail
          go_ret
          exact ⟨rfl, Turned.still HT.out B3.out⟩
        · rw [if_neg (fun h => h53 h.2), if_pos hr0] at hI
          have e53 : ((k : Int) == 53) = false := by rw [q53]; simpa using h53
          rw [hr0] at RT
          subst hI
          clear q53 h53 c0 HI HI2 hr0
          go_wp2_with fail
          refine (RT.out _ B3.out).mono ?_
          rintro en w3 ⟨rfl, h3⟩
          have B4 := Lib.hid (thenB B3.out h3)
          clear h3
          go_wp2_with fail
          go_ret
          exact ⟨rfl, Turned.still HT.out B4.out⟩
      have hde : (bs c).toList.isEmpty = false := by rw [← Bool.not_eq_true, List.isEmpty_iff]; exact fun e => c0 ((str_nil c).1 e)
      have hdn : ¬ (bs c).toList = [] := fun e => c0 ((str_nil c).1 e)
      rw [if_neg (fun h => c0 h.1)] at hI
      obtain ⟨rc, hrc⟩ : ∃ rc, rc = Pth.right c := ⟨_, rfl⟩
      rw [← hrc] at hI RT
      have HRC := Lib.hid hrc
      have HI3 := Lib.hid hI
      clear c0 hI HI HI2 hrc
      go_wp2_with fail
      refine (RT.out _ B3.out).mono ?_
      rintro en w3 ⟨rfl, h3⟩
      have B4 := Lib.hid (thenB B3.out h3)
      have K4 := Lib.hid (K3.out.below h3 K3.out.lt)
      clear h3 RT
      cases rc with
      | false =>
        have er : R = (t, 5) := by rw [HI3.out, if_pos rfl]
        subst er
        go_wp2_with fail
        go_ret
        exact ⟨rfl, Turned.still HT.out B4.out⟩
      | true =>
        have hI := HI3.out
        rw [if_neg (by simp)] at hI
        have T4 := Lib.hid (HT.out.below B4.out)
        have H4 := Lib.hid (thenB H0.out B4.out)
        have P4 := Lib.hid (HP.out.below B4.out)
        clear HI3
        by_cases h49 : k = 49
        rotate_left
        focus
          rw [if_pos h49] at hI
          obtain ⟨dir, hdir⟩ : ∃ dir, dir = (k == 53) := ⟨_, rfl⟩
          rw [← hdir] at hI q53
          have e49 : ((k : Int) != 49) = true := by rw [bne_iff_ne]; omega
          have CW := Lib.hid (cleared_any HM.out H4.out HO.out T4.out HS.out (by have := HX.out; omega) c HRC.out.symm dir)
          have CN := Lib.hid (cleared_nx (t := t) HRC.out.symm dir)
          obtain ⟨C, hC⟩ : ∃ C, C = cleared t c dir := ⟨_, rfl⟩
          rw [← hC] at CW CN hI
          have HC := Lib.hid hC
          have HI4 := Lib.hid hI
          have kc := (K4.out); have c0 := kc.cell 0; have c1 := kc.cell 1; have c2 := kc.cell 2; have c3 := kc.cell 3; have c4 := kc.cell 4; have c5 := kc.cell 5; have c6 := kc.cell 6; have c7 := kc.cell 7; have c8 := kc.cell 8; have c9 := kc.cell 9; have c10 := kc.cell 10; have c11 := kc.cell 11; have c12 := kc.cell 12; have c13 := kc.cell 13; have c14 := kc.cell 14; have lk := kc.lt; simp only [List.getElem?_toArray, List.getElem?_cons_zero, List.getElem?_cons_succ] at c0 c1 c2 c3 c4 c5 c6 c7 c8 c9 c10 c11 c12 c13 c14; clear kc
          clear hI hC hdir h49
          go_wp2_with fail
          refine CW.out.mono ?_
          rintro en w4 ⟨rfl, n1, f1, k1, k2, k3⟩
          have K5 := Lib.hid (Kept.blk K4.out k3 (fun hm => by have := HT.out.lt _ hm; omega))
          have U5 := Lib.hid (Turned.from HT.out B4.out ⟨n1, f1, k1, k2, k3⟩)
          have T5 := Lib.hid k1
          have H5 := Lib.hid (H4.out.trans (k3.down HO.out H4.out.size))
          have P5 := Lib.hid (P4.out.kept T4.out k3)
          have OW5 := Lib.hid (show ∀ x ∈ own g n1 f1, x ∈ own g on of ∨ w.heap.size ≤ x from fun x hx => (k2 x hx).elim .inl (fun hh => .inr (Nat.le_trans B4.out.size hh)))
          have O5 := Lib.hid (show ∀ x ∈ own g n1 f1, w0.heap.size ≤ x from fun x hx => (k2 x hx).elim (HO.out x) (fun hh => Nat.le_trans H4.out.size hh))
          have KP5 := Lib.hid ((Kept.of_below B4.out).trans k3)
          clear c0 c1 c2 c3 c4 c5 c6 c7 c8 c9 c10 c11 c12 c13 c14 lk
          clear k1 k2 k3 CW
          by_cases hc : C.2 = 0
          rotate_left
          · have e1 : errV C.2 = .iface 89 (.int .i64 C.2) := if_neg hc
            have er : R = C := by rw [HI4.out, if_pos hc]
            have HE1 := Lib.hid e1
            rw [e1]
            subst er
            clear e1 hc
            go_wp2_with fail
            go_ret
            exact ⟨by rw [HE1.out]; rfl, U5.out⟩
          have e1 : errV C.2 = .nilIface := by rw [hc]; rfl
          have er : R = placed C.1 c E := by rw [HI4.out, if_neg (by simp [hc])]
          have SC : Std C.1 := by rw [HC.out]; exact Std.cleared HS.out _ _
          obtain ⟨g1, g2, g3, g4⟩ := node_right HF.out
          obtain ⟨g5, g6⟩ := filled_data HF.out
          have PL := Lib.hid (placed_any HM.out H5.out O5.out T5.out SC (by have := HX.out; have := CN.out; omega) c (by omega) E mv P5.out (by omega) (by omega) (by rw [NK.out]; exact hk) (filled_sparse HF.out) g1 (by rw [g2, NK.out]; exact hk) (by rw [g3]; have := HR.out HRT.out.symm; omega) (by omega))
          rw [LE.out, ← er] at PL
          rw [e1]
          have kc := (K5.out); have c0 := kc.cell 0; have c1 := kc.cell 1; have c2 := kc.cell 2; have c3 := kc.cell 3; have c4 := kc.cell 4; have c5 := kc.cell 5; have c6 := kc.cell 6; have c7 := kc.cell 7; have c8 := kc.cell 8; have c9 := kc.cell 9; have c10 := kc.cell 10; have c11 := kc.cell 11; have c12 := kc.cell 12; have c13 := kc.cell 13; have c14 := kc.cell 14; have lk := kc.lt; simp only [List.getElem?_toArray, List.getElem?_cons_zero, List.getElem?_cons_succ] at c0 c1 c2 c3 c4 c5 c6 c7 c8 c9 c10 c11 c12 c13 c14; clear kc
          clear e1 hc er SC g1 g2 g3 g4 g5 g6
          go_wp2_with fail
          refine PL.out.mono ?_
          rintro en w5 ⟨rfl, h5⟩
          have U6 := Lib.hid (Turned.next OW5.out KP5.out h5)
          clear c0 c1 c2 c3 c4 c5 c6 c7 c8 c9 c10 c11 c12 c13 c14 lk
          clear h5 PL
          go_wp2_with fail
          go_ret
          exact ⟨rfl, U6.out⟩
        focus
          rw [if_neg (by simp [h49])] at hI
          have e49 : ((k : Int) != 49) = false := by rw [bne_eq_false_iff_eq]; omega
          have LKD := Lib.hid (linked_any T4.out HS.out (by have := HX.out; omega) (HM.out.below H4.out) E mv (by have := (HR.out HRT.out.symm).2.1; omega))
          obtain ⟨L, hL⟩ : ∃ L, L = Pk.linked t E := ⟨_, rfl⟩
          rw [← hL] at LKD hI
          rw [LE.out] at LKD
          have HL := Lib.hid hL
          have HI4 := Lib.hid hI
          have kc := (K4.out); have c0 := kc.cell 0; have c1 := kc.cell 1; have c2 := kc.cell 2; have c3 := kc.cell 3; have c4 := kc.cell 4; have c5 := kc.cell 5; have c6 := kc.cell 6; have c7 := kc.cell 7; have c8 := kc.cell 8; have c9 := kc.cell 9; have c10 := kc.cell 10; have c11 := kc.cell 11; have c12 := kc.cell 12; have c13 := kc.cell 13; have c14 := kc.cell 14; have lk := kc.lt; simp only [List.getElem?_toArray, List.getElem?_cons_zero, List.getElem?_cons_succ] at c0 c1 c2 c3 c4 c5 c6 c7 c8 c9 c10 c11 c12 c13 c14; clear kc
          clear hI hL h49 q53
          go_wp2_with fail
          refine LKD.out.mono ?_
          rintro en w4 ⟨rfl, h4⟩
          have B5 := Lib.hid (thenB B4.out h4)
          have T5 := Lib.hid (T4.out.below h4)
          have H5 := Lib.hid (thenB H4.out h4)
          have K5 := Lib.hid (K4.out.below h4 lk)
          clear c0 c1 c2 c3 c4 c5 c6 c7 c8 c9 c10 c11 c12 c13 c14 lk
          clear h4 LKD
          by_cases hc : L.2 = 0
          rotate_left
          · have e1 : errV L.2 = .iface 89 (.int .i64 L.2) := if_neg hc
            have er : R = (t, L.2) := by rw [HI4.out, if_pos hc]
            have HE1 := Lib.hid e1
            rw [e1]
            subst er
            clear e1 hc
            go_wp2_with fail
            go_ret
            exact ⟨by rw [HE1.out]; rfl, Turned.still HT.out B5.out⟩
          have e1 : errV L.2 = .nilIface := by rw [hc]; rfl
          have hI := HI4.out
          rw [if_neg (by simp [hc])] at hI
          have hll : L.1.length ≤ 121 := by
            have := Pth.clean_len E.link
            have := (HR.out HRT.out.symm).2.1
            rw [HL.out]; unfold Pk.linked
            repeat' split
            all_goals first | (simp; done) | (simp only; omega)
          have AL := Lib.hid (alike_any T5.out (bs c) (bs L.1) (by rw [bs_size]; omega) (by rw [bs_size]; omega))
          rw [bs_list, bs_list] at AL
          obtain ⟨al, hal⟩ : ∃ al, al = t.alike c L.1 := ⟨_, rfl⟩
          rw [← hal] at AL hI
          rw [e1]
          have HI5 := Lib.hid hI
          clear hal hI hc HI4 e1
          go_wp2_with fail
          refine AL.out.mono ?_
          rintro en w' ⟨rfl, hw⟩
          subst w'
          cases al with
          | true =>
            have er : R = (t, 0) := by rw [HI5.out, if_pos rfl]
            subst er
            go_wp2_with fail
            go_ret
            exact ⟨rfl, Turned.still HT.out B5.out⟩
          | false =>
            have hI := HI5.out
            rw [if_neg (by simp)] at hI
            have CW := Lib.hid (cleared_any HM.out H5.out HO.out T5.out HS.out (by have := HX.out; omega) c HRC.out.symm false)
            have CN := Lib.hid (cleared_nx (t := t) HRC.out.symm false)
            obtain ⟨C, hC⟩ : ∃ C, C = cleared t c false := ⟨_, rfl⟩
            rw [← hC] at CW CN hI
            have HC := Lib.hid hC
            have HI6 := Lib.hid hI
            clear hI hC HI5 AL
            go_wp2_with fail
            refine CW.out.mono ?_
            rintro en w5 ⟨rfl, n1, f1, k1, k2, k3⟩
            have U6 := Lib.hid (Turned.from HT.out B5.out ⟨n1, f1, k1, k2, k3⟩)
            have T6 := Lib.hid k1
            have H6 := Lib.hid (H5.out.trans (k3.down HO.out H5.out.size))
            have OW6 := Lib.hid (show ∀ x ∈ own g n1 f1, x ∈ own g on of ∨ w.heap.size ≤ x from fun x hx => (k2 x hx).elim .inl (fun hh => .inr (Nat.le_trans B5.out.size hh)))
            have KP6 := Lib.hid ((Kept.of_below B5.out).trans k3)
            clear k1 k2 k3 CW
            by_cases hc : C.2 = 0
            rotate_left
            · have e1 : errV C.2 = .iface 89 (.int .i64 C.2) := if_neg hc
              have er : R = C := by rw [HI6.out, if_pos hc]
              have HE1 := Lib.hid e1
              rw [e1]
              subst er
              clear e1 hc
              go_wp2_with fail
              go_ret
              exact ⟨by rw [HE1.out]; rfl, U6.out⟩
            have e1 : errV C.2 = .nilIface := by rw [hc]; rfl
            have er : R = act C.1 ⟨2, L.1, c, 0, Tre.zero⟩ := by rw [HI6.out, if_neg (by simp [hc])]
            have SC : Std C.1 := by rw [HC.out]; exact Std.cleared HS.out _ _
            have DO := Lib.hid (do_tree T6.out SC (by have := HX.out; have := CN.out; omega) (HM.out.below H6.out) ⟨2, L.1, c, 0, Tre.zero⟩ (Nat.zero_le _) (by show L.1.length ≤ 10000; omega) (by show c.length ≤ 10000; omega) (Nat.zero_le _) (Nat.zero_le _))
            rw [← er] at DO
            unfold dv dvc zero at DO
            simp only at DO
            rw [e1]
            clear e1 hc er SC
            go_wp2_with fail
            refine DO.out.mono ?_
            rintro en w6 ⟨rfl, h6⟩
            have U7 := Lib.hid (Turned.next OW6.out KP6.out h6)
            clear h6 DO
            go_wp2_with fail
            go_ret
            exact ⟨rfl, U7.out⟩

end Go.Proofs.YtipajekehbpghaaGreatDoor

namespace Go.Proofs.YtipajekehbpghaaGreatDoor
open Go.RowKit Go.Maps Tre Pk

/-- Row b from off on holds the members ps. -/
def RowE (W : World) (b off : Nat) (ps : List (Ent × Value)) : Prop := ∀ (j : Nat) (hj : j < ps.length) (k : Nat), k < 15 → W.cell? ⟨b, off + j * 15 + k, none⟩ = (evc ps[j].1 ps[j].2)[k]?
theorem RowE.below {W W' : World} {b off D : Nat} {ps : List (Ent × Value)} (h : RowE W b off ps) (hb : Below D W W') (hD : b < D) : RowE W' b off ps := fun j hj k hk => (hb.cell (p := ⟨b, off + j * 15 + k, none⟩) hD).trans (h j hj k hk)
/-- A slice of members that can be read, and their pieces. -/
structure EntsAt (W : World) (v : Value) (ps : List (Ent × Value)) : Prop where
  row : ∃ A cap, v = .slice A ps.length cap ∧ ps.length ≤ cap ∧ (ps = [] ∨ ∃ b off, A = some ⟨b, off, none⟩ ∧ b < W.heap.size ∧ RowE W b off ps)
  pc : ∀ p ∈ ps, Pcs W p.2 p.1.map
theorem EntsAt.below {W W' : World} {v : Value} {ps : List (Ent × Value)} (h : EntsAt W v ps) (hb : Below W.heap.size W W') : EntsAt W' v ps := by
  obtain ⟨⟨A, cap, e, hc, hr⟩, hp⟩ := h
  refine ⟨⟨A, cap, e, hc, hr.imp id fun ⟨b, off, ea, hlt, hr⟩ => ⟨b, off, ea, Nat.lt_of_lt_of_le hlt hb.size, hr.below hb hlt⟩⟩, fun p hm => (hp p hm).below hb⟩
theorem EntsIn.at_ {w : World} {B : Nat} {v : Value} {ps : List (Ent × Value)} (h : EntsIn w B v ps) : EntsAt w v ps := by
  refine ⟨?_, fun p hm => (h.pc p hm).pcs⟩
  rcases h.ways with ⟨rfl, rfl⟩ | ⟨g, cap, rfl, _, hg, hc, _, _, hcell⟩
  · exact ⟨none, 0, rfl, Nat.le_refl _, .inl rfl⟩
  · refine ⟨_, cap, rfl, hc, .inr ⟨g, 0, rfl, hg, fun j hj k hk => ?_⟩⟩
    rw [Nat.zero_add]
    exact hcell j hj k hk
/-- A member's first cell is a text's: it lies in none of a tree's blocks. -/
theorem TreeAt.apartS {w : World} {g : Nat} {on of : Option Nat} {t : T} (h : TreeAt w g on of t) {b off : Nat} {x : ByteArray} (h1 : w.cell? ⟨b, off, none⟩ = some (.string x)) : b ∉ own g on of := by
  intro hm
  rcases List.mem_cons.1 hm with rfl | hm
  · rw [h.blk.cell] at h1
    rcases off with _ | _ | _ | off <;> simp at h1
  · rcases List.mem_append.1 hm with hm | hm
    · have e : on = some b := by simpa [eq_comm] using hm
      have hn := h.nm
      rw [e] at hn
      rw [cell_map hn] at h1; cases h1
    · have e : of = some b := by simpa [eq_comm] using hm
      obtain ⟨nf, hf, _⟩ := h.fl
      rw [e] at hf
      rw [cell_map hf] at h1; cases h1
theorem EntsAt.kept {w w' : World} {g : Nat} {on of : Option Nat} {t : T} {v : Value} {ps : List (Ent × Value)} (h : EntsAt w v ps) (ht : TreeAt w g on of t) (k : Kept (own g on of) w w') : EntsAt w' v ps := by
  obtain ⟨⟨A, cap, e, hc, hr⟩, hp⟩ := h
  refine ⟨⟨A, cap, e, hc, ?_⟩, fun p hm => (hp p hm).kept ht k⟩
  rcases hr with h0 | ⟨b, off, ea, hlt, hr⟩
  · exact .inl h0
  · by_cases h0 : ps = []
    · exact .inl h0
    · have hpos := List.length_pos_iff.2 h0
      have hn : b ∉ own g on of := ht.apartS (hr 0 hpos 0 (by omega))
      refine .inr ⟨b, off, ea, Nat.lt_of_lt_of_le hlt k.size, fun j hj q hq => ?_⟩
      rw [← hr j hj q hq]
      unfold World.cell?
      simp only [k.block b hlt hn]
/-- The cells of the j-th member. -/
theorem RowE.at_ {W : World} {b off : Nat} {ps : List (Ent × Value)} (h : RowE W b off ps) {j : Nat} (hj : j < ps.length) {e : Ent} {mv : Value} (he : ps[j] = (e, mv)) : ∀ k, k < 15 → W.cell? ⟨b, off + j * 15 + k, none⟩ = (evc e mv)[k]? := fun k hk => by
  rw [h j hj k hk, he]

end Go.Proofs.YtipajekehbpghaaGreatDoor

namespace Go.Proofs.YtipajekehbpghaaGreatDoor
open Go.RowKit Go.Maps Tre Pk

/-- What a valid or invalid member that comes in may measure. -/
structure EntOk (e : Ent) : Prop where
  kind : e.kind ≤ 255
  data : e.data.length ≤ 140737488351232
  map : e.map.length ≤ 1000000000000
  size : e.size ≤ 9223372036854775807
  name : e.name.length ≤ 140737488351232

/-- A tree whose block gets another tree's maps. -/
theorem TreeAt.moved {w w' : World} {g g' : Nat} {n f : Option Nat} {u : T} {cs : Array Value} (h : TreeAt w g' n f u) (hg : Blk w g 71 cs) (hne : ∀ b ∈ own g' n f, b ≠ g) (he : w' = w.setRow g #[.map n, .map f, .int .i64 u.nx]) : TreeAt w' g n f u := by
  subst he
  obtain ⟨nf, hf, hn⟩ := h.fl
  have hs : w.heap.size ≤ (w.setRow g #[.map n, .map f, .int .i64 u.nx]).heap.size := by simp
  refine ⟨hg.row _, h.nm.kept hs fun b e => setRow_other w g b _ (hne b ?_), ⟨nf, hf.kept hs fun b e => setRow_other w g b _ (hne b ?_), hn⟩, h.both, h.ne⟩
  · unfold own; simp [e]
  · unfold own; simp [e]

theorem infoTT : (Tryz.prog.info? 71).map (·.size) = some 3 := by kernel_rfl

set_option maxRecDepth 100000 in
set_option maxHeartbeats 8000000 in
theorem into_any {w : World} {g : Nat} {on of : Option Nat} {t : T} (hm : ML w) (h : TreeAt w g on of t) (ht : Std t) (hx : t.nx ≤ 80000) (e : Ent) (mv : Value) (hp : Pcs w mv e.map) (hq : EntOk e) :
    Calls Tryz.prog 24 #[.pointer (some ⟨g, 0, none⟩), ev e mv] w fun en w' => en = .returned (errV (into t e).2) ∧ Turned w g on of (into t e).1 w' := by
  have B1 := Lib.hid ((Below.refl w.heap.size w).alloc (Nat.le_refl _) (.cells (evc e mv) 40))
  have KB := Lib.hid (Blk.new w 40 (evc e mv))
  have CP := Lib.hid (copy_any (h.below B1.out))
  have IN := Lib.hid (fun w1 g' o1 o2 (hb : Below w.heap.size w w1) (hO : ∀ b ∈ own g' o1 o2, w.heap.size ≤ b) (h : TreeAt w1 g' o1 o2 t) => into0_any hm hb hO h ht hx e mv (hp.below hb) hq.kind hq.data hq.map hq.size hq.name)
  have HT := Lib.hid h
  have hin : into t e = if (into0 t e).2 ≠ 0 then (t, (into0 t e).2) else ((into0 t e).1, 0) := rfl
  obtain ⟨R, hR⟩ : ∃ R, R = into t e := ⟨_, rfl⟩
  obtain ⟨C, hC⟩ : ∃ C, C = into0 t e := ⟨_, rfl⟩
  rw [← hR, ← hC] at hin
  rw [← hC] at IN
  rw [← hR]
  have HI := Lib.hid hin
  obtain ⟨n, k, m1, m2, m3, z, sc, na, l, u, gr, mj, mn, d, mp⟩ := e
  have hev : ev ⟨n, k, m1, m2, m3, z, sc, na, l, u, gr, mj, mn, d, mp⟩ mv = .agg #[.string (bs n), .int .u8 k, .int .i64 m1, .int .i64 m2, .int .i64 m3, .int .i64 z, .int .i64 sc, .int .i64 na, .string (bs l), .string (bs u), .string (bs gr), .int .i64 mj, .int .i64 mn, .string (bs d), mv] := rfl
  have hevc : evc ⟨n, k, m1, m2, m3, z, sc, na, l, u, gr, mj, mn, d, mp⟩ mv = #[.string (bs n), .int .u8 k, .int .i64 m1, .int .i64 m2, .int .i64 m3, .int .i64 z, .int .i64 sc, .int .i64 na, .string (bs l), .string (bs u), .string (bs gr), .int .i64 mj, .int .i64 mn, .string (bs d), mv] := rfl
  rw [hev] at IN ⊢
  rw [hevc] at B1 KB CP
  clear hin hR hC hev hevc h ht hm hp hq hx
  go_enter Tryz.func24, Tryz.ntmps24
  go_wp2_with fail
  refine CP.out.mono ?_
  rintro en w1 ⟨g', o1, o2, rfl, hcp, hfr, h1⟩
  have B2 := Lib.hid (thenB B1.out h1)
  have K1 := Lib.hid (KB.out.below h1 KB.out.lt)
  have FR := Lib.hid (show ∀ b ∈ own g' o1 o2, w.heap.size ≤ b from fun b hb => Nat.le_trans B1.out.size (hfr b hb))
  have I1 := Lib.hid (IN.out w1 g' o1 o2 B2.out FR.out hcp)
  have kc := (K1.out); have c0 := kc.cell 0; have c1 := kc.cell 1; have c2 := kc.cell 2; have c3 := kc.cell 3; have c4 := kc.cell 4; have c5 := kc.cell 5; have c6 := kc.cell 6; have c7 := kc.cell 7; have c8 := kc.cell 8; have c9 := kc.cell 9; have c10 := kc.cell 10; have c11 := kc.cell 11; have c12 := kc.cell 12; have c13 := kc.cell 13; have c14 := kc.cell 14; have lk := kc.lt; simp only [List.getElem?_toArray, List.getElem?_cons_zero, List.getElem?_cons_succ] at c0 c1 c2 c3 c4 c5 c6 c7 c8 c9 c10 c11 c12 c13 c14; clear kc
  clear CP IN hcp hfr h1 KB
  go_wp2_with fail
  refine I1.out.mono ?_
  rintro en w2 ⟨rfl, n2, f2, k1, k2, k3⟩
  have B3 := Lib.hid (B2.out.trans (k3.down FR.out B2.out.size))
  have K2 := Lib.hid k1
  have T3 := Lib.hid (HT.out.below B3.out)
  have O2 := Lib.hid (show ∀ b ∈ own g' n2 f2, w.heap.size ≤ b from fun b hb => (k2 b hb).elim (FR.out b) (fun hh => Nat.le_trans B2.out.size hh))
  clear c0 c1 c2 c3 c4 c5 c6 c7 c8 c9 c10 c11 c12 c13 c14 lk
  clear k1 k2 k3 I1
  by_cases hc : C.2 = 0
  rotate_left
  · have e1 : errV C.2 = .iface 89 (.int .i64 C.2) := if_neg hc
    have er : R = (t, C.2) := by rw [HI.out, if_pos hc]
    have HE1 := Lib.hid e1
    rw [e1]
    subst er
    clear e1 hc
    go_wp2_with fail
    go_ret
    exact ⟨by rw [HE1.out]; rfl, Turned.still HT.out B3.out⟩
  have e1 : errV C.2 = .nilIface := by rw [hc]; rfl
  have er : R = (C.1, 0) := by rw [HI.out, if_neg (by simp [hc])]
  rw [e1]
  subst er
  clear e1 hc
  go_wp2_with (first | (refine wpList_load_row rfl 71 (.tmp 19) rfl g' rfl 71 _ (0, 0) _ K2.out.blk Tryz.underlying71 rfl infoTT ?_) | (refine wpList_store_row rfl 71 (.tmp 21) (.tmp 20) rfl g _ rfl rfl 71 _ T3.out.blk infoTT rfl (by simp only [List.all_toArray, List.all_cons, List.all_nil, Bool.and_true]; rfl) ?_))
  go_ret
  refine ⟨rfl, n2, f2, TreeAt.moved K2.out T3.out.blk (fun b hb e => ?_) rfl, fun x hx => ?_, ?_⟩
  · have h1 := O2.out b hb
    have h2 := HT.out.blk.lt
    omega
  · rcases List.mem_cons.1 hx with rfl | hx
    · exact .inl (List.mem_cons_self ..)
    · exact .inr (O2.out x (List.mem_cons_of_mem _ hx))
  · exact (Kept.of_below B3.out).grown (only_setRow (only_refl _ _) (.inl rfl) _) (.inl (List.mem_cons_self ..))

end Go.Proofs.YtipajekehbpghaaGreatDoor
