/-
  stamp.Parse of digits.
-/
import Derived.Test.YtkhkjacnoiopcaaGreatDoorZan
import Derived.Deep.RegionHeld3
import Derived.Laws.Concat
import Derived.StillTailTactics
set_option linter.unusedVariables false
set_option linter.unusedSimpArgs false

set_option linter.unusedVariables false
set_option linter.unusedSimpArgs false
namespace Go.Proofs.YtkhkjacnoiopcaaGreatDoor
open Go.RowKit

/-- What Parse hands back for what is read. -/
def parsed (x : Int × Int) : Value := if Stp.okB x then .tuple #[tm x.1 x.2, .nilIface] else .tuple #[tm 0 0, .iface 63 (.int .i64 2)]

theorem join_below {a b b' c : World} (h : Below a.heap.size a b) (k : Below b'.heap.size b' c) (e1 : b'.heap = b.heap) (e2 : b'.os = b.os) (e3 : b'.tape = b.tape) (e4 : b'.output = b.output) : Below a.heap.size a c :=
  ⟨k.os.trans (e2.trans h.os), k.tape.trans (e3.trans h.tape), k.output.trans (e4.trans h.output), Nat.le_trans h.size (Nat.le_trans (by rw [e1]; exact Nat.le_refl _) k.size), fun i hi => by
    have h1 : i < b'.heap.size := by rw [e1]; exact Nat.lt_of_lt_of_le hi h.size
    rw [k.block i h1, e1, h.block i hi]⟩
set_option maxRecDepth 100000 in
set_option maxHeartbeats 4000000 in
theorem parse_any (s : ByteArray) (below pt : Bool) (W P : List UInt8) (hs : s.size ≤ 1000) (hpre : Lib.hasPrefix s.data.toList [45] = below) (hcut : Lib.cut (Stp.rest s.data.toList) [46] = (W, P, pt)) (hW : Stp.digB W = true)
    (hP : pt = true → Stp.digB P = true) (hP0 : pt = false → P = []) (hl : (Lib.trimLeftS W [48]).length ≤ 15) (lW : W.length ≤ 1000) (lP : P.length ≤ 1000) (w : World) (hE : Env w) :
    Calls Tryz.prog 142 #[.string s] w fun e w' => e = .returned (parsed (Stp.read below W P)) ∧ Below w.heap.size w w' := by
  obtain ⟨Rs, hRs⟩ : ∃ R, R = bs (Stp.rest s.data.toList) := ⟨_, rfl⟩
  have hRl : Rs.size ≤ 1000 := by
    rw [hRs, bs_size]
    unfold Stp.rest
    split
    · rw [List.length_drop, list_size]; omega
    · rw [list_size]; omega
  have cp := fun w => Tryz.strings_CutPrefix s ⟨#[45]⟩ w
  have hcp : (⟨(Lib.trimPrefix s.data.toList (⟨#[45]⟩ : ByteArray).data.toList).toArray⟩ : ByteArray) = Rs := by rw [hRs]; rfl
  have hcp2 : Lib.hasPrefix s.data.toList (⟨#[45]⟩ : ByteArray).data.toList = below := hpre
  rw [hcp, hcp2] at cp
  obtain ⟨Wb, hWb⟩ : ∃ X, X = bs W := ⟨_, rfl⟩
  obtain ⟨Pb, hPb⟩ : ∃ X, X = bs P := ⟨_, rfl⟩
  obtain ⟨Tb, hTb⟩ : ∃ X, X = bs (Lib.trimLeftS W [48]) := ⟨_, rfl⟩
  have cu : ∀ w' : World, Below w.heap.size w w' → Calls Tryz.prog 85 #[.string Rs, .string ⟨#[46]⟩] w' fun e w'' => e = .returned (.tuple #[.string Wb, .string Pb, .bool pt]) ∧ Below w'.heap.size w' w'' := fun w' hb => by
    obtain ⟨m, hm⟩ := (hE.below hb).1
    have h := Tryz.strings_Cut Rs ⟨#[46]⟩ m w' (by omega) hm
    have e : Lib.cut Rs.data.toList (⟨#[46]⟩ : ByteArray).data.toList = (W, P, pt) := by rw [hRs, bs_list]; exact hcut
    rw [e] at h
    refine h.mono fun e w'' ⟨he, n, hw⟩ => ⟨by rw [he, hWb, hPb]; rfl, hw ▸ below_drewN (Below.refl _ _) n⟩
  have dW := fun w => digits_any Wb (by rw [hWb, bs_size]; omega) w
  rw [hWb, bs_list, hW, ← hWb] at dW
  have dP : pt = true → ∀ w, Calls Tryz.prog 172 #[.string Pb] w fun e w' => e = .returned (.bool true) ∧ Below w.heap.size w w' := fun hp w => by
    have := digits_any Pb (by rw [hPb, bs_size]; omega) w
    rw [hPb, bs_list, hP hp, ← hPb] at this; exact this
  have tl := fun w => Tryz.strings_TrimLeft_one Wb 48 (by decide) w
  have htl : (⟨(Lib.trimLeftB Wb.data.toList 48).toArray⟩ : ByteArray) = Tb := by rw [hTb, hWb, bs_list, ← Lib.trimLeftS_one]; rfl
  rw [htl] at tl
  have dg : ∀ l, Stp.digB l = true → Stp.dgs l := fun l h => by unfold Stp.digB at h; rw [Bool.and_eq_true, List.all_eq_true] at h; exact h.2
  have hWd := dg W hW
  have hPd : Stp.dgs P := by
    cases pt
    · rw [hP0 rfl]; exact fun _ h => by cases h
    · exact dg P (hP rfl)
  have hTd : Stp.dgs (Lib.trimLeftS W [48]) := Stp.dgs_sub hWd fun x hx => (List.dropWhile_sublist _).subset hx
  have hTs : Tb.size ≤ 15 := by rw [hTb, bs_size]; exact hl
  have hZl : ((⟨#[48]⟩ : ByteArray) ++ Tb).data.toList = 48 :: Lib.trimLeftS W [48] := by rw [cat_list, hTb, bs_list]; rfl
  have s1 : (⟨#[48]⟩ : ByteArray).size = 1 := rfl
  have a1 := fun w => atoi_any (⟨#[48]⟩ ++ Tb) (by rw [ByteArray.size_append]; omega) (by rw [hZl]; exact fun b hb => (List.mem_cons.1 hb).elim (fun e => by rw [e]; decide) (hTd b)) (by rw [hZl]; simp) w
  rw [hZl, Stp.val_zero] at a1
  obtain ⟨N9, hN9⟩ : ∃ X, X = bs (Stp.nine P) := ⟨_, rfl⟩
  have s9 : (⟨#[48, 48, 48, 48, 48, 48, 48, 48, 48]⟩ : ByteArray).size = 9 := rfl
  have hN : (Pb ++ (⟨#[48, 48, 48, 48, 48, 48, 48, 48, 48]⟩ : ByteArray)).extract 0 9 = N9 := ba_ext (by rw [ext_to, cat_list, hPb, bs_list, hN9, bs_list]; rfl)
  have hNd : Stp.dgs (Stp.nine P) := Stp.dgs_sub (Stp.dgs_app.2 ⟨hPd, Stp.zeros_dgs 9⟩) fun x hx => List.mem_of_mem_take hx
  have hNl : (Stp.nine P).length = 9 := by unfold Stp.nine; rw [List.length_take, List.length_append, List.length_replicate]; omega
  have a2 := fun w => atoi_any N9 (by rw [hN9, bs_size, hNl]; omega) (by rw [hN9, bs_list]; exact hNd) (by rw [hN9, bs_list]; intro e; rw [e] at hNl; simp at hNl) w
  rw [hN9, bs_list, ← hN9] at a2
  have v1 := Stp.val_lt _ hTd
  have v2 := Stp.val_lt _ hNd
  rw [hNl] at v2
  have v1' : Stp.val (Lib.trimLeftS W [48]) < 1000000000000000 := Nat.lt_of_lt_of_le v1 (Nat.pow_le_pow_right (by omega) hl)
  have v2' : Stp.val (Stp.nine P) < 1000000000 := v2
  have hrd : Stp.read below W P = if below then Stp.under (Stp.val (Lib.trimLeftS W [48])) (Stp.val (Stp.nine P)) (decide (9 < P.length) && !(Lib.trimS (P.drop 9) [48] == [])) else ((Stp.val (Lib.trimLeftS W [48]) : Int), (Stp.val (Stp.nine P) : Int)) := rfl
  obtain ⟨Q, hQ⟩ : ∃ X, X = bs (Lib.trimS (P.drop 9) [48]) := ⟨_, rfl⟩
  have hQn : (Lib.trimS (P.drop 9) [48] == []) = Q.toList.isEmpty := by rw [Lib.toList_data, hQ, bs_list]; cases Lib.trimS (P.drop 9) [48] <;> rfl
  have tr := fun w => Tryz.strings_Trim_one (Pb.extract 9 Pb.size) 48 (by decide) w (by rw [ext_size _ _ _ (Nat.le_refl _), hPb, bs_size]; omega)
  have htr : (⟨(Lib.trimB (Pb.extract 9 Pb.size).data.toList 48).toArray⟩ : ByteArray) = Q := by rw [ext_end, hPb, bs_list, hQ, ← Lib.trimS_one]; rfl
  rw [htr] at tr
  have tr2 : ∀ w, Calls Tryz.prog 70 #[.string (Pb.extract 9 Pb.size), .string ⟨#[48]⟩] w fun e w' => e = .returned (.string Q) ∧ Below w.heap.size w w' := fun w => (tr w).mono fun e w' ⟨he, hw⟩ => ⟨he, by rcases hw with rfl | rfl; exact Below.refl _ _; exact (Below.refl _ _).drew⟩
  obtain ⟨V, hV⟩ : ∃ V, V = Stp.val (Lib.trimLeftS W [48]) := ⟨_, rfl⟩
  obtain ⟨M, hM⟩ : ∃ M, M = Stp.val (Stp.nine P) := ⟨_, rfl⟩
  rw [← hV] at a1 v1' hrd
  rw [← hM] at a2 v2' hrd
  rw [hQn] at hrd
  have un := fun (m : Bool) w => under_any V M m (by omega) (by omega) (by omega) (by omega) w
  obtain ⟨x, hx⟩ : ∃ x, x = Stp.read below W P := ⟨_, rfl⟩
  rw [← hx] at hrd ⊢
  have hRt := fun w => stampRight_any x.1 x.2 w
  have hPs : Pb.size = P.length := by rw [hPb, bs_size]
  rw [← hPs] at hrd lP
  have CP := Lib.hid cp
  have CU := Lib.hid cu
  have DW := Lib.hid dW
  have DP := Lib.hid dP
  have TL := Lib.hid tl
  have A1 := Lib.hid a1
  have A2 := Lib.hid a2
  have HN := Lib.hid hN
  have TR := Lib.hid tr2
  have UN := Lib.hid un
  have RT := Lib.hid hRt
  have HRD := Lib.hid hrd
  have hT15 : ¬ (15 : Int) < Tb.size := by omega
  have hN9b : 9 ≤ (Pb ++ (⟨#[48, 48, 48, 48, 48, 48, 48, 48, 48]⟩ : ByteArray)).size := by rw [ByteArray.size_append]; omega
  clear hRs hpre hcut hW hP hP0 hl lW hE cp hcp hcp2 hWb hPb hTb cu dW dP tl htl dg hWd hPd hTd hZl s1 a1 hN9 hN hNd hNl a2 v1 v2 hrd hQ hQn tr htr tr2 hV hM un hx hRt hPs s9
  go_enter Tryz.func142, Tryz.ntmps142
  go_wp2_with fail
  have z0 := Blk.new w 23 #[.int .i64 0, .int .i64 0]
  refine (CP.out _).mono ?_
  rintro e w1 ⟨rfl, rfl⟩
  go_wp2_with fail
  refine (CU.out _ ((Below.refl _ _).alloc (Nat.le_refl _) _)).mono ?_
  rintro e w2 ⟨rfl, h⟩
  have z2 := Lib.hid (z0.below h (by simp))
  have B2 := Lib.hid (((Below.refl w.heap.size w).alloc (Nat.le_refl _) _).trans (h.mono (by simp)))
  have n2 : w.heap.size < w2.heap.size := by have := h.size; simp at this; omega
  clear h z0
  go_wp2_with fail
  refine (DW.out _).mono ?_
  rintro e w3 ⟨rfl, h⟩
  have z3 := Lib.hid (z2.out.below h n2)
  have B3 := Lib.hid (thenB B2.out h)
  have n3 : w.heap.size < w3.heap.size := Nat.lt_of_lt_of_le n2 h.size
  clear h
  have step : ∃ w4 : World, True := ⟨w3, trivial⟩
  clear step
  cases pt
  case' true =>
    go_wp2_with fail
    refine (DP.out (by first | exact trivial | rfl) _).mono ?_
    rintro e w4 ⟨rfl, h⟩
    have z4 := Lib.hid (z3.out.below h n3)
    have B4 := Lib.hid (thenB B3.out h)
    have n4 : w.heap.size < w4.heap.size := Nat.lt_of_lt_of_le n3 h.size
    clear h z2 z3 B2 B3 n2 n3
  case' false =>
    have z4 := z3
    have B4 := B3
    have n4 := n3
    clear z2 z3 B2 B3 n2 n3
    obtain ⟨w4, rfl⟩ : ∃ w4, w4 = w3 := ⟨_, rfl⟩
  all_goals
    go_wp2_with fail
    refine (TL.out _).mono ?_
    rintro e w5 ⟨rfl, rfl⟩
    go_wp2_with fail
    have y0 := Blk.new w5 23 #[.int .i64 0, .int .i64 0]
    refine (A1.out _).mono ?_
    rintro e w6 ⟨rfl, h⟩
    have hz6 := (z4.out.alloc (.cells #[.int .i64 0, .int .i64 0] 23)).below h (by simp; omega)
    have hy6 := y0.below h (by simp)
    have c6 := hy6.cell 0
    have f6 := hy6.frozen 0
    have B6 := Lib.hid (thenB (B4.out.alloc B4.out.size (.cells #[.int .i64 0, .int .i64 0] 23)) h)
    have g6 : w5.heap.size < w6.heap.size := by have := h.size; simp at this; omega
    have z6 := Lib.hid hz6
    have y6 := Lib.hid hy6
    have hN := HN.out
    clear h y0 hz6 hy6 z4
    go_wp2_with fail
    have hy7 : Blk (w6.setCell ⟨w5.heap.size, 0, none⟩ (.int .i64 (V : Int))) w5.heap.size 23 #[.int .i64 (V : Int), .int .i64 0] := y6.out.set_ 0 _
    have hz7 := z6.out.far (p := ⟨w5.heap.size, 0, none⟩) (by show w.heap.size ≠ w5.heap.size; omega) (.int .i64 (V : Int))
    have hB7 := B6.out.setCell (p := ⟨w5.heap.size, 0, none⟩) (by show w.heap.size ≤ w5.heap.size; omega) (.int .i64 (V : Int))
    have hg7 : w5.heap.size < (w6.setCell ⟨w5.heap.size, 0, none⟩ (.int .i64 (V : Int))).heap.size := by simpa using g6
    clear c6 f6 hN
    refine (A2.out _).mono ?_
    rintro e w8 ⟨rfl, h⟩
    have hy8 := hy7.below h hg7
    have hz8 := hz7.below h (by omega)
    have B8 := Lib.hid (thenB hB7 h)
    have g8 : w5.heap.size < w8.heap.size := Nat.lt_of_lt_of_le hg7 h.size
    have c8 := hy8.cell 1
    have f8 := hy8.frozen 1
    have y8 := Lib.hid hy8
    have z8 := Lib.hid hz8
    clear h hy7 hz7 hB7 hg7 hy8 hz8 y6 z6 B6 g6
    clear c8 f8
    have hy9 : Blk (w8.setCell ⟨w5.heap.size, 1, none⟩ (.int .i64 (M : Int))) w5.heap.size 23 #[.int .i64 (V : Int), .int .i64 (M : Int)] := y8.out.set_ 1 _
    have hz9 := z8.out.far (p := ⟨w5.heap.size, 1, none⟩) (by show w.heap.size ≠ w5.heap.size; omega) (.int .i64 (M : Int))
    have hB9 := B8.out.setCell (p := ⟨w5.heap.size, 1, none⟩) (by show w.heap.size ≤ w5.heap.size; omega) (.int .i64 (M : Int))
    have hg9 : w5.heap.size < (w8.setCell ⟨w5.heap.size, 1, none⟩ (.int .i64 (M : Int))).heap.size := by simpa using g8
    have c8 := y8.out.cell 1
    have f8 := y8.out.frozen 1
    have d0 := hy9.cell 0
    have d1 := hy9.cell 1
    have y9 := Lib.hid hy9
    have z9 := Lib.hid hz9
    have B9 := Lib.hid hB9
    have g9 := Lib.hid hg9
    clear hy9 hz9 hB9 hg9 y8 z8 B8
    cases below
    · have hx : x = ((V : Int), (M : Int)) := HRD.out
      subst hx
      go_wp2_with fail
      refine (RT.out _).mono ?_
      rintro e wr ⟨rfl, h⟩
      have yr := Lib.hid (y9.out.below h g9.out)
      have zr := Lib.hid (z9.out.below h (by have := g9.out; simp at this ⊢; omega))
      have BR := Lib.hid (thenB B9.out h)
      have t0 := yr.out.cell 0
      have t1 := yr.out.cell 1
      have u0 := zr.out.cell 0
      have u1 := zr.out.cell 1
      have v0 := zr.out.frozen 0
      have v1 := zr.out.frozen 1
      clear h y9 z9 B9 d0 d1 c8 f8
      obtain ⟨ok, hok⟩ : ∃ ok, ok = Stp.okB ((V : Int), (M : Int)) := ⟨_, rfl⟩
      have HOK := Lib.hid hok
      rw [← hok]
      clear hok
      cases ok
      · go_wp2_with fail
        refine bodyPost_ret (v := .tuple #[tm 0 0, .iface 63 (.int .i64 2)]) (by simp [results, Tryz.results142, go_sem, u0, u1]) rfl ⟨?_, (BR.out.setCell (Nat.le_refl _) _).setCell (Nat.le_refl _) _⟩
        unfold parsed; rw [← HOK.out]; rfl
      · go_wp2_with fail
        refine bodyPost_ret (v := .tuple #[tm (V : Int) (M : Int), .nilIface]) (by simp [results, Tryz.results142, go_sem, u0, u1]) rfl ⟨?_, (BR.out.setCell (Nat.le_refl _) _).setCell (Nat.le_refl _) _⟩
        unfold parsed; rw [← HOK.out]; rfl
    · obtain ⟨w9, hw9⟩ : ∃ w9, w9 = w8.setCell ⟨w5.heap.size, 1, none⟩ (.int .i64 (M : Int)) := ⟨_, rfl⟩
      rw [← hw9] at y9 z9 B9 g9 d0 d1
      have hge := Lib.hid (by omega : w.heap.size ≤ w5.heap.size)
      have hne := Lib.hid (by omega : w.heap.size ≠ w5.heap.size)
      have gR := Lib.hid (Nat.lt_of_le_of_lt hge.out g9.out)
      by_cases h9 : 9 < Pb.size
      · have h9' : (9 : Int) < Pb.size := by omega
        have h9d : decide ((9 : Int) < Pb.size) = true := decide_eq_true h9'
        have hx : x = Stp.under V M (!Q.toList.isEmpty) := by have := HRD.out; rw [if_pos rfl, decide_eq_true h9, Bool.true_and] at this; exact this
        have un := UN.out (!Q.toList.isEmpty)
        rw [← hx] at un
        have U1 := Lib.hid un
        clear un hx
        go_wp2_with fail
        rw [← hw9]
        clear hw9 c8 f8
        have hn9 : (9 : Int) ≤ Pb.size := by omega
        have hn9b : 9 ≤ Pb.size := by omega
        have e0 := y9.out.frozen 0
        have e1 := y9.out.frozen 1
        go_region_with (first
          | (go_at_call 70; (with_reducible refine (TR.out _).mono ?_); rintro e wt ⟨rfl, T1⟩; have t0 := (T1.cell (p := ⟨w5.heap.size, 0, none⟩) g9.out).trans d0; have t1 := (T1.cell (p := ⟨w5.heap.size, 1, none⟩) g9.out).trans d1; have f0 := (T1.frozen (p := ⟨w5.heap.size, 0, none⟩) g9.out).trans e0; have f1 := (T1.frozen (p := ⟨w5.heap.size, 1, none⟩) g9.out).trans e1; have gt := Lib.hid (Nat.lt_of_lt_of_le g9.out T1.size); have H1 := Lib.hid T1; clear T1)
          | (go_at_call 173; (with_reducible refine (U1.out _).mono ?_); rintro e wu ⟨rfl, T2⟩; have p0 := (T2.cell (p := ⟨w5.heap.size, 0, none⟩) gt.out).trans t0; have p1 := (T2.cell (p := ⟨w5.heap.size, 1, none⟩) gt.out).trans t1; have q0 := (T2.frozen (p := ⟨w5.heap.size, 0, none⟩) gt.out).trans f0; have q1 := (T2.frozen (p := ⟨w5.heap.size, 1, none⟩) gt.out).trans f1; have H2 := Lib.hid T2; clear T2))
        all_goals
          have Bt := Lib.hid (join_below B9.out H1.out rfl rfl rfl rfl)
          have yt : Blk wt w5.heap.size 23 #[.int .i64 (V : Int), .int .i64 (M : Int)] := (H1.out.block _ g9.out).trans y9.out
          have zt : Blk wt w.heap.size 23 #[.int .i64 0, .int .i64 0] := (H1.out.block _ gR.out).trans z9.out
          have yu : Blk wu w5.heap.size 23 #[.int .i64 (V : Int), .int .i64 (M : Int)] := (H2.out.block _ gt.out).trans yt
          have zu : Blk wu w.heap.size 23 #[.int .i64 0, .int .i64 0] := (H2.out.block _ (Nat.lt_of_lt_of_le gR.out H1.out.size)).trans zt
          have Bu := join_below Bt.out H2.out rfl rfl rfl rfl
          have gu := Nat.lt_of_lt_of_le gt.out H2.out.size
          have yX : Blk ((wu.setCell ⟨w5.heap.size, 0, none⟩ (.int .i64 x.1)).setCell ⟨w5.heap.size, 1, none⟩ (.int .i64 x.2)) w5.heap.size 23 #[.int .i64 x.1, .int .i64 x.2] := (yu.set_ 0 _).set_ 1 _
          have zX := (zu.far (p := ⟨w5.heap.size, 0, none⟩) hne.out (.int .i64 x.1)).far (p := ⟨w5.heap.size, 1, none⟩) hne.out (.int .i64 x.2)
          have BX := Lib.hid ((Bu.setCell (p := ⟨w5.heap.size, 0, none⟩) hge.out (.int .i64 x.1)).setCell (p := ⟨w5.heap.size, 1, none⟩) hge.out (.int .i64 x.2))
          have gX : w5.heap.size < ((wu.setCell ⟨w5.heap.size, 0, none⟩ (.int .i64 x.1)).setCell ⟨w5.heap.size, 1, none⟩ (.int .i64 x.2)).heap.size := by simpa using gu
          have x0 := yX.cell 0
          have x1 := yX.cell 1
          have YX := Lib.hid yX
          have ZX := Lib.hid zX
          have GX := Lib.hid gX
          clear yX zX gX Bu gu yu zu p0 p1 q0 q1
          go_wp2_with fail
          refine (RT.out _).mono ?_
          rintro e wr ⟨rfl, h⟩
          have yr := Lib.hid (YX.out.below h GX.out)
          have zr := Lib.hid (ZX.out.below h (Nat.lt_of_le_of_lt hge.out GX.out))
          have BR := Lib.hid (thenB BX.out h)
          have t0 := yr.out.cell 0
          have t1 := yr.out.cell 1
          have u0 := zr.out.cell 0
          have u1 := zr.out.cell 1
          have v0 := zr.out.frozen 0
          have v1 := zr.out.frozen 1
          clear h x0 x1
          obtain ⟨ok, hok⟩ : ∃ ok, ok = Stp.okB (x.1, x.2) := ⟨_, rfl⟩
          have HOK := Lib.hid hok
          rw [← hok]
          clear hok
          cases ok
          · go_wp2_with fail
            refine bodyPost_ret (v := .tuple #[tm 0 0, .iface 63 (.int .i64 2)]) (by simp [results, Tryz.results142, go_sem, u0, u1]) rfl ⟨?_, (BR.out.setCell (Nat.le_refl _) _).setCell (Nat.le_refl _) _⟩
            unfold parsed; rw [← HOK.out]; rfl
          · go_wp2_with fail
            refine bodyPost_ret (v := .tuple #[tm x.1 x.2, .nilIface]) (by simp [results, Tryz.results142, go_sem, u0, u1]) rfl ⟨?_, (BR.out.setCell (Nat.le_refl _) _).setCell (Nat.le_refl _) _⟩
            unfold parsed; rw [← HOK.out]; rfl
      · have h9' : ¬ (9 : Int) < Pb.size := by omega
        have h9d : decide ((9 : Int) < Pb.size) = false := decide_eq_false h9'
        have hx : x = Stp.under V M false := by have := HRD.out; rw [if_pos rfl, decide_eq_false h9, Bool.false_and] at this; exact this
        have un := UN.out false
        rw [← hx] at un
        have U1 := Lib.hid un
        clear un hx
        go_wp2_with fail
        rw [← hw9]
        clear hw9 c8 f8
        have e0 := y9.out.frozen 0
        have e1 := y9.out.frozen 1
        go_still_tail 10, (by kernel_rfl)
        all_goals
          go_wp2_with fail
          refine (U1.out _).mono ?_
          rintro e wu ⟨rfl, T2⟩
          have p0 := (T2.cell (p := ⟨w5.heap.size, 0, none⟩) g9.out).trans d0
          have p1 := (T2.cell (p := ⟨w5.heap.size, 1, none⟩) g9.out).trans d1
          have q0 := (T2.frozen (p := ⟨w5.heap.size, 0, none⟩) g9.out).trans e0
          have q1 := (T2.frozen (p := ⟨w5.heap.size, 1, none⟩) g9.out).trans e1
          have H2 := Lib.hid T2
          clear T2
          have yu : Blk wu w5.heap.size 23 #[.int .i64 (V : Int), .int .i64 (M : Int)] := (H2.out.block _ g9.out).trans y9.out
          have zu : Blk wu w.heap.size 23 #[.int .i64 0, .int .i64 0] := (H2.out.block _ gR.out).trans z9.out
          have Bu := join_below B9.out H2.out rfl rfl rfl rfl
          have gu := Nat.lt_of_lt_of_le g9.out H2.out.size
          have yX : Blk ((wu.setCell ⟨w5.heap.size, 0, none⟩ (.int .i64 x.1)).setCell ⟨w5.heap.size, 1, none⟩ (.int .i64 x.2)) w5.heap.size 23 #[.int .i64 x.1, .int .i64 x.2] := (yu.set_ 0 _).set_ 1 _
          have zX := (zu.far (p := ⟨w5.heap.size, 0, none⟩) hne.out (.int .i64 x.1)).far (p := ⟨w5.heap.size, 1, none⟩) hne.out (.int .i64 x.2)
          have BX := Lib.hid ((Bu.setCell (p := ⟨w5.heap.size, 0, none⟩) hge.out (.int .i64 x.1)).setCell (p := ⟨w5.heap.size, 1, none⟩) hge.out (.int .i64 x.2))
          have gX : w5.heap.size < ((wu.setCell ⟨w5.heap.size, 0, none⟩ (.int .i64 x.1)).setCell ⟨w5.heap.size, 1, none⟩ (.int .i64 x.2)).heap.size := by simpa using gu
          have x0 := yX.cell 0
          have x1 := yX.cell 1
          have YX := Lib.hid yX
          have ZX := Lib.hid zX
          have GX := Lib.hid gX
          clear yX zX gX Bu gu yu zu
          go_wp2_with fail
          clear p0 p1 q0 q1
          refine (RT.out _).mono ?_
          rintro e wr ⟨rfl, h⟩
          have yr := Lib.hid (YX.out.below h GX.out)
          have zr := Lib.hid (ZX.out.below h (Nat.lt_of_le_of_lt hge.out GX.out))
          have BR := Lib.hid (thenB BX.out h)
          have t0 := yr.out.cell 0
          have t1 := yr.out.cell 1
          have u0 := zr.out.cell 0
          have u1 := zr.out.cell 1
          have v0 := zr.out.frozen 0
          have v1 := zr.out.frozen 1
          clear h x0 x1
          obtain ⟨ok, hok⟩ : ∃ ok, ok = Stp.okB (x.1, x.2) := ⟨_, rfl⟩
          have HOK := Lib.hid hok
          rw [← hok]
          clear hok
          cases ok
          · go_wp2_with fail
            refine bodyPost_ret (v := .tuple #[tm 0 0, .iface 63 (.int .i64 2)]) (by simp [results, Tryz.results142, go_sem, u0, u1]) rfl ⟨?_, (BR.out.setCell (Nat.le_refl _) _).setCell (Nat.le_refl _) _⟩
            unfold parsed; rw [← HOK.out]; rfl
          · go_wp2_with fail
            refine bodyPost_ret (v := .tuple #[tm x.1 x.2, .nilIface]) (by simp [results, Tryz.results142, go_sem, u0, u1]) rfl ⟨?_, (BR.out.setCell (Nat.le_refl _) _).setCell (Nat.le_refl _) _⟩
            unfold parsed; rw [← HOK.out]; rfl

end Go.Proofs.YtkhkjacnoiopcaaGreatDoor
