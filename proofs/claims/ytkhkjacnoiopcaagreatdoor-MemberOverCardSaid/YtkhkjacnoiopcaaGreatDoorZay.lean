/-
  member.settled, all cases.
-/
import Derived.Test.YtkhkjacnoiopcaaGreatDoorZax
import Derived.Test.YtkhkjacnoiopcaaGreatDoorZak
import Derived.Test.YtkhkjacnoiopcaaGreatDoorZaw
import Derived.Test.YtkhkjacnoiopcaaGreatDoorZai
import Derived.Test.YtkhkjacnoiopcaaGreatDoorZac
import Derived.Test.YtkhkjacnoiopcaaGreatDoorZap
import Derived.Deep.LoopGhost
import Derived.Test.YtkhkjacnoiopcaaGreatDoorZaa
import Derived.RegionTactic
set_option linter.unusedVariables false
set_option linter.unusedSimpArgs false

set_option linter.unusedVariables false
set_option linter.unusedSimpArgs false
namespace Go.Proofs.YtkhkjacnoiopcaaGreatDoor
open Go.RowKit Tre Pk

theorem slash_end2 (l : List UInt8) : Lib.hasSuffix l [47] = (l.getLast? == some 47) := by
  unfold Lib.hasSuffix List.isSuffixOf
  rcases List.eq_nil_or_concat l with rfl | ⟨a, c, rfl⟩
  · rfl
  · rw [List.concat_eq_append, List.getLast?_concat, List.reverse_append]
    by_cases h : c = 47
    · subst h; simp [List.isPrefixOf]
    · simp [List.isPrefixOf, h]; rw [beq_eq_false_iff_ne.2 h, beq_eq_false_iff_ne.2 (fun (e : (47 : UInt8) = c) => h e.symm)]
set_option maxRecDepth 100000 in
set_option maxHeartbeats 4000000 in
/-- settled: what is handed back, and where its pieces are. -/
theorem settled_any (e : Ent) (mv : Value) (hmv : ∃ A m c, mv = .slice A m c) (hn : e.name.length ≤ 1000000) (w : World) :
    Calls Tryz.prog 94 #[ev e mv] w fun r w' => (∃ mv', r = .returned (ev (settledP e) mv') ∧ ((mv' = mv ∧ (settledP e).map = e.map) ∨ (mv' = .slice none 0 0 ∧ (settledP e).map = []))) ∧ Below w.heap.size w w' := by
  have hkd : settledP e = settledP e := rfl
  obtain ⟨n, k, md, ui, gi, z, s, a, l, us, gr, mj, mn, d, mp⟩ := e
  have hsf : Lib.hasSuffix n [47] = (n.getLast? == some 47) := slash_end2 n
  simp only at hn
  unfold ev evc
  by_cases h48 : k = 48
  · subst h48
    by_cases hs : n.getLast? = some 47
    · have hs1 : Lib.hasSuffix n [47] = true := by rw [hsf, hs]; rfl
      refine (settled_A n l us gr d md ui gi z s a mj mn mv hn hs1 w).mono ?_
      rintro r w' ⟨rfl, hb⟩
      have hk : kindS ⟨n, 48, md, ui, gi, z, s, a, l, us, gr, mj, mn, d, mp⟩ = 53 := by unfold kindS; rw [if_pos ⟨rfl, hs⟩]
      refine ⟨⟨.slice none 0 0, ?_, .inr ⟨rfl, ?_⟩⟩, hb⟩
      · unfold settledP; rw [hk]; rfl
      · unfold settledP; rw [hk]; rfl
    · have hs1 : Lib.hasSuffix n [47] = false := by rw [hsf]; exact beq_eq_false_iff_ne.2 hs
      obtain ⟨A0, m0, cq, rfl⟩ := hmv
      refine (settled_B n l us gr d md ui gi z s a mj mn A0 m0 cq hn hs1 w).mono ?_
      rintro r w' ⟨rfl, hb⟩
      have hk : kindS ⟨n, 48, md, ui, gi, z, s, a, l, us, gr, mj, mn, d, mp⟩ = 48 := by unfold kindS; rw [if_neg (by rintro ⟨_, h⟩; exact hs h)]
      refine ⟨⟨.slice A0 m0 cq, ?_, .inl ⟨rfl, ?_⟩⟩, hb⟩
      · unfold settledP; rw [hk]; rfl
      · unfold settledP; rw [hk]; rfl
  · have hk : kindS ⟨n, k, md, ui, gi, z, s, a, l, us, gr, mj, mn, d, mp⟩ = k := by unfold kindS; rw [if_neg (by rintro ⟨h, _⟩; exact h48 h)]
    by_cases h53 : k = 53
    · subst h53
      refine (settled_C n l us gr d md ui gi z s a mj mn mv hn w).mono ?_
      rintro r w' ⟨rfl, hb⟩
      refine ⟨⟨.slice none 0 0, ?_, .inr ⟨rfl, ?_⟩⟩, hb⟩
      · unfold settledP; rw [hk]; rfl
      · unfold settledP; rw [hk]; rfl
    · by_cases h49 : k = 49 ∨ k = 50
      · refine (settled_D n l us gr d md ui gi z s a mj mn mv hn k h49 w).mono ?_
        rintro r w' ⟨rfl, hb⟩
        refine ⟨⟨.slice none 0 0, ?_, .inr ⟨rfl, ?_⟩⟩, hb⟩
        · unfold settledP; rw [hk]; rcases h49 with rfl | rfl <;> rfl
        · unfold settledP; rw [hk]; rcases h49 with rfl | rfl <;> rfl
      · by_cases h51 : k = 51 ∨ k = 52
        · refine (settled_E n l us gr d md ui gi z s a mj mn mv hn k h51 w).mono ?_
          rintro r w' ⟨rfl, hb⟩
          refine ⟨⟨.slice none 0 0, ?_, .inr ⟨rfl, ?_⟩⟩, hb⟩
          · unfold settledP; rw [hk]; rcases h51 with rfl | rfl <;> rfl
          · unfold settledP; rw [hk]; rcases h51 with rfl | rfl <;> rfl
        · refine (settled_F n l us gr d md ui gi z s a mj mn mv hn k h48 h53 (fun h => h49 (.inl h)) (fun h => h49 (.inr h)) (fun h => h51 (.inl h)) (fun h => h51 (.inr h)) w).mono ?_
          rintro r w' ⟨rfl, hb⟩
          have hd : isDev k = false := by unfold isDev; simp only [Bool.or_eq_false_iff, beq_eq_false_iff_ne]; exact ⟨fun h => h51 (.inl h), fun h => h51 (.inr h)⟩
          refine ⟨⟨.slice none 0 0, ?_, .inr ⟨rfl, ?_⟩⟩, hb⟩
          · unfold settledP; rw [hk]; simp only [h48, h53, h49, hd, if_false, Bool.false_eq_true]; rfl
          · unfold settledP; rw [hk]; simp only [h48, if_false]

end Go.Proofs.YtkhkjacnoiopcaaGreatDoor

set_option linter.unusedVariables false
set_option linter.unusedSimpArgs false
namespace Go.Proofs.YtkhkjacnoiopcaaGreatDoor
open Go.RowKit Tre Pk

set_option maxRecDepth 100000 in
set_option maxHeartbeats 2000000 in
theorem zero_any (s : ByteArray) (hs : s.size ≤ 100000) (w : World) : Calls Tryz.prog 82 #[.string s] w fun e w' => e = .returned (.bool (decide (s.size = 512) && Hol.zeros s.data.toList)) ∧ Below w.heap.size w w' := by
  obtain ⟨T, hT, rT⟩ := trim_named s hs
  have RT := Lib.hid rT
  rw [← hT]
  clear rT hT
  by_cases h : s.size = 512
  · have k : ((s.size : Int) == 512) = true := by rw [beq_iff_eq]; omega
    have k2 : (s.size : Int) = 512 := by omega
    rw [decide_eq_true h]
    clear h
    go_enter Tryz.func82, Tryz.ntmps82
    go_wp2_with fail
    refine (RT.out _).mono ?_
    rintro e w1 ⟨rfl, h1⟩
    have B1 := Lib.hid h1
    clear h1
    go_wp2_with fail
    go_ret
    exact ⟨by simp, B1.out⟩
  · have k : ((s.size : Int) == 512) = false := by rw [beq_eq_false_iff_ne]; omega
    rw [decide_eq_false h]
    clear h
    go_enter Tryz.func82, Tryz.ntmps82
    go_wp2_with fail
    go_ret
    exact ⟨by simp, Below.refl _ _⟩

theorem zeros_no {l : Bl} (h : (fld l 156 1).headD 0 ≠ 0) : Hol.zeros l = false := by
  cases hz : Hol.zeros l with
  | false => rfl
  | true =>
    exfalso
    apply h
    unfold Hol.zeros at hz
    rw [List.all_eq_true] at hz
    cases hf : fld l 156 1 with
    | nil => rfl
    | cons c t =>
      have hc : c ∈ l := by
        have : c ∈ fld l 156 1 := by rw [hf]; exact List.mem_cons_self ..
        unfold fld at this
        exact List.mem_of_mem_drop (List.mem_of_mem_take this)
      have := hz c hc
      simpa using this

set_option maxRecDepth 100000 in
set_option maxHeartbeats 4000000 in
theorem header_any {W : World} {R : Nat} {s : Bl} {st : Rd} {ov gv : Value} (h : RdAt W R s st ov gv) (first : Bool) (r : HRaw) (hs : s.length ≤ 100000000) (hl : st.off + 512 ≤ s.length) (hr : hdrB (fld s st.off 512) = some r) :
    Calls Tryz.prog 44 #[.pointer (some ⟨R, 0, none⟩), .bool first] W fun e w' => e = .returned (.tuple #[rv r, .nilIface]) ∧ Below W.heap.size W w' := by
  obtain ⟨hR, hk0, D, hH⟩ := hdrB_is hr
  have hfl := fld_len s st.off 512 hl
  have HRd := Lib.hid (fun w => hread_any _ hfl hR r D hH hk0 w)
  have hze := zeros_no hk0
  obtain ⟨a, ha⟩ : ∃ a, a = st.off := ⟨_, rfl⟩
  have c0 : W.cell? ⟨R, 0, none⟩ = some (.string (bs s)) := h.blk.cell 0
  have c1 : W.cell? ⟨R, 1, none⟩ = some (.int .i64 st.off) := h.blk.cell 1
  rw [← ha] at HRd hze c1 hl hfl
  have hz : (bs s).size = s.length := bs_size _
  obtain ⟨T, hT⟩ : ∃ T, T = (bs s).extract a (bs s).size := ⟨_, rfl⟩
  have hTs : T.size = s.length - a := by rw [hT, ext_size _ _ _ (Nat.le_refl _), hz]
  have hT2 : T.extract 0 512 = bs (fld s a 512) := ba_ext (by rw [hT, ext_to, ext_end, bs_list, bs_list]; rfl)
  obtain ⟨U, hU⟩ : ∃ U, U = T.extract 0 512 := ⟨_, rfl⟩
  have hUz : U.size = 512 := by rw [hU, hT2, bs_size]; exact hfl
  have ZU := Lib.hid (fun w => zero_any U (by omega) w)
  rw [hUz, hU, hT2, bs_list, hze, ← hT2, ← hU, Bool.and_false] at ZU
  rw [← hT2, ← hU] at HRd
  obtain ⟨S, hS⟩ : ∃ S, S = bs s := ⟨_, rfl⟩
  rw [← hS] at c0 hz hT
  have k1 : (a : Int) ≤ S.size := by omega
  have k2 : (512 : Int) ≤ T.size := by omega
  have k3 : ¬ (T.size : Int) < 512 := by omega
  have k4 : T.toList.isEmpty = false := by
    rw [Lib.toList_data]
    cases hx : T.data.toList with
    | nil => have := list_size T; rw [hx] at this; simp at this; omega
    | cons c t => rfl
  have E1 := hT.symm
  have E2 := hU.symm
  clear hT hU hT2 hS hz hH hR hk0 hr hfl hze ha hTs hUz
  obtain ⟨W0, hW0⟩ : ∃ W0, W0 = W.alloc (.cells rz 72) := ⟨_, rfl⟩
  have HB := Lib.hid (show Below W.heap.size W W0 by rw [hW0]; exact (Below.refl _ _).alloc (Nat.le_refl _) _)
  have HK := Lib.hid (show Blk W0 W.heap.size 72 rz by rw [hW0]; exact Blk.new W _ _)
  have lt0 := HK.out.lt
  have d0 : W0.cell? ⟨R, 0, none⟩ = some (.string S) := (HB.out.cell (p := ⟨R, 0, none⟩) h.blk.lt).trans c0
  have d1 : W0.cell? ⟨R, 1, none⟩ = some (.int .i64 a) := (HB.out.cell (p := ⟨R, 1, none⟩) h.blk.lt).trans c1
  have HWW := Lib.hid hW0
  clear h c0 c1 hW0
  cases first
  all_goals
    go_enter Tryz.func44, Tryz.ntmps44
    go_wp2_with fail
    rw [← HWW.out]
    go_region
    all_goals go_wp2_with fail
    refine (ZU.out _).mono ?_
    rintro e w1 ⟨rfl, h1⟩
    have B1 := Lib.hid (thenB HB.out.drew h1)
    have K1 := Lib.hid (HK.out.drew.below h1 (by exact lt0))
    clear h1
    go_wp2_with fail
    refine (HRd.out _).mono ?_
    rintro e w2 ⟨rfl, h2⟩
    have B2 := Lib.hid (thenB B1.out h2)
    have K2 := Lib.hid (K1.out.below h2 K1.out.lt)
    clear h2
    obtain ⟨x0, x1, x2, x3, x4, x5, x6, x7, x8, x9, x10, x11, x12⟩ := r
    obtain ⟨Q, hQ⟩ : ∃ Q, Q = W.heap.size := ⟨_, rfl⟩
    have HQ := Lib.hid hQ
    rw [← hQ] at K2 B2 ⊢
    clear hQ
    have lt2 := K2.out.lt
    have c0 := K2.out.cell 0
    have f0 := K2.out.frozen 0
    have c1 := K2.out.cell 1
    have f1 := K2.out.frozen 1
    have c2 := K2.out.cell 2
    have f2 := K2.out.frozen 2
    have c3 := K2.out.cell 3
    have f3 := K2.out.frozen 3
    have c4 := K2.out.cell 4
    have f4 := K2.out.frozen 4
    have c5 := K2.out.cell 5
    have f5 := K2.out.frozen 5
    have c6 := K2.out.cell 6
    have f6 := K2.out.frozen 6
    have c7 := K2.out.cell 7
    have f7 := K2.out.frozen 7
    have c8 := K2.out.cell 8
    have f8 := K2.out.frozen 8
    have c9 := K2.out.cell 9
    have f9 := K2.out.frozen 9
    have c10 := K2.out.cell 10
    have f10 := K2.out.frozen 10
    have c11 := K2.out.cell 11
    have f11 := K2.out.frozen 11
    have c12 := K2.out.cell 12
    have f12 := K2.out.frozen 12
    go_wp2_with fail
    have hX := set13 K2.out (.string (bs x0)) (.string (bs x1)) (.string (bs x2)) (.string (bs x3)) (.string (bs x4)) (.int .u8 x5.toNat) (.int .i64 x6) (.int .i64 x7) (.int .i64 x8) (.int .i64 x9) (.int .i64 x10) (.int .i64 x11) (.int .i64 x12)
    have hXb := below13 B2.out (Nat.le_refl Q) (.string (bs x0)) (.string (bs x1)) (.string (bs x2)) (.string (bs x3)) (.string (bs x4)) (.int .u8 x5.toNat) (.int .i64 x6) (.int .i64 x7) (.int .i64 x8) (.int .i64 x9) (.int .i64 x10) (.int .i64 x11) (.int .i64 x12)
    generalize hX0 : World.setCell _ ⟨Q, 12, none⟩ (.int .i64 x12) = X at hX hXb ⊢
    have hXa := hX.alloc (.cells #[.string (bs x0), .string (bs x1), .string (bs x2), .string (bs x3), .string (bs x4), .int .u8 x5.toNat, .int .i64 x6, .int .i64 x7, .int .i64 x8, .int .i64 x9, .int .i64 x10, .int .i64 x11, .int .i64 x12] 72)
    have hXc := hXb.alloc (by have := hX.lt; omega) (.cells #[.string (bs x0), .string (bs x1), .string (bs x2), .string (bs x3), .string (bs x4), .int .u8 x5.toNat, .int .i64 x6, .int .i64 x7, .int .i64 x8, .int .i64 x9, .int .i64 x10, .int .i64 x11, .int .i64 x12] 72)
    generalize hY0 : X.alloc (.cells #[.string (bs x0), .string (bs x1), .string (bs x2), .string (bs x3), .string (bs x4), .int .u8 x5.toNat, .int .i64 x6, .int .i64 x7, .int .i64 x8, .int .i64 x9, .int .i64 x10, .int .i64 x11, .int .i64 x12] 72) = Y at hXa hXc ⊢
    have e0 := hXa.cell 0
    have e1 := hXa.cell 1
    have e2 := hXa.cell 2
    have e3 := hXa.cell 3
    have e4 := hXa.cell 4
    have e5 := hXa.cell 5
    have e6 := hXa.cell 6
    have e7 := hXa.cell 7
    have e8 := hXa.cell 8
    have e9 := hXa.cell 9
    have e10 := hXa.cell 10
    have e11 := hXa.cell 11
    have e12 := hXa.cell 12
    refine bodyPost_ret (v := .tuple #[.agg #[.string (bs x0), .string (bs x1), .string (bs x2), .string (bs x3), .string (bs x4), .int .u8 x5.toNat, .int .i64 x6, .int .i64 x7, .int .i64 x8, .int .i64 x9, .int .i64 x10, .int .i64 x11, .int .i64 x12], .nilIface]) ?_ rfl ⟨rfl, by rw [← HQ.out]; exact hXc⟩
    simp [results, Tryz.results44, go_sem, e0, e1, e2, e3, e4, e5, e6, e7, e8, e9, e10, e11, e12]

end Go.Proofs.YtkhkjacnoiopcaaGreatDoor

set_option linter.unusedVariables false
set_option linter.unusedSimpArgs false
namespace Go.Proofs.YtkhkjacnoiopcaaGreatDoor
open Go.RowKit

theorem pad_any (n : Nat) (h : n ≤ 1000000000) (w : World) : Calls Tryz.prog 88 #[.int .i64 n] w fun e w' => e = .returned (.int .i64 (Bk.pad n)) ∧ w' = w := by
  have h0 : ¬ (n : Int) < 0 := by omega
  go_enter Tryz.func88, Tryz.ntmps88
  go_wp2_with fail
  go_ret
  exact ⟨congrArg (fun x => Ending.returned (Value.int .i64 x)) (by unfold Bk.pad; omega), rfl⟩

def fillB (s : ByteArray) : ByteArray := ⟨(Bk.fill s.data.toList).toArray⟩
theorem fillB_list (s : ByteArray) : (fillB s).data.toList = Bk.fill s.data.toList := rfl
theorem fillB_size (s : ByteArray) : (fillB s).size = s.size + Bk.pad s.size := by
  show (Bk.fill s.data.toList).length = _
  rw [Bk.fill_len]; simp

theorem fill_any (s : ByteArray) (h : s.size ≤ 1000000) (w : World) : Calls Tryz.prog 75 #[.string s] w fun e w' => e = .returned (.string (fillB s)) ∧ Below w.heap.size w w' := by
  have hp := Bk.pad_lt s.size
  obtain ⟨A, hA, rA⟩ := rep_named 0 (Bk.pad s.size) (by omega)
  have hAs : A.size ≤ 512 := by have := congrArg List.length hA; simp at this; omega
  have he : s ++ A = fillB s := ba_ext (by rw [cat_list, hA, fillB_list]; simp [Bk.fill])
  have HE := Lib.hid he
  have RA := Lib.hid rA
  have PA := Lib.hid (fun w => pad_any s.size (by omega) w)
  have c1 := fun w => run_string_add_sum (P := Tryz.prog) w s A (by omega)
  clear he hA rA
  go_enter Tryz.func75, Tryz.ntmps75
  go_wp2_with fail
  refine (PA.out _).mono ?_
  rintro e w1 ⟨rfl, rfl⟩
  go_wp2_with fail
  refine (RA.out _).mono ?_
  rintro e w2 ⟨rfl, hb⟩
  have HB := Lib.hid hb
  clear hb
  go_wp2_with fail
  go_ret
  rw [HE.out]
  exact ⟨rfl, HB.out⟩

end Go.Proofs.YtkhkjacnoiopcaaGreatDoor

set_option linter.unusedVariables false
set_option linter.unusedSimpArgs false
namespace Go.Proofs.YtkhkjacnoiopcaaGreatDoor
open Go.RowKit Tre Pk

set_option maxRecDepth 100000 in
set_option maxHeartbeats 2000000 in
theorem bytes_at {W : World} {R : Nat} {s t : Bl} (c0 : W.cell? ⟨R, 0, none⟩ = some (.string (bs s))) (a : Nat) (n : Int) (hs : s.length ≤ 100000000) (hb : bytesP s a n = some t) :
    Calls Tryz.prog 84 #[.pointer (some ⟨R, 0, none⟩), .int .i64 a, .int .i64 n] W fun e w' => e = .returned (.tuple #[.string (bs t), .bool true]) ∧ Below W.heap.size W w' := by
  unfold bytesP at hb
  split at hb
  case isFalse => cases hb
  rename_i hh
  obtain ⟨h0, h1⟩ := hh
  obtain ⟨m, rfl⟩ := Int.eq_ofNat_of_zero_le h0
  rw [Int.toNat_natCast] at h1 hb
  cases hb
  have hz : (bs s).size = s.length := bs_size _
  have he : (bs s).extract a (a + m) = bs (fld s a m) := ba_ext (by rw [ext_mid, bs_list, bs_list]; rfl)
  have HE := Lib.hid he
  obtain ⟨S, hS⟩ : ∃ S, S = bs s := ⟨_, rfl⟩
  rw [← hS] at c0 hz HE
  obtain ⟨A, hA⟩ : ∃ A : Int, A = (a : Int) := ⟨_, rfl⟩
  obtain ⟨M, hM⟩ : ∃ M : Int, M = (m : Int) := ⟨_, rfl⟩
  obtain ⟨Q, hQ⟩ : ∃ Q : Int, Q = (Bk.pad m : Int) := ⟨_, rfl⟩
  have PA := Lib.hid (fun w => pad_any m (by omega) w)
  rw [← hM, ← hQ] at PA
  rw [← hA, ← hM]
  have k0 : decide (M < 0) = false := decide_eq_false (by omega)
  have k1 : decide ((S.size : Int) < A) = false := decide_eq_false (by omega)
  have k2 : decide ((S.size : Int) - A < M) = false := decide_eq_false (by omega)
  have k3 : decide ((S.size : Int) - A - M < Q) = false := decide_eq_false (by omega)
  have k4 : A + M ≤ S.size := by omega
  have k5 : (A + M).toNat = a + m := by omega
  have k6 : (0 : Int) ≤ A + M := by omega
  have k7 : A ≤ A + M := by omega
  have k8 : a ≤ a + m := by omega
  have k9 : a + m ≤ S.size := by omega
  have k10 : A.toNat = a := by omega
  have k11 : (0 : Int) ≤ A := by omega
  have j1 : IntKind.i64.wrap ((S.size : Int) - A) = (S.size : Int) - A := IntWalk.i64_in _ (by omega)
  have j2 : IntKind.i64.wrap ((S.size : Int) - A - M) = (S.size : Int) - A - M := IntWalk.i64_in _ (by omega)
  have j3 : IntKind.i64.wrap (A + M) = A + M := IntWalk.i64_in _ (by omega)
  clear he hS hz h0 h1 hA hM hQ
  go_enter Tryz.func84, Tryz.ntmps84
  go_wp2_with fail
  go_quiet ((go_at_call 88; exact Calls.quiet_of_same (PA.out _)))
  go_wp2_with fail
  go_ret2
  rw [HE.out]
  exact ⟨rfl, below_drewN (Below.refl _ _) _⟩
end Go.Proofs.YtkhkjacnoiopcaaGreatDoor

set_option linter.unusedVariables false
set_option linter.unusedSimpArgs false
namespace Go.Proofs.YtkhkjacnoiopcaaGreatDoor
open Go.RowKit

end Go.Proofs.YtkhkjacnoiopcaaGreatDoor

set_option linter.unusedVariables false
set_option linter.unusedSimpArgs false
namespace Go.Proofs.YtkhkjacnoiopcaaGreatDoor
open Go.RowKit

end Go.Proofs.YtkhkjacnoiopcaaGreatDoor

set_option linter.unusedVariables false
set_option linter.unusedSimpArgs false
namespace Go.Proofs.YtkhkjacnoiopcaaGreatDoor

/-- May these operations be taken first, one behind the other, each one skipped? kn: what the guards are known to yield. -/
def skipsOk (md : Region.Mode) (ops : Array Oper) : List Nat → List (Nat × Option Bool) → Array Bool → Bool
  | [], _, _ => true
  | i :: r, kn, listed =>
    (match ops[i]? with
      | some o => (match o.guard with
          | some (g, want) => kn.any fun p => p.1 == g && p.2 != some want
          | none => false) &&
        kn.all fun p => o.dst.isNone || (ops[p.1]?).bind (·.dst) != o.dst
      | none => false) &&
    Region.free md ops listed i && (Region.ready md ops listed).contains i && skipsOk md ops r ((i, none) :: kn) (listed.setIfInBounds i true)

theorem yielded_put_ne {ops : Array Oper} {a : Act} {d : Option Tmp} {v : Value} {j : Nat} (h : d.isNone = true ∨ (ops[j]?).bind (·.dst) ≠ d) : yielded ops (a.put d v).tmps j = yielded ops a.tmps j := by
  cases d with
  | none => rfl
  | some d =>
    have h' : (ops[j]?).bind (·.dst) ≠ some d := h.resolve_left (by simp)
    unfold yielded
    cases ht : (ops[j]?).bind (·.dst) with
    | none => rfl
    | some t =>
      rw [ht] at h'
      have hne : d ≠ t := fun e => h' (by rw [e])
      simp [Act.put, Array.getElem?_setIfInBounds_ne hne]
theorem yielded_put_undef {ops : Array Oper} {a : Act} {j : Nat} {o : Oper} (h : ops[j]? = some o) : yielded ops (a.put o.dst undef).tmps j = none := by
  unfold yielded
  rw [h]
  cases hd : o.dst with
  | none => simp [hd]
  | some d =>
    simp only [Option.bind_some, hd, Act.put]
    by_cases hlt : d < a.tmps.size
    · simp [hlt, undef]
    · simp [hlt]

theorem wpAny_skips {P : Program} {md : Region.Mode} {ops : Array Oper} {Q : Exit → Act → World → Prop} {w : World} (hs : Region.noSelect ops = true) (hQ : ∀ c a d v w, Q (.panic c) (a.put d v) w → Q (.panic c) a w) :
    ∀ (is : List Nat) (kn : List (Nat × Option Bool)) (fuel : Nat) (listed : Array Bool) (a : Act), (∀ p ∈ kn, yielded ops a.tmps p.1 = p.2) → skipsOk md ops is kn listed = true →
      wpAny P md ops Q fuel (is.foldl (fun l i => l.setIfInBounds i true) listed) ((is.map fun i => (ops[i]?).bind (·.dst)).foldl (fun a d => a.put d undef) a) w → wpAny P md ops Q (fuel + is.length) listed a w
  | [], _, _, _, _, _, _, h => h
  | i :: r, kn, fuel, listed, a, hk, hok, h => by
    unfold skipsOk at hok
    simp only [Bool.and_eq_true] at hok
    obtain ⟨⟨⟨h1, h2⟩, h3⟩, h4⟩ := hok
    cases ho : ops[i]? with
    | none => rw [ho] at h1; cases h1
    | some o =>
      rw [ho] at h1
      simp only [Bool.and_eq_true] at h1
      obtain ⟨h5, h6⟩ := h1
      have hd : (ops[i]?).bind (·.dst) = o.dst := by rw [ho]; rfl
      rw [List.map_cons, List.foldl_cons, List.foldl_cons, hd] at h
      have hw : Region.wanted o (yielded ops a.tmps) = false := by
        unfold Region.wanted
        cases hg : o.guard with
        | none => rw [hg] at h5; cases h5
        | some gw =>
          obtain ⟨g, want⟩ := gw
          rw [hg] at h5
          simp only at h5 ⊢
          obtain ⟨p, hp, hpp⟩ := List.any_eq_true.1 h5
          simp only [Bool.and_eq_true, beq_iff_eq, bne_iff_ne] at hpp
          rw [← hpp.1, hk p hp, beq_eq_false_iff_ne]
          exact hpp.2
      refine wpAny_take (fuel := fuel + r.length) (i := i) (oi := o) (v := undef) ho hs h2 h3 (fun c a w => hQ c a _ _ w) (Or.inr ⟨hw, rfl⟩) ?_
      refine wpAny_skips hs hQ r ((i, none) :: kn) fuel _ _ ?_ h4 h
      intro p hp
      rcases List.mem_cons.1 hp with rfl | hp
      · exact yielded_put_undef ho
      · rw [yielded_put_ne, hk p hp]
        have := List.all_eq_true.1 h6 p hp
        simp only [Bool.or_eq_true, bne_iff_ne] at this
        exact this

/-- The same, with the results told. -/
theorem wpAny_skips_of {P : Program} {md : Region.Mode} {ops : Array Oper} {Q : Exit → Act → World → Prop} {w : World} {fuel fuel' : Nat} {listed listed' : Array Bool} {a : Act} (is : List Nat) (kn : List (Nat × Option Bool)) {ds : List (Option Tmp)}
    (hs : Region.noSelect ops = true) (hok : skipsOk md ops is kn listed = true) (hl : is.foldl (fun l i => l.setIfInBounds i true) listed = listed') (hds : (is.map fun i => (ops[i]?).bind (·.dst)) = ds) (hf : fuel' = fuel + is.length)
    (hQ : ∀ c a d v w, Q (.panic c) (a.put d v) w → Q (.panic c) a w) (hk : ∀ p ∈ kn, yielded ops a.tmps p.1 = p.2)
    (h : wpAny P md ops Q fuel listed' (ds.foldl (fun a d => a.put d undef) a) w) : wpAny P md ops Q fuel' listed a w := by
  subst hl hds hf
  exact wpAny_skips hs hQ is kn fuel listed a hk hok h

end Go.Proofs.YtkhkjacnoiopcaaGreatDoor
