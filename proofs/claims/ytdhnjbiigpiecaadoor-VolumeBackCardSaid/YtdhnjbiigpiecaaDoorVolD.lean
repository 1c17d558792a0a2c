/-
  volume.Join: the walk.
-/
import Derived.Test.YtdhnjbiigpiecaaDoorVolC
import Derived.Test.YtdhnjbiigpiecaaDoorUpto
import Derived.Deep.DeepCutAuto
import Derived.Deep.LoopGhost
import Derived.BigRegion
namespace Go.Proofs.YtdhnjbiigpiecaaDoor
open Go.RowKit Go.Maps

/-- Bad ends: what volume j, behind good ones, brings. -/
inductive JBad (n : Nat) (ps : List Part) (T : List UInt8) : Int → Prop
  | spoilt : 512 ≤ T.length → T.length ≤ 100000 → rightL (T.take 512) = false → JBad n ps T 15
  | twice (i : Nat) (p : List UInt8) : T = vol i n p → i < n → p.length ≤ 3072 → (∃ q ∈ ps, q.1 = i) → JBad n ps T 9

theorem intKey (i : Nat) (h : i ≤ 1000000) : keyOf Tryd.prog 3 (.int .i64 i) = some (.int .i64 i) :=
  keyOf_int_mk Tryd.underlying3 (by simp [Lit.wf, IntKind.min, IntKind.max, IntKind.signed, IntKind.bits]; omega)
theorem ptZero : ∀ w, (zeroValue 49).run Tryd.prog w = .ok (.agg #[.string ⟨#[]⟩]) w := fun w => by kernel_rfl

set_option maxRecDepth 100000 in
set_option maxHeartbeats 40000000 in
theorem join_run (n : Nat) (hn : n ≤ 20) (hn1 : 1 ≤ n) (ps : List Part) (Ts : List (List UInt8)) (b off cap : Nat) (w : World)
    (hle : ps.length ≤ Ts.length) (hps : ∀ (j : Nat) (hj : j < ps.length), Ts[j]'(Nat.lt_of_lt_of_le hj hle) = vol ps[j].1 n ps[j].2)
    (hok : ∀ q ∈ ps, q.1 < n ∧ q.2.length ≤ 3072) (hd : ps.Pairwise fun p q => p.1 ≠ q.1) (hT0 : 0 < Ts.length) (hT : Ts.length ≤ 100)
    (hb : b < w.heap.size) (hrow : RowS w b off Ts) (hE : ErrT w) (c : Int)
    (hend : (ps.length = Ts.length) ∨ (∃ h : ps.length < Ts.length, JBad n ps (Ts[ps.length]'h) c)) :
    Calls Tryd.prog 8 #[.slice (some ⟨b, off, none⟩) Ts.length cap] w fun e w' => Below w.heap.size w w' ∧
      ((ps.length = Ts.length ∧ ps.length = n ∧ e = .returned (.tuple #[.string (bs (joinP ps n)), .nilIface])) ∨
       (ps.length = Ts.length ∧ ps.length ≠ n ∧ e = .returned (.tuple #[.string ⟨#[]⟩, .iface 32 (.int .i64 7)])) ∨
       (ps.length < Ts.length ∧ ∃ B, e = .returned (.tuple #[.string ⟨#[]⟩, .iface 51 (.pointer (some ⟨B, 0, none⟩))]) ∧ w'.cell? ⟨B, 0, none⟩ = some (.int .i64 c))) := by
  have HROW := Lib.hid hrow
  have HE := Lib.hid hE
  have HPS := Lib.hid hps
  have HOK := Lib.hid hok
  have HD := Lib.hid hd
  have HEND := Lib.hid hend
  have hTi : (Ts.length : Int) ≤ 100 := by omega
  have hTi0 : (0 : Int) < Ts.length := by omega
  have hTe : ((Ts.length : Int) == 0) = false := beq_eq_false_iff_ne.2 (by omega)
  have lawI := int_keyed Tryd.underlying3
  have hmm := @run_makeMap Tryd.prog
  clear hrow hE hps hok hd hend
  go_enter Tryd.func8, Tryd.ntmps8
  go_wp2_with fail
  go_loopg [5, 6, 7, 8, 9, 10, 11, 12, 22] (Ts.length) (fun gg s5 _ _ _ _ _ _ _ s22 wr => ∃ j : Nat, s22 = .int .i64 j ∧ s5 = .int .i64 (if j = 0 then 0 else n : Nat) ∧ j ≤ ps.length ∧ gg = Ts.length - j ∧ MapF wr Tryd.prog 3 w.heap.size (intF (partF (ps.take j))) j ∧ Below w.heap.size w wr)
  case atStart =>
    refine ⟨0, rfl, rfl, by omega, by omega, ?_, (Below.refl _ _).alloc (Nat.le_refl _) _⟩
    exact (MapF.made w Tryd.prog 3).congr fun k hk => by cases k with | int q x => cases q <;> rfl | _ => rfl
  case round =>
    obtain ⟨j, rfl, rfl, hj, hgg, hM, hbw⟩ := hrel
    have HG := Lib.hid hgg
    have HM := Lib.hid hM
    obtain ⟨m5, hm5⟩ : ∃ m5 : Nat, m5 = if j = 0 then 0 else n := ⟨_, rfl⟩
    rw [← hm5]
    have hm0 : j = 0 → m5 = 0 := fun h => by rw [hm5, if_pos h]
    have hm1 : j ≠ 0 → m5 = n := fun h => by rw [hm5, if_neg h]
    have HM0 := Lib.hid hm0
    have HM1 := Lib.hid hm1
    clear hm5 hm0 hm1
    have HW := Lib.hid hbw
    clear hgg hM hbw
    by_cases hjp : j < ps.length
    · have hjT : (j : Int) < Ts.length := by omega
      have hjT2 : j < Ts.length := by omega
      have hc := HROW.out j hjT2
      rw [HPS.out j hjp] at hc
      have c0 := (HW.out.cell (p := ⟨b, off + j, none⟩) hb).trans hc
      obtain ⟨ho1, ho2⟩ := HOK.out ps[j] (List.getElem_mem hjp)
      have hsn : ps.take (j + 1) = ps.take j ++ [ps[j]] := List.take_succ_eq_append_getElem hjp
      have hnew : ∀ q ∈ ps.take j, q.1 ≠ ps[j].1 := fun q hq => by
        obtain ⟨k, hk, rfl⟩ := List.getElem_of_mem hq
        rw [List.length_take] at hk
        rw [List.getElem_take]
        exact List.pairwise_iff_getElem.1 HD.out k j (by omega) hjp (by omega)
      obtain ⟨q, hq⟩ : ∃ q, q = ps[j] := ⟨_, rfl⟩
      rw [← hq] at c0 ho1 ho2 hsn hnew
      obtain ⟨i, p⟩ := q
      have RD := Lib.hid (fun w => vread_vol i n p ho1 hn ho2 w)
      have HSN := Lib.hid hsn
      have HNEW := Lib.hid hnew
      have hlook : intF (partF (ps.take j)) (.int .i64 i) = none := partF_none.2 fun q hq e => hnew q hq (by omega)
      have HLK := Lib.hid hlook
      have hin : (i : Int) < n := by simp at ho1; omega
      have hni : (n : Int) ≤ 20 := by omega
      obtain ⟨T, hTe⟩ : ∃ T, T = bs (vol i n p) := ⟨_, rfl⟩
      obtain ⟨P, hP⟩ : ∃ P, P = bs p := ⟨_, rfl⟩
      obtain ⟨z, hz⟩ : ∃ z, z = p.length := ⟨_, rfl⟩
      rw [← hTe] at c0 RD
      rw [← hP, ← hz] at RD
      have HP := Lib.hid hP
      clear hc hsn hnew hlook hTe hq hP hz
      repeat' ((fail_if_success (with_reducible refine halt_at 8 ?_)); first | go_values | go_skip | go_guarded | go_step | go_upon | go_back | (simp only [Int.not_lt, Int.not_le] at *; go_simp) | (go_values <;> (try go_simp)) | (go_ite <;> go_prune <;> (try go_simp)) | (split <;> (first | (rename_i hx; exact (hx _ rfl).elim) | go_prune)))
      go_cut [8, 9, 10] (fun s8 s9 s10 wx => ∃ B, s8 = .pointer (some ⟨B, 0, none⟩) ∧ s9 = .string P ∧ s10 = .nilIface ∧ w.heap.size < B ∧ Blk wx B 42 (vcells i n z) ∧ MapF wx Tryd.prog 3 w.heap.size (intF (partF (ps.take j))) j ∧ Below w.heap.size w wx)
      case first =>
        go_wp2_with fail
        refine (RD.out _).mono ?_
        rintro e w1 ⟨rfl, h1⟩
        have hM1 := HM.out.below h1
        have hB1 := HW.out.trans (h1.mono HW.out.size)
        have hlt := hM1.lt
        have X1 := Lib.hid (And.intro hM1 hB1)
        clear h1 hM1 hB1
        unfold vcells
        go_wp2_with fail
        go_meet
        exact ⟨_, rfl, rfl, rfl, hlt, Blk.new w1 _ _, X1.out.1.alloc _, X1.out.2.alloc X1.out.2.size _⟩
      case rest =>
        obtain ⟨B, rfl, rfl, rfl, hlt, hY, hM, hB⟩ := hcut
        have g0 := hY.cell 0
        have g1 := hY.cell 1
        have g2 := hY.cell 2
        have g3 := hY.cell 3
        have g4 := hY.cell 4
        have g5 := hY.cell 5
        have g6 := hY.cell 6
        have g7 := hY.cell 7
        have g8 := hY.cell 8
        have g9 := hY.cell 9
        have g10 := hY.cell 10
        have g11 := hY.cell 11
        have g12 := hY.cell 12
        have HY := Lib.hid hY
        have HM2 := Lib.hid hM
        have HB2 := Lib.hid hB
        clear hY hM hB HM HW
        repeat' ((fail_if_success (with_reducible refine halt_at 9 ?_)); first | go_values | go_skip | go_guarded | go_step | go_upon | go_back | (simp only [Int.not_lt, Int.not_le] at *; go_simp) | (go_values <;> (try go_simp)) | (go_ite <;> go_prune <;> (try go_simp)) | (split <;> (first | (rename_i hx; exact (hx _ rfl).elim) | go_prune)))
        go_cut [10, 44] (fun s10 s44 wx => s10 = .nilIface ∧ s44 = .bool false ∧ wx = wc ∧ True)
        case first =>
          by_cases h0 : j = 0
          · have hj0 : decide ((0 : Int) < (j : Int)) = false := decide_eq_false (by omega)
            have hj1 : decide (0 < j) = false := decide_eq_false (by omega)
            clear h0
            go_wp2_with fail
            go_meet
            exact ⟨rfl, rfl, rfl, trivial⟩
          · have hj0 : (0 : Int) < j := by omega
            have hj1 : 0 < j := by omega
            have hmn := HM1.out h0
            subst hmn
            go_wp2_with fail
            go_meet
            exact ⟨rfl, rfl, rfl, trivial⟩
        case rest =>
          obtain ⟨rfl, rfl, hw, _⟩ := hcut
          subst hw
          repeat' ((fail_if_success (with_reducible refine halt_at 11 ?_)); first | go_values | go_skip | go_guarded | go_step | go_upon | go_back | (simp only [Int.not_lt, Int.not_le] at *; go_simp) | (go_values <;> (try go_simp)) | (go_ite <;> go_prune <;> (try go_simp)) | (split <;> (first | (rename_i hx; exact (hx _ rfl).elim) | go_prune)))
          go_cut [10, 11, 12] (fun s10 _ s12 wx => s10 = .nilIface ∧ s12 = .bool false ∧ Blk wx B 42 (vcells i n z) ∧ MapF wx Tryd.prog 3 w.heap.size (intF (partF (ps.take j))) j ∧ Below w.heap.size w wx)
          case first =>
            go_wp2_with (first
              | (refine wpList_f_look_ok rfl (.tmp 47) (.tmp 49) 45 rfl 49 lawI Tryd.underlying45 ptZero HM2.out rfl (.int .i64 i) (.int .i64 i) rfl (intKey i (by omega)) none HLK.out ?_))
            go_meet
            exact ⟨rfl, rfl, HY.out.alloc _, HM2.out.alloc _, HB2.out.alloc HB2.out.size _⟩
          case rest =>
            obtain ⟨rfl, rfl, hY, hM, hB⟩ := hcut
            clear g0 g1 g2 g3 g4 g5 g6 g7 g8 g9 g10 g11 g12
            have g0 := hY.cell 0
            have g1 := hY.cell 1
            have g2 := hY.cell 2
            have g3 := hY.cell 3
            have g4 := hY.cell 4
            have g5 := hY.cell 5
            have g6 := hY.cell 6
            have g7 := hY.cell 7
            have g8 := hY.cell 8
            have g9 := hY.cell 9
            have g10 := hY.cell 10
            have g11 := hY.cell 11
            have g12 := hY.cell 12
            obtain ⟨wn, hrun, hMn, hgn, hsn⟩ := hM.drew.store lawI Tryd.underlying45 (by unfold maxLen; omega) (intKey i (by omega)) (ptv p)
            have hYn := hY.drew.grown hgn (by intro e; cases e; omega)
            have k7 := hYn.cell 7
            have k6 := hYn.cell 6
            have HMN := Lib.hid hMn
            have HBN := Lib.hid (below_of_only hB.drew hgn hB.size (Nat.le_refl _))
            clear hMn hgn hsn hYn hM hB hY HM2 HB2 HY
            unfold ptv at hrun
            rw [← HP.out] at hrun
            repeat' ((fail_if_success (with_reducible refine halt_at 16 ?_)); first | go_values | go_skip | go_guarded | go_step | go_upon | go_back | (simp only [Int.not_lt, Int.not_le] at *; go_simp) | (go_values <;> (try go_simp)) | (go_ite <;> go_prune <;> (try go_simp)) | (split <;> (first | (rename_i hx; exact (hx _ rfl).elim) | go_prune)))
            go_region
            go_wp2_with fail
            go_roundg (Ts.length - (j + 1))
            case measure => have := HG.out; omega
            case rel =>
              refine ⟨j + 1, by go_num, by rw [if_neg (by omega)], by omega, by omega, ?_, HBN.out⟩
              have h1 := HMN.out
              rw [HLK.out, intF_set, partF_snoc HNEW.out, ← HSN.out] at h1
              exact h1
    · obtain rfl : j = ps.length := by omega
      rw [List.take_length] at HM
      have hp0 : ps.length = Ts.length → m5 = n := fun h => HM1.out (by omega)
      rcases HEND.out with heq | ⟨hlt, hbad⟩
      · have hm5 := hp0 heq
        subst m5
        have hjj : (Ts.length : Int) ≤ ps.length := by omega
        by_cases hpn : ps.length = n
        · have hne : ((ps.length : Int) != (n : Int)) = false := by simp; omega
          have HOL := Lib.hid (fun q hq => (HOK.out q hq).2)
          have HPL := Lib.hid heq
          have HPN := Lib.hid hpn
          have hlen := HM.out.len Tryd.underlying45 3
          clear HG heq hpn hp0
          go_wp2_with fail
          go_loopg [13, 14, 81] n (fun gg s13 _ s81 wr => ∃ k : Nat, s81 = .int .i64 k ∧ s13 = .string (bs (joinP ps k)) ∧ k ≤ n ∧ gg = n - k ∧ MapF wr Tryd.prog 3 w.heap.size (intF (partF ps)) ps.length ∧ Below w.heap.size w wr)
          case atStart => exact ⟨0, rfl, rfl, by omega, by omega, HM.out, HW.out⟩
          case round =>
            obtain ⟨k, rfl, rfl, hk, hgg, hM, hbw⟩ := hrel
            have HG := Lib.hid hgg
            have HM2 := Lib.hid hM
            have HW2 := Lib.hid hbw
            clear hgg hM hbw
            by_cases hkn : k < n
            · have hki : (k : Int) < n := by omega
              have hget : (partF ps (k : Int)).getD (.agg #[.string ⟨#[]⟩]) = .agg #[.string (bs (getP ps (k : Int)))] := partF_get ps k
              have l1 := joinP_len HOL.out k
              have l2 := getP_len HOL.out (k : Int)
              have hs1 : (bs (joinP ps k)).size ≤ 100000 := by rw [bs_size]; omega
              have hs2 : (bs (getP ps (k : Int))).size ≤ 100000 := by rw [bs_size]; omega
              have su := fun w => run_string_add_sum (P := Tryd.prog) w (bs (joinP ps k)) (bs (getP ps (k : Int))) (by omega)
              rw [cat_bs, ← joinP_succ] at su
              have HGT := Lib.hid hget
              obtain ⟨G, hG⟩ : ∃ G, G = bs (getP ps (k : Int)) := ⟨_, rfl⟩
              obtain ⟨O, hO⟩ : ∃ O, O = bs (joinP ps k) := ⟨_, rfl⟩
              rw [← hG] at HGT su
              rw [← hO] at su ⊢
              have hfd : ∀ w, (Instr.field 49 (.agg #[.string G]) 0).run Tryd.prog w = .ok (.string G) w := fun w => by kernel_rfl
              clear hget l1 l2 hs1 hs2 hG hO
              go_wp2_with (first
                | (refine wpList_f_look rfl (.tmp 85) (.tmp 86) 45 rfl 49 lawI Tryd.underlying45 ptZero HM2.out rfl (.int .i64 k) (.int .i64 k) rfl (intKey k (by omega)) (partF ps (k : Int)) rfl ?_; rw [HGT.out]))
              go_roundg (n - (k + 1))
              case measure => have := HG.out; omega
              case rel => exact ⟨k + 1, by go_num, rfl, by omega, by omega, HM2.out, HW2.out⟩
            · have hki : (n : Int) ≤ k := by omega
              obtain rfl : k = n := by omega
              go_wp2_with fail
              go_ret2
              refine ⟨HW2.out, ?_⟩
              first | exact .inl ⟨HPL.out, HPN.out, rfl⟩ | exact ⟨HPL.out, HPN.out, rfl⟩
        · have hne : ((ps.length : Int) != (n : Int)) = true := by simp; omega
          have HPL := Lib.hid heq
          have HPN := Lib.hid hpn
          have hlen := HM.out.len Tryd.underlying45 3
          clear heq hpn hp0
          go_wp2_with fail
          go_ret2
          refine ⟨HW.out, ?_⟩
          first | exact .inr ⟨HPL.out, HPN.out, rfl⟩ | exact .inr (.inl ⟨HPL.out, HPN.out, rfl⟩) | exact ⟨HPL.out, HPN.out, rfl⟩
      · have hjT : (ps.length : Int) < Ts.length := by omega
        have c00 := (HW.out.cell (p := ⟨b, off + ps.length, none⟩) hb).trans (HROW.out ps.length hlt)
        have HLT := Lib.hid hlt
        obtain ⟨T, hTe⟩ : ∃ T, T = Ts[ps.length]'hlt := ⟨_, rfl⟩
        have c0 : wr.cell? ⟨b, off + ps.length, none⟩ = some (.string (bs T)) := by rw [hTe]; exact c00
        have hbad' : JBad n ps T c := by rw [hTe]; exact hbad
        obtain ⟨jj, hjj⟩ : ∃ jj, jj = ps.length := ⟨_, rfl⟩
        have HJJ := Lib.hid hjj
        have HTE := Lib.hid (fun w' (h : Below w.heap.size w w') => tell_errno c w' (HE.out.below h))
        clear hTe hp0 c00 hbad
        cases hbad' with
        | spoilt h1 h2 h3 =>
          have RD := Lib.hid (fun w => vread_spoilt (bs T) (by rw [bs_size]; exact h1) (by rw [bs_size]; exact h2) (by rw [bs_list]; exact h3) w)
          clear h1 h2 h3
          rw [← hjj] at c0 hjT HM ⊢
          rw [← hjj] at HJJ
          clear hjj
          repeat' ((fail_if_success (with_reducible refine halt_at 8 ?_)); first | go_values | go_skip | go_guarded | go_step | go_upon | go_back | (simp only [Int.not_lt, Int.not_le] at *; go_simp) | (go_values <;> (try go_simp)) | (go_ite <;> go_prune <;> (try go_simp)) | (split <;> (first | (rename_i hx; exact (hx _ rfl).elim) | go_prune)))
          go_cut [8, 9, 10] (fun s8 s9 s10 wx => ∃ B, s8 = .pointer (some ⟨B, 0, none⟩) ∧ s9 = .string ⟨#[]⟩ ∧ s10 = .iface 32 (.int .i64 15) ∧ Blk wx B 42 #[.string ⟨#[]⟩, .string ⟨#[]⟩, .string ⟨#[]⟩, .string ⟨#[]⟩, .string ⟨#[]⟩, .int .u8 0, .int .i64 0, .int .i64 0, .int .i64 0, .int .i64 0, .int .i64 0, .int .i64 0, .int .i64 0] ∧ MapF wx Tryd.prog 3 w.heap.size (intF (partF ps)) jj ∧ Below w.heap.size w wx)
          case first =>
            go_wp2_with fail
            refine (RD.out _).mono ?_
            rintro e w1 ⟨rfl, h1⟩
            have hM1 := HM.out.below h1
            have hB1 := HW.out.trans (h1.mono HW.out.size)
            have X1 := Lib.hid (And.intro hM1 hB1)
            clear h1 hM1 hB1
            go_wp2_with fail
            go_meet
            exact ⟨_, rfl, rfl, rfl, Blk.new w1 _ _, X1.out.1.alloc _, X1.out.2.alloc X1.out.2.size _⟩
          case rest =>
            obtain ⟨B, rfl, rfl, rfl, hY, hM, hB⟩ := hcut
            have g0 := hY.cell 0
            have g1 := hY.cell 1
            have g2 := hY.cell 2
            have g3 := hY.cell 3
            have g4 := hY.cell 4
            have g5 := hY.cell 5
            have g6 := hY.cell 6
            have g7 := hY.cell 7
            have g8 := hY.cell 8
            have g9 := hY.cell 9
            have g10 := hY.cell 10
            have g11 := hY.cell 11
            have g12 := hY.cell 12
            have HM2 := Lib.hid hM
            have HB2 := Lib.hid hB
            have hk0 : keyOf Tryd.prog 3 (.int .i64 0) = some (.int .i64 0) := intKey 0 (by omega)
            have hget : (partF ps 0).getD (.agg #[.string ⟨#[]⟩]) = .agg #[.string (bs (getP ps 0))] := partF_get ps 0
            have HGT := Lib.hid hget
            clear hget
            obtain ⟨G, hG⟩ : ∃ G, G = bs (getP ps 0) := ⟨_, rfl⟩
            rw [← hG] at HGT
            clear hY hM hB HM HW hG
            go_wp2_with (first
              | (refine wpList_f_look_ok rfl (.tmp 47) (.tmp 49) 45 rfl 49 lawI Tryd.underlying45 ptZero HM2.out rfl (.int .i64 0) (.int .i64 0) rfl hk0 (partF ps 0) rfl ?_; rw [HGT.out]; generalize (partF ps 0).isSome = isB))
            refine (HTE.out _ (by first | exact X2.out | exact HB2.out.alloc HB2.out.size _)).mono ?_
            rintro e wt ⟨rfl, ht⟩
            have BT := Lib.hid (thenB (HB2.out.alloc HB2.out.size _) ht)
            clear ht
            go_wp2_with fail
            go_ret2
            refine ⟨BT.out.alloc BT.out.size _, ?_⟩
            first
              | exact .inr (.inr ⟨HLT.out, _, rfl, (Blk.new wt _ _).cell 0⟩)
              | exact .inr ⟨HLT.out, _, rfl, (Blk.new wt _ _).cell 0⟩
              | exact ⟨HLT.out, _, rfl, (Blk.new wt _ _).cell 0⟩
              | (trace_state; fail)
        | twice i p e hi hp hq =>
          subst T
          have hp0 : ps.length ≠ 0 := fun h => by obtain ⟨q, hq, _⟩ := hq; rw [List.length_eq_zero_iff.1 h] at hq; cases hq
          have hmn := HM1.out hp0
          subst m5
          have RD := Lib.hid (fun w => vread_vol i n p hi hn hp w)
          have hsome : ∃ v, partF ps (i : Int) = some v := by
            cases hf : partF ps (i : Int) with
            | some v => exact ⟨v, rfl⟩
            | none =>
              obtain ⟨q, hq, e⟩ := hq
              exact absurd (by rw [e]) (partF_none.1 hf q hq)
          obtain ⟨v, hv⟩ := hsome
          have hget : (partF ps (i : Int)).getD (.agg #[.string ⟨#[]⟩]) = .agg #[.string (bs (getP ps (i : Int)))] := partF_get ps i
          rw [hv] at hget
          have hve : v = .agg #[.string (bs (getP ps (i : Int)))] := hget
          obtain ⟨G, hG⟩ : ∃ G, G = bs (getP ps (i : Int)) := ⟨_, rfl⟩
          rw [← hG] at hve
          subst hve
          have HLK := Lib.hid (show intF (partF ps) (.int .i64 i) = some (.agg #[.string G]) from hv)
          obtain ⟨T, hT⟩ : ∃ T, T = bs (vol i n p) := ⟨_, rfl⟩
          obtain ⟨P, hP⟩ : ∃ P, P = bs p := ⟨_, rfl⟩
          obtain ⟨z, hz⟩ : ∃ z, z = p.length := ⟨_, rfl⟩
          rw [← hT] at c0 RD
          rw [← hP, ← hz] at RD
          have hj0 : (0 : Int) < jj := by omega
          have hj1 : 0 < jj := by omega
          rw [← hjj] at c0 hjT HM ⊢
          rw [← hjj] at HJJ
          clear hjj hget hv hG hT hP hz hp0 hq
          repeat' ((fail_if_success (with_reducible refine halt_at 8 ?_)); first | go_values | go_skip | go_guarded | go_step | go_upon | go_back | (simp only [Int.not_lt, Int.not_le] at *; go_simp) | (go_values <;> (try go_simp)) | (go_ite <;> go_prune <;> (try go_simp)) | (split <;> (first | (rename_i hx; exact (hx _ rfl).elim) | go_prune)))
          go_cut [8, 9, 10] (fun s8 s9 s10 wx => ∃ B, s8 = .pointer (some ⟨B, 0, none⟩) ∧ s9 = .string P ∧ s10 = .nilIface ∧ Blk wx B 42 (vcells i n z) ∧ MapF wx Tryd.prog 3 w.heap.size (intF (partF ps)) jj ∧ Below w.heap.size w wx)
          case first =>
            go_wp2_with fail
            refine (RD.out _).mono ?_
            rintro e w1 ⟨rfl, h1⟩
            have hM1 := HM.out.below h1
            have hB1 := HW.out.trans (h1.mono HW.out.size)
            have X1 := Lib.hid (And.intro hM1 hB1)
            clear h1 hM1 hB1
            unfold vcells
            go_wp2_with fail
            go_meet
            exact ⟨_, rfl, rfl, rfl, Blk.new w1 _ _, X1.out.1.alloc _, X1.out.2.alloc X1.out.2.size _⟩
          case rest =>
            obtain ⟨B, rfl, rfl, rfl, hY, hM, hB⟩ := hcut
            have g0 := hY.cell 0
            have g1 := hY.cell 1
            have g2 := hY.cell 2
            have g3 := hY.cell 3
            have g4 := hY.cell 4
            have g5 := hY.cell 5
            have g6 := hY.cell 6
            have g7 := hY.cell 7
            have g8 := hY.cell 8
            have g9 := hY.cell 9
            have g10 := hY.cell 10
            have g11 := hY.cell 11
            have g12 := hY.cell 12
            have HM2 := Lib.hid hM
            have HB2 := Lib.hid hB
            clear hY hM hB HM HW
            go_wp2_with (first
              | (refine wpList_f_look_ok rfl (.tmp 47) (.tmp 49) 45 rfl 49 lawI Tryd.underlying45 ptZero HM2.out rfl (.int .i64 i) (.int .i64 i) rfl (intKey i (by omega)) (some (.agg #[.string G])) HLK.out ?_))
            refine (HTE.out _ (by first | exact X2.out | exact HB2.out.alloc HB2.out.size _)).mono ?_
            rintro e wt ⟨rfl, ht⟩
            have BT := Lib.hid (thenB (HB2.out.alloc HB2.out.size _) ht)
            clear ht
            go_wp2_with fail
            go_ret2
            refine ⟨BT.out.alloc BT.out.size _, ?_⟩
            first
              | exact .inr (.inr ⟨HLT.out, _, rfl, (Blk.new wt _ _).cell 0⟩)
              | exact .inr ⟨HLT.out, _, rfl, (Blk.new wt _ _).cell 0⟩
              | exact ⟨HLT.out, _, rfl, (Blk.new wt _ _).cell 0⟩
              | (trace_state; fail)

end Go.Proofs.YtdhnjbiigpiecaaDoor
