/-
  The walk of Follow.
-/
import Derived.Test.YtehooifcgfkngaaDoorFollow
import Derived.Test.YtehooifcgfkngaaDoorUpto
namespace Go.Proofs.YtehooifcgfkngaaDoor
open Go.RowKit Go.Maps Tre

theorem errV_of {c : Int} (h : c ≠ 0) : errV c = .iface 67 (.int .i64 c) := if_neg h

theorem tail_from {w : World} {b n : Nat} {P : List Pth.Bs} (hr : RowS w b 0 P) : ∀ j u, (txCells (P.drop n))[j]? = some u → w.cell? ((⟨b, n, none⟩ : Addr).add j) = some u := by
  intro j u hu
  have hj : j < (P.drop n).length := by
    rcases Nat.lt_or_ge j (P.drop n).length with h | h
    · exact h
    · rw [List.getElem?_eq_none (by rw [txCells_len]; exact h)] at hu; cases hu
  have hj' : n + j < P.length := by rw [List.length_drop] at hj; omega
  rw [txCells_get _ j hj, List.getElem_drop] at hu
  have hplain : (⟨b, n, none⟩ : Addr).add j = ⟨b, n + j, none⟩ := by unfold Addr.add; split <;> simp_all
  rw [hplain]
  have := hr (n + j) hj'
  rw [Nat.zero_add] at this
  rw [this]; exact hu
theorem tail_end {w : World} {b n : Nat} {P : List Pth.Bs} (h : P.length ≤ n) : ∀ j u, (txCells (P.drop n))[j]? = some u → w.cell? ((⟨b, 0, none⟩ : Addr).add j) = some u := by
  intro j u hu
  rw [List.drop_eq_nil_of_le h] at hu
  cases hu
theorem owned_app {w : World} {B n : Nat} {v : Value} {L M : List Pth.Bs} (h : w.ownsRow B 9 1 v (L.length + (M.length - n)) (txCells L ++ txCells (M.drop n))) : HasT w 0 v (L ++ M.drop n) := by
  have e : (L ++ M.drop n).length = L.length + (M.length - n) := by rw [List.length_append, List.length_drop]
  have : HasT w B v (L ++ M.drop n) := by unfold HasT; rw [e, txCells_app]; exact h
  exact this.mono (Nat.zero_le _)

set_option maxRecDepth 100000 in
set_option maxHeartbeats 8000000 in
theorem follow_any {w : World} {g : Nat} {on of : Option Nat} {t : T} (h : TreeAt w g on of t) (ht : Std t) (hx : t.nx ≤ 100000) (hm : ML w) (s : Pth.Bs) (hs : s.length ≤ 1000) :
    Calls Tryd.prog 21 #[.pointer (some ⟨g, 0, none⟩), .string (bs s)] w fun e w' => e = .returned (.tuple #[.string (bs (Tre.follow t s).1), errV (Tre.follow t s).2]) ∧ Below w.heap.size w w' := by
  obtain ⟨i0, i1, i2, i3, i4⟩ := info_parts infoTx
  have HT := Lib.hid h
  have HS := Lib.hid ht
  have HM := Lib.hid hm
  have hnn : ∀ s k, Tre.look t.ents s = some k → k ≤ 1000000 := fun s k h => by have := (ht.short h).2; omega
  have HNN := Lib.hid hnn
  have HX := Lib.hid hx
  have CL := Lib.hid (clean_any (bs s) w (by rw [bs_size]; omega) hm)
  rw [bs_list] at CL
  have hcl := Pth.clean_len s
  obtain ⟨R, hR⟩ : ∃ R, R = Tre.follow t s := ⟨_, rfl⟩
  rw [← hR]
  have HR := Lib.hid hR
  clear h ht hm hnn hx hR
  go_enter Tryd.func21, Tryd.ntmps21
  go_wp2_with fail
  refine (of_any g w HT.out.blk).mono ?_
  rintro e w' ⟨rfl, hw⟩
  subst w'
  go_wp2_with fail
  refine CL.out.mono ?_
  rintro e w1 ⟨rfl, h1⟩
  have B1 := Lib.hid h1
  clear h1
  cases hok : Pth.cleanOk s with
  | false =>
    have e : R = ([], 5) := by rw [HR.out]; unfold Tre.follow; rw [if_pos hok]
    subst e
    clear hok
    go_wp2_with fail
    go_ret2
    exact ⟨rfl, B1.out⟩
  | true =>
    have e : goes t 8 (Pth.clean s) = R := by rw [HR.out]; unfold Tre.follow; rw [if_neg (by simp [hok])]
    obtain ⟨N0, hN0⟩ : ∃ N, N = Pth.clean s := ⟨_, rfl⟩
    rw [← hN0] at e hcl ⊢
    have E0 := Lib.hid e
    clear e hok hN0 CL
    go_wp2_with fail
    go_loopg [6, 8] 8 (fun gg nv cv wr => ∃ (c : Nat) (now : Pth.Bs), cv = .int .i64 c ∧ c + gg = 8 ∧ nv = .string (bs now) ∧ now.length ≤ 1001 + 300 * c ∧ Hid (goes t gg now = R) ∧ Below w.heap.size w wr)
    case atStart => exact ⟨0, N0, rfl, by omega, rfl, by omega, E0, B1.out⟩
    case round =>
      obtain ⟨c, now, rfl, hcg, rfl, hnl, HG, hbw⟩ := hrel
      have BW := Lib.hid hbw
      clear hbw
      have hc8 : c ≤ 8 := by omega
      have hnl2 : now.length ≤ 4000 := by omega
      have PR := Lib.hid (parts_row (bs now) wr (by rw [bs_size]; omega) (HM.out.below BW.out))
      rw [bs_list] at PR
      have hw1 := wid_parts now
      obtain ⟨P, hP⟩ : ∃ P, P = Pth.parts now := ⟨_, rfl⟩
      rw [← hP] at PR hw1
      have hPl := wid_len P
      have hPj := wid_join P
      have HP := Lib.hid hP
      clear hP
      go_wp2_with fail
      refine PR.out.mono ?_
      rintro e w2 ⟨b, cap, rfl, hcap, hbw2, hb2, hrow, h2⟩
      have B2 := Lib.hid (thenB BW.out h2)
      have R2 := Lib.hid hrow
      have SO := Lib.hid (softOn_any (HT.out.below B2.out) HS.out HX.out hrow hb2 hcap (by omega) (by omega))
      clear hrow h2 PR hbw2
      go_wp2_with fail
      refine SO.out.mono ?_
      rintro e w3 ⟨rfl, h3⟩
      have B3 := Lib.hid (thenB B2.out h3)
      have R3 := Lib.hid (R2.out.below h3 hb2)
      have hb3 : b < w3.heap.size := Nat.lt_of_lt_of_le hb2 h3.size
      clear h3 SO hb2
      by_cases hn0 : soft t P = 0
      · rw [hn0]
        have e : ends t now = R := by rw [← HG.out, goes_soft (by rw [← HP.out]; exact hn0)]
        by_cases hno : now = []
        · have hdn : (bs now).toList = [] := (str_nil now).2 hno
          have hde : (bs now).toList.isEmpty = true := by rw [List.isEmpty_iff]; exact hdn
          have e2 : R = (now, 0) := by rw [← e]; unfold ends; rw [if_neg (by simp [hno])]
          subst e2
          clear e hn0 hno
          go_wp2_with fail
          go_ret2
          exact ⟨rfl, B3.out⟩
        · have hdn : ¬ (bs now).toList = [] := fun e => hno ((str_nil now).1 e)
          have hde : (bs now).toList.isEmpty = false := by rw [← Bool.not_eq_true, List.isEmpty_iff]; exact hdn
          have HA := Lib.hid (thas_any (HT.out.below B3.out) (bs now) (by rw [bs_size]; omega))
          rw [bs_list] at HA
          cases hh : t.has now with
          | true =>
            rw [hh] at HA
            have e2 : R = (now, 0) := by rw [← e]; unfold ends; rw [if_neg (by simp [hh])]
            subst e2
            clear e hn0 hno hh
            go_wp2_with fail
            refine HA.out.mono ?_
            rintro e w' ⟨rfl, hw⟩
            subst w'
            go_wp2_with fail
            go_ret2
            exact ⟨rfl, B3.out⟩
          | false =>
            rw [hh] at HA
            have e2 : R = ([], 7) := by rw [← e]; unfold ends; rw [if_pos ⟨hno, hh⟩]
            subst e2
            clear e hn0 hno hh
            go_wp2_with fail
            refine HA.out.mono ?_
            rintro e w' ⟨rfl, hw⟩
            subst w'
            go_wp2_with fail
            go_ret2
            exact ⟨rfl, B3.out⟩
      · obtain ⟨hnP, hki⟩ := soft_spec hn0
        obtain ⟨k, hk, hkind, hrt, hll, hla⟩ := link_at HS.out hki
        have JN := Lib.hid (join_take R3.out hb3 hcap (by omega) (by omega) (soft t P) hnP)
        obtain ⟨n, hn⟩ : ∃ n, n = soft t P := ⟨_, rfl⟩
        have HN := Lib.hid hn
        rw [← hn] at hn0 hnP hk hrt hla JN ⊢
        have hni : ((n : Int) == 0) = false := beq_eq_false_iff_ne.2 (by omega)
        have hnc : (n : Int) ≤ cap := by omega
        by_cases hc : c = 8
        · subst hc
          obtain rfl : gk = 0 := by omega
          have e : R = ([], 11) := by rw [← HG.out]; unfold goes; rw [if_neg (by rw [← HP.out, ← HN.out]; exact hn0)]
          subst e
          go_wp2_with fail
          go_ret2
          exact ⟨rfl, B3.out⟩
        have hci : ((c : Int) == 8) = false := beq_eq_false_iff_ne.2 (by omega)
        obtain ⟨q, rfl⟩ : ∃ q, gk = q + 1 := ⟨gk - 1, by omega⟩
        obtain ⟨a, ha⟩ : ∃ a, a = pre P n := ⟨_, rfl⟩
        rw [← ha] at hk hrt hla JN
        have GT := Lib.hid (fun w' (hbl : Below w.heap.size w w') => get_any (HT.out.below hbl) (bs a) (fun k hk => HNN.out _ k hk) (by rw [bs_size]; have := (right_len hrt).1; omega))
        have hgv : getV t (bs a).data.toList = .tuple #[ndv (t.file k), .nilIface] := getV_of (by rw [bs_list]; exact hk)
        rw [hgv] at GT
        have hop_eq : hop t now = toP a (t.file k).link := by unfold hop; rw [← HP.out, ← HN.out, ← ha, hla]
        have TO := Lib.hid (fun w' (hbl : Below w.heap.size w w') => to_any a (t.file k).link w' hrt (by omega) (HM.out.below hbl))
        have htl := toP_len (a := a) (link := (t.file k).link) hrt hll
        rw [← hop_eq] at TO htl
        have hgo : R = if (hop t now).2 = false then ([], 5) else goes t q (next t now) := by
          rw [← HG.out]; show goes t (q + 1) now = _
          rw [goes, if_neg (by rw [← HP.out, ← HN.out]; exact hn0)]
        have hnx : next t now = Pth.join (Pth.parts (hop t now).1 ++ P.drop n) := by unfold next; rw [← HP.out, ← HN.out]
        obtain ⟨H, hH⟩ : ∃ H, H = hop t now := ⟨_, rfl⟩
        rw [← hH] at TO htl hgo hnx
        obtain ⟨h1, ok⟩ := H
        simp only at TO htl hgo hnx
        obtain ⟨nd, hnd⟩ : ∃ nd, nd = t.file k := ⟨_, rfl⟩
        rw [← hnd] at GT TO
        obtain ⟨m0, m1, m2, m3, m4, m5, m6, m7, m8, m9⟩ := nd
        unfold ndv ndc at GT
        simp only at GT TO
        have HGO := Lib.hid hgo
        have HNX := Lib.hid hnx
        clear hki hk hkind hrt hll hla hn hgv hop_eq hH hnd ha hgo hnx
        go_wp2_with fail
        refine JN.out.mono ?_
        rintro e w4 ⟨rfl, h4⟩
        have B4 := Lib.hid (thenB B3.out h4)
        have R4 := Lib.hid (R3.out.below h4 hb3)
        have hb4 : b < w4.heap.size := Nat.lt_of_lt_of_le hb3 h4.size
        clear h4 JN hb3
        go_wp2_with fail
        refine (GT.out _ B4.out).mono ?_
        rintro e w5 ⟨rfl, h5⟩
        have BB5 := h5.alloc h5.size (.cells #[.int .u8 m0, .int .i64 m1, .int .i64 m2, .int .i64 m3, .int .i64 m4, .int .i64 m5, .string (bs m6), .string (bs m7), .int .i64 m8, .int .i64 m9] 35)
        have B5 := Lib.hid (thenB B4.out BB5)
        have R5 := Lib.hid (R4.out.below BB5 hb4)
        have hb5 : b < (w5.alloc (.cells #[.int .u8 m0, .int .i64 m1, .int .i64 m2, .int .i64 m3, .int .i64 m4, .int .i64 m5, .string (bs m6), .string (bs m7), .int .i64 m8, .int .i64 m9] 35)).heap.size := Nat.lt_of_lt_of_le hb4 BB5.size
        have d7 := (Blk.new w5 35 #[.int .u8 m0, .int .i64 m1, .int .i64 m2, .int .i64 m3, .int .i64 m4, .int .i64 m5, .string (bs m6), .string (bs m7), .int .i64 m8, .int .i64 m9]).cell 7
        simp only [List.getElem?_toArray, List.getElem?_cons_zero, List.getElem?_cons_succ] at d7
        clear h5 BB5 hb4
        go_wp2_with fail
        refine (TO.out _ B5.out).mono ?_
        rintro e w6 ⟨rfl, h6⟩
        have B6 := Lib.hid (thenB B5.out h6)
        have R6 := Lib.hid (R5.out.below h6 hb5)
        have hb6 : b < w6.heap.size := Nat.lt_of_lt_of_le hb5 h6.size
        clear h6 d7 hb5 GT TO
        cases ok with
        | false =>
          have e : R = ([], 5) := by rw [HGO.out, if_pos rfl]
          subst e
          go_wp2_with fail
          go_ret2
          exact ⟨rfl, B6.out⟩
        | true =>
          have HG2 := Lib.hid (show goes t q (next t now) = R by rw [HGO.out, if_neg (by simp)])
          rw [HNX.out] at HG2
          have po := fun w' (hb : Below w6.heap.size w6 w') => parts_own (bs h1) w' (by rw [bs_size]; omega) (HM.out.below (thenB B6.out hb))
          rw [bs_list] at po
          have PO := Lib.hid (fun w' (hb : Below w6.heap.size w6 w') => (po w' hb).mono (fun e wt ⟨v, he, hv, h⟩ => (⟨v, he, hv.mono hb.size, thenB hb h⟩ : ∃ v, e = Ending.returned v ∧ HasT wt w6.heap.size v (Pth.parts h1) ∧ Below w6.heap.size w6 wt)))
          clear po
          have hw2 := wid_parts h1
          obtain ⟨L, hL⟩ : ∃ L, L = Pth.parts h1 := ⟨_, rfl⟩
          rw [← hL] at PO HG2 hw2
          have hLl := wid_len L
          have hwd := wid_drop P n
          have hwa := wid_app L (P.drop n)
          have hwl := wid_len (L ++ P.drop n)
          have hwj := wid_join (L ++ P.drop n)
          obtain ⟨N, hN⟩ : ∃ N, N = Pth.join (L ++ P.drop n) := ⟨_, rfl⟩
          have JJ := Lib.hid (fun w' v (hv : HasT w' 0 v (L ++ P.drop n)) => join_any hv.has (by omega) (by omega))
          rw [← hN] at JJ HG2 hwj
          have hLb : L.length ≤ 252 := by omega
          have hPb : P.length ≤ 4001 := by omega
          have hnlen : N.length ≤ 1001 + 300 * (c + 1) := by omega
          clear hL hN HGO HNX hwd hwa hwl hwj hw2
          repeat' ((fail_if_success (with_reducible refine halt_at 17 ?_)); first | go_values | go_skip | go_guarded | go_step | go_upon | go_back | (simp only [Int.not_lt, Int.not_le] at *; go_simp) | (go_values <;> (try go_simp)) | (go_ite <;> go_prune <;> (try go_simp)) | (split <;> (first | (rename_i hx; exact (hx _ rfl).elim) | go_prune)))
          have bw := Below.refl w6.heap.size w6
          have hnPi : (n : Int) ≤ P.length := by omega
          have hcapi : (P.length : Int) ≤ cap := by omega
          have hn00 : (0 : Int) ≤ n := by omega
          have hlen1 : (P.drop n).length = P.length - n := List.length_drop
          by_cases hcn : cap = n
          · have hcni : (cap : Int) = n := by omega
            go_region_held3 (fun w' => Below w6.heap.size w6 w')
              (first | with_reducible assumption | with_reducible exact Below.drew bw)
              (first
                | (go_at_call 41; go_split_ands; refine (PO.out _ (by with_reducible assumption)).mono ?_; rintro e wt ⟨v7, rfl, hv7, TB⟩; have V7 := Lib.hid hv7; clear hv7)
                | (refine step_append_owned rfl (.tmp 59) (.tmp 62) 26 rfl 9 i0 _ 1 16 Tryd.underlying26 i1 i2 i3 i4 rfl (by decide) w6.heap.size v7 L.length (txCells L) rfl V7.out ⟨b, 0, none⟩ (P.length - n) _ (txCells (P.drop n)) rfl (by simp [txCells]) (tail_end (by omega)) (txCells_one _) (by unfold maxLen; omega) (by omega) (Below.size TB) ?_; intro v8 w8 hown8 hg8; have B8 : Below w6.heap.size w6 w8 := (TB.grown hg8 TB.size (fun q hq => (World.ownsRow.lt V7.out q hq).1)); have V8 := Lib.hid (owned_app hown8); clear hown8 hg8)
                | (go_at_call 43; refine (JJ.out _ _ V8.out).mono ?_; rintro e w9 ⟨rfl, h9⟩; have B9 : Below w6.heap.size w6 w9 := (thenB B8 h9); clear h9)
                | fail)
            all_goals go_wp2_with fail
            all_goals go_roundg q
            case measure => omega
            case rel => exact ⟨c + 1, N, by go_num, by omega, rfl, hnlen, HG2, thenB B6.out B9⟩
          · have hcni : ¬ (cap : Int) = n := by omega
            have hcni2 : (n : Int) < cap := by omega
            go_region_held3 (fun w' => Below w6.heap.size w6 w')
              (first | with_reducible assumption | with_reducible exact Below.drew bw)
              (first
                | (go_at_call 41; go_split_ands; refine (PO.out _ (by with_reducible assumption)).mono ?_; rintro e wt ⟨v7, rfl, hv7, TB⟩; have V7 := Lib.hid hv7; clear hv7)
                | (refine step_append_owned rfl (.tmp 59) (.tmp 62) 26 rfl 9 i0 _ 1 16 Tryd.underlying26 i1 i2 i3 i4 rfl (by decide) w6.heap.size v7 L.length (txCells L) rfl V7.out ⟨b, n, none⟩ (P.length - n) _ (txCells (P.drop n)) rfl (by simp [txCells]) (tail_from (R6.out.below TB hb6)) (txCells_one _) (by unfold maxLen; omega) (by omega) (Below.size TB) ?_; intro v8 w8 hown8 hg8; have B8 : Below w6.heap.size w6 w8 := (TB.grown hg8 TB.size (fun q hq => (World.ownsRow.lt V7.out q hq).1)); have V8 := Lib.hid (owned_app hown8); clear hown8 hg8)
                | (go_at_call 43; refine (JJ.out _ _ V8.out).mono ?_; rintro e w9 ⟨rfl, h9⟩; have B9 : Below w6.heap.size w6 w9 := (thenB B8 h9); clear h9)
                | fail)
            all_goals go_wp2_with fail
            all_goals go_roundg q
            case measure => omega
            case rel => exact ⟨c + 1, N, by go_num, by omega, rfl, hnlen, HG2, thenB B6.out B9⟩

end Go.Proofs.YtehooifcgfkngaaDoor
