/-
  (*Tree).room, space.
-/
import Derived.Test.YtehooifcgfkngaaDoorTreeE
namespace Go.Proofs.YtehooifcgfkngaaDoor
open Go.RowKit Go.Maps Tre

theorem last_ok' {A : List Pth.Bs} (hA : Pth.Cl A) (h0 : A ≠ []) : Pth.Ok (A.getLast h0) := (hA _ (List.getLast_mem h0)).1
theorem up_parts {A : List Pth.Bs} (hA : Pth.Cl A) (h0 : A ≠ []) (hl : (Pth.join A).length ≤ 1000) (w : World) :
    Calls Tryd.prog 22 #[.string (bs (Pth.join A))] w fun e w' => e = .returned (.tuple #[.string (bs (Pth.join A.dropLast)), .string (bs (A.getLast h0))]) ∧ Below w.heap.size w w' := by
  have hj := Pth.join_last h0
  by_cases h : A.dropLast = []
  · rw [if_pos h] at hj
    have := up_none (bs (Pth.join A)) w (by rw [bs_size]; omega) (by rw [bs_list, hj]; exact (last_ok' hA h0).2.2)
    rw [h]
    rw [hj] at this ⊢
    exact this
  · rw [if_neg h] at hj
    have hl2 := congrArg List.length hj
    simp at hl2
    have := up_some (Pth.join A.dropLast) (A.getLast h0) w (by omega) (last_ok' hA h0).2.2
    rw [← hj] at this
    exact this
theorem pre_length (P : List Pth.Bs) (i : Nat) : (pre P i).length ≤ (Pth.join P).length := by
  by_cases h1 : P.take i = []
  · unfold pre; rw [h1]; exact Nat.zero_le _
  · by_cases h2 : P.drop i = []
    · unfold pre
      have : P.take i = P := by
        have := List.take_append_drop i P
        rw [h2, List.append_nil] at this; exact this
      rw [this]; exact Nat.le_refl _
    · have := Pth.join_app h1 h2
      rw [List.take_append_drop] at this
      unfold pre
      rw [this]; simp
theorem up_pre {P : List Pth.Bs} (hP : Pth.Cl P) (hl : (Pth.join P).length ≤ 1000) (j : Nat) (hj : j + 1 ≤ P.length) (w : World) :
    Calls Tryd.prog 22 #[.string (bs (pre P (j + 1)))] w fun e w' => ∃ x, e = .returned (.tuple #[.string (bs (pre P j)), .string x]) ∧ Below w.heap.size w w' := by
  have hlen : (P.take (j + 1)).length = j + 1 := by rw [List.length_take]; omega
  have h0 : P.take (j + 1) ≠ [] := List.ne_nil_of_length_pos (by omega)
  have hd : (P.take (j + 1)).dropLast = P.take j := by
    rw [List.dropLast_eq_take, hlen, List.take_take, Nat.min_eq_left (by omega)]; rfl
  have := up_parts (cl_take hP (j + 1)) h0 (Nat.le_trans (pre_length P (j + 1)) hl) w
  rw [hd] at this
  exact this.mono fun e w' ⟨he, hb⟩ => ⟨_, he, hb⟩
theorem str_nil (l : List UInt8) : ((bs l).toList = []) ↔ l = [] := by
  rw [show (bs l).toList = l from Lib.toList_data _]
theorem pre_zero (P : List Pth.Bs) : pre P 0 = [] := rfl

set_option maxRecDepth 100000 in
set_option maxHeartbeats 2000000 in
theorem room_any {w : World} {g : Nat} {on of : Option Nat} {t : T} (h : TreeAt w g on of t) (ht : Std t) (hx : t.nx ≤ 1000000) (hm : ML w) (s : ByteArray) (hs : s.size ≤ 100000) :
    Calls Tryd.prog 54 #[.pointer (some ⟨g, 0, none⟩), .string s] w fun e w' => e = .returned (errV (room t s.data.toList)) ∧ Below w.heap.size w w' := by
  have RT := Lib.hid (right_any s w (by omega) hm)
  have HT := Lib.hid h
  have HS := Lib.hid ht
  have HX := Lib.hid hx
  clear h ht hx hm
  cases hr : Pth.right s.data.toList with
  | false =>
    have e : room t s.data.toList = 5 := by unfold room; rw [if_pos hr]
    rw [e]
    rw [hr] at RT
    clear e hr
    go_enter Tryd.func54, Tryd.ntmps54
    go_wp2_with fail
    refine RT.out.mono ?_
    rintro e w1 ⟨rfl, h1⟩
    have B1 := Lib.hid h1
    clear h1
    go_wp2_with fail
    go_ret
    exact ⟨rfl, B1.out⟩
  | true =>
    have HA := Lib.hid (fun w' (hb : Below w.heap.size w w') => thas_any (HT.out.below hb) s (by omega))
    rw [hr] at RT
    cases hh : t.has s.data.toList with
    | true =>
      have e : room t s.data.toList = 9 := by unfold room; rw [if_neg (by simp [hr]), if_pos hh]
      rw [e]
      rw [hh] at HA
      clear e hr hh
      go_enter Tryd.func54, Tryd.ntmps54
      go_wp2_with fail
      refine RT.out.mono ?_
      rintro e w1 ⟨rfl, h1⟩
      have B1 := Lib.hid h1
      clear h1
      go_wp2_with fail
      refine (HA.out _ B1.out).mono ?_
      rintro e w' ⟨rfl, hw⟩
      subst w'
      go_wp2_with fail
      go_ret
      exact ⟨rfl, B1.out⟩
    | false =>
      rw [hh] at HA
      obtain ⟨hc, hn0⟩ := right_cl hr
      have hj := right_join hr
      have hl := (right_len hr).1
      have e : room t s.data.toList = if Tre.blocked t (Pth.parts s.data.toList) = true then 6 else if 2 ≤ (Pth.parts s.data.toList).length ∧ t.has (pre (Pth.parts s.data.toList) ((Pth.parts s.data.toList).length - 1)) = false then 7 else 0 := by
        unfold room; rw [if_neg (by simp [hr]), if_neg (by simp [hh])]
      rw [e]
      obtain ⟨P, hP⟩ : ∃ P, P = Pth.parts s.data.toList := ⟨_, rfl⟩
      rw [← hP] at hc hn0 hj ⊢
      have hlen : (Pth.join P).length ≤ 120 := by rw [hj]; exact hl
      obtain ⟨n, hn⟩ : ∃ n, P.length = n + 1 := ⟨P.length - 1, by have := List.length_pos_iff.2 hn0; omega⟩
      have es : s = bs (pre P (n + 1)) := by rw [← hn, pre_len, hj, bs_of]
      have UPS := Lib.hid (fun w j (hj : j + 1 ≤ P.length) => up_pre hc (by omega) j hj w)
      have UP0 := Lib.hid (fun w => by
        have := UPS.out w n (by omega)
        rw [← es] at this
        exact this)
      have PL := Lib.hid (fun i => Nat.le_trans (pre_length P i) hlen)
      have HAS := Lib.hid (fun w' (hb : Below w.heap.size w w') i => thas_any (HT.out.below hb) (bs (pre P i)) (by rw [bs_size]; have := PL.out i; omega))
      have ISD := Lib.hid (fun w' (hb : Below w.heap.size w w') i => isDir_any (HT.out.below hb) (bs (pre P i)) (fun k hk => Nat.le_trans (HS.out.short hk).2 HX.out) (by rw [bs_size]; have := PL.out i; omega))
      have HPN := Lib.hid (fun j (h1 : 1 ≤ j) (h2 : j ≤ n) => pre_ne hc h1 (by omega : j ≤ P.length))
      have HN := Lib.hid hn
      rw [hn, Nat.add_sub_cancel]
      obtain ⟨R, hR⟩ : ∃ R, R = errV (if Tre.blocked t P = true then 6 else if 2 ≤ n + 1 ∧ t.has (pre P n) = false then 7 else 0) := ⟨_, rfl⟩
      rw [← hR]
      have HR := Lib.hid hR
      clear hR
      clear e hr hh hP hc hn0 hj hl hlen es hn
      go_enter Tryd.func54, Tryd.ntmps54
      go_wp2_with fail
      refine RT.out.mono ?_
      rintro e w1 ⟨rfl, h1⟩
      have B1 := Lib.hid h1
      clear h1
      go_wp2_with fail
      refine (HA.out _ B1.out).mono ?_
      rintro e w' ⟨rfl, hw⟩
      subst w'
      go_wp2_with fail
      refine (UP0.out _).mono ?_
      rintro e w2 ⟨x, rfl, h2⟩
      have B2 := Lib.hid (thenB B1.out h2)
      clear h2 hs
      go_wp2_with fail
      go_loopg [7] n (fun gg s7 wr => ∃ j : Nat, gg = j ∧ j ≤ n ∧ s7 = .string (bs (pre P j)) ∧ Hid (Below w.heap.size w wr) ∧ Hid (∀ i, j < i → i ≤ n → t.has (pre P i) = true → t.isDir (pre P i) = true))
      case atStart => exact ⟨n, rfl, Nat.le_refl _, rfl, B2, Lib.hid (fun i h1 h2 => by omega)⟩
      case round =>
        obtain ⟨j, hgj, hjn, rfl, HB, HI⟩ := hrel
        subst gk
        cases j with
        | zero =>
          have hbl : Tre.blocked t P = false := by
            unfold Tre.blocked
            rw [List.any_eq_false]
            intro i hi
            have hi2 := List.mem_range.1 hi
            have hn := HN.out
            by_cases h0 : 1 ≤ i
            · cases hb : t.has (pre P i)
              · simp
              · have := HI.out i (by omega) (by omega) hb
                simp [this]
            · simp [h0]
          have hR := HR.out
          rw [hbl, if_neg (by simp)] at hR
          have e0 : bs (pre P 0) = ⟨#[]⟩ := rfl
          rw [e0]
          clear hbl e0
          cases n with
          | zero =>
            have e0 : bs (pre P 0) = ⟨#[]⟩ := rfl
            rw [e0]
            rw [if_neg (by omega)] at hR
            have HR1 := Lib.hid hR
            clear e0 hR
            go_wp2_with fail
            go_ret
            exact ⟨by rw [HR1.out]; rfl, HB.out⟩
          | succ m =>
            obtain ⟨S, hS⟩ : ∃ S, S = bs (pre P (m + 1)) := ⟨_, rfl⟩
            have h1 : S.toList.isEmpty = false := by
              rw [hS, show (bs (pre P (m + 1))).toList = pre P (m + 1) from Lib.toList_data _]
              have := HPN.out (m + 1) (by omega) (by omega)
              simpa using this
            have h2 : ¬ S.toList = [] := by simpa using h1
            have HS2 := Lib.hid (HAS.out _ HB.out (m + 1))
            rw [← hS] at HS2 ⊢
            obtain ⟨q, hq⟩ : ∃ q, q = t.has (pre P (m + 1)) := ⟨_, rfl⟩
            have hq2 : S.data.toList = pre P (m + 1) := by rw [hS]; rfl
            rw [hq2, ← hq] at HS2
            rw [← hq] at hR
            clear hS hq hq2
            cases q
            · rw [if_pos ⟨by omega, rfl⟩] at hR
              have HR1 := Lib.hid hR
              clear hR
              go_wp2_with fail
              refine HS2.out.mono ?_
              rintro e w' ⟨rfl, hw⟩
              subst w'
              go_wp2_with fail
              go_ret
              exact ⟨by rw [HR1.out]; rfl, HB.out⟩
            · rw [if_neg (by simp)] at hR
              have HR1 := Lib.hid hR
              clear hR
              go_wp2_with fail
              refine HS2.out.mono ?_
              rintro e w' ⟨rfl, hw⟩
              subst w'
              go_wp2_with fail
              go_ret
              exact ⟨by rw [HR1.out]; rfl, HB.out⟩
        | succ m =>
          obtain ⟨S, hS⟩ : ∃ S, S = bs (pre P (m + 1)) := ⟨_, rfl⟩
          have h1 : S.toList.isEmpty = false := by
            rw [hS, show (bs (pre P (m + 1))).toList = pre P (m + 1) from Lib.toList_data _]
            have := HPN.out (m + 1) (by omega) (by omega)
            simpa using this
          have h2 : ¬ S.toList = [] := by simpa using h1
          have HS2 := Lib.hid (HAS.out _ HB.out (m + 1))
          have ID2 := Lib.hid (ISD.out _ HB.out (m + 1))
          have UP2 := Lib.hid (fun w => UPS.out w m (by have := HN.out; omega))
          rw [← hS] at HS2 ID2 UP2 ⊢
          have e1 : t.has (bs (pre P (m + 1))).data.toList = t.has (pre P (m + 1)) := rfl
          have e2 : t.isDir (bs (pre P (m + 1))).data.toList = t.isDir (pre P (m + 1)) := rfl
          have e3 : S.data.toList = pre P (m + 1) := by rw [hS]; rfl
          rw [e3] at HS2 ID2
          cases hq : t.has (pre P (m + 1))
          · rw [hq] at HS2
            have HI2 : Hid (∀ i, m < i → i ≤ n → t.has (pre P i) = true → t.isDir (pre P i) = true) := Lib.hid (fun i h3 h4 h5 => by
              by_cases e : i = m + 1
              · subst e; rw [hq] at h5; cases h5
              · exact HI.out i (by omega) h4 h5)
            clear hS e1 e2 e3 hq
            go_wp2_with fail
            refine HS2.out.mono ?_
            rintro e w' ⟨rfl, hw⟩
            subst w'
            go_wp2_with fail
            refine (UP2.out _).mono ?_
            rintro e w3 ⟨y, rfl, h3⟩
            have B3 := Lib.hid (thenB HB.out h3)
            clear h3
            go_wp2_with fail
            go_roundg m
            case measure => omega
            case rel => exact ⟨m, rfl, by omega, rfl, B3, HI2⟩
          · rw [hq] at HS2
            cases hd : t.isDir (pre P (m + 1))
            · rw [hd] at ID2
              have hbl : Tre.blocked t P = true := by
                unfold Tre.blocked
                rw [List.any_eq_true]
                exact ⟨m + 1, List.mem_range.2 (by have := HN.out; omega), by simp [hq, hd]⟩
              have hR := HR.out
              rw [hbl, if_pos rfl] at hR
              have HR1 := Lib.hid hR
              clear hS e1 e2 e3 hq hd hbl hR
              go_wp2_with fail
              refine HS2.out.mono ?_
              rintro e w' ⟨rfl, hw⟩
              subst w'
              go_wp2_with fail
              refine ID2.out.mono ?_
              rintro e w3 ⟨rfl, h3⟩
              have B3 := Lib.hid (thenB HB.out h3)
              clear h3
              go_wp2_with fail
              go_ret
              exact ⟨by rw [HR1.out]; rfl, B3.out⟩
            · rw [hd] at ID2
              have HI2 : Hid (∀ i, m < i → i ≤ n → t.has (pre P i) = true → t.isDir (pre P i) = true) := Lib.hid (fun i h3 h4 h5 => by
                by_cases e : i = m + 1
                · subst e; exact hd
                · exact HI.out i (by omega) h4 h5)
              clear hS e1 e2 e3 hq hd
              go_wp2_with fail
              refine HS2.out.mono ?_
              rintro e w' ⟨rfl, hw⟩
              subst w'
              go_wp2_with fail
              refine ID2.out.mono ?_
              rintro e w3 ⟨rfl, h3⟩
              have B3 := Lib.hid (thenB HB.out h3)
              clear h3
              go_wp2_with fail
              refine (UP2.out _).mono ?_
              rintro e w4 ⟨y, rfl, h4⟩
              have B4 := Lib.hid (thenB B3.out h4)
              clear h4
              go_wp2_with fail
              go_roundg m
              case measure => omega
              case rel => exact ⟨m, rfl, by omega, rfl, B4, HI2⟩

set_option maxRecDepth 100000 in
theorem space_any {w : World} {g : Nat} {on of : Option Nat} {t : T} (h : TreeAt w g on of t) (ht : Std t) (hx : t.nx ≤ 1000000) (hm : ML w) (s : ByteArray) (hs : s.size ≤ 100000) :
    Calls Tryd.prog 50 #[.pointer (some ⟨g, 0, none⟩), .string s] w fun e w' => e = .returned (errV (space t s.data.toList)) ∧ Below w.heap.size w w' := by
  have RM := Lib.hid (room_any h ht hx hm s hs)
  have hg := h.blk.lt
  have HT := Lib.hid h
  have hc := ht.cn
  have e : space t s.data.toList = if room t s.data.toList ≠ 0 then room t s.data.toList else if 60 ≤ t.ents.length then 12 else 0 := rfl
  rw [e]
  obtain ⟨r, hr⟩ : ∃ r, r = room t s.data.toList := ⟨_, rfl⟩
  rw [← hr] at RM ⊢
  clear e hr h ht hx hm
  by_cases h0 : r = 0
  · subst h0
    rw [if_neg (by simp)]
    have e1 : errV 0 = .nilIface := rfl
    rw [e1] at RM
    by_cases h60 : 60 ≤ t.ents.length
    · rw [if_pos h60]
      have e60 : (60 : Int) ≤ t.ents.length := by omega
      clear e1
      go_enter Tryd.func50, Tryd.ntmps50
      go_wp2_with fail
      refine RM.out.mono ?_
      rintro e w1 ⟨rfl, h1⟩
      have T1 := Lib.hid (HT.out.below h1)
      have c0 := (HT.out.below h1).blk.cell 0
      have hlen := (HT.out.below h1).nm.len Tryd.underlying55 3
      have B1 := Lib.hid h1
      clear h1
      go_wp2_with fail
      go_ret
      exact ⟨rfl, B1.out⟩
    · rw [if_neg h60]
      have e60 : ¬ (60 : Int) ≤ t.ents.length := by omega
      clear e1
      go_enter Tryd.func50, Tryd.ntmps50
      go_wp2_with fail
      refine RM.out.mono ?_
      rintro e w1 ⟨rfl, h1⟩
      have T1 := Lib.hid (HT.out.below h1)
      have c0 := (HT.out.below h1).blk.cell 0
      have hlen := (HT.out.below h1).nm.len Tryd.underlying55 3
      have B1 := Lib.hid h1
      clear h1
      go_wp2_with fail
      go_ret
      exact ⟨rfl, B1.out⟩
  · rw [if_pos h0]
    have e1 : errV r = .iface 67 (.int .i64 r) := if_neg h0
    rw [e1] at RM ⊢
    clear e1 hc
    go_enter Tryd.func50, Tryd.ntmps50
    go_wp2_with fail
    refine RM.out.mono ?_
    rintro e w1 ⟨rfl, h1⟩
    have B1 := Lib.hid h1
    clear h1
    go_wp2_with fail
    go_ret
    exact ⟨rfl, B1.out⟩

end Go.Proofs.YtehooifcgfkngaaDoor
