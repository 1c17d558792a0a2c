/-
  (*Tree).move: the new name of a name; what the map of names holds on the way.
-/
import Derived.Test.YtipajekehbpghaaGreatDoorZe
import Derived.Deep.QuietTactic
import Derived.BigQuiet
import Derived.Deep.RegionHeld3
import Derived.Deep.SlicePairs
import Derived.OpenShut
import Derived.SizedLaws
import Derived.Test.YtipajekehbpghaaGreatDoorZa
import Derived.Handed
import Derived.Test.YtipajekehbpghaaGreatDoorZc
import Derived.Laws.StructEq
import Derived.Lib.Strings
set_option linter.unusedVariables false
set_option linter.unusedSimpArgs false

namespace Tre
open Pth
/-- What the names lead to when the names S have moved from a to b. -/
def half (E : List (Bs × Nat)) (a b : Bs) (S : List Bs) (x : Bs) : Option Nat :=
  if inn x b = true then (if mv b a x ∈ S ∧ mv a b (mv b a x) = x then look E (mv b a x) else none) else if x ∈ S then none else look E x
theorem half_nil {t : T} {a b : Bs} (h : Moves t a b) : half t.ents a b [] = look t.ents := by
  funext x
  unfold half
  by_cases hx : inn x b = true
  · rw [if_pos hx, if_neg (by simp)]
    symm
    rw [look_none]
    intro p hp e
    have := h.fresh p hp
    rw [e, hx] at this; cases this
  · rw [if_neg hx, if_neg (by simp)]
theorem half_snoc {t : T} {a b : Bs} (h : Moves t a b) {S : List Bs} {s : Bs} {i : Nat} (hi : look t.ents s = some i) (hin : inn s a = true) (hS : s ∉ S) (x : Bs) :
    half t.ents a b (S ++ [s]) x = if x = mv a b s then some i else if x = s then none else half t.ents a b S x := by
  have ha := right_ne h.ra
  have hns : inn s b = false := h.fresh _ (look_mem hi)
  unfold half
  by_cases e1 : x = mv a b s
  · subst e1
    rw [if_pos (mv_inn a b s hin ha), if_pos rfl, mv_back a b s hin ha, if_pos ⟨by simp, rfl⟩, hi]
  · rw [if_neg e1]
    by_cases e2 : x = s
    · subst e2
      rw [if_neg (by simp [hns]), if_pos (by simp), if_pos rfl]
    · rw [if_neg e2]
      by_cases hx : inn x b = true
      · rw [if_pos hx, if_pos hx]
        by_cases e3 : mv b a x ∈ S ∧ mv a b (mv b a x) = x
        · rw [if_pos e3, if_pos ⟨List.mem_append.2 (.inl e3.1), e3.2⟩]
        · rw [if_neg e3, if_neg]
          rintro ⟨h1, h2⟩
          rcases List.mem_append.1 h1 with h1 | h1
          · exact e3 ⟨h1, h2⟩
          · rw [List.mem_singleton.1 h1] at h2
            exact e1 h2.symm
      · rw [if_neg hx, if_neg hx]
        by_cases e3 : x ∈ S
        · rw [if_pos e3, if_pos (List.mem_append.2 (.inl e3))]
        · rw [if_neg e3, if_neg]
          intro h1
          rcases List.mem_append.1 h1 with h1 | h1
          · exact e3 h1
          · exact e2 (List.mem_singleton.1 h1)
theorem half_old {t : T} {a b : Bs} (h : Moves t a b) {S : List Bs} {s : Bs} {i : Nat} (hi : look t.ents s = some i) (hS : s ∉ S) : half t.ents a b S s = some i := by
  have hns : inn s b = false := h.fresh _ (look_mem hi)
  unfold half
  rw [if_neg (by simp [hns]), if_neg hS, hi]
theorem half_new {t : T} {a b : Bs} (h : Moves t a b) {S : List Bs} {s : Bs} (hin : inn s a = true) (hS : s ∉ S) : half t.ents a b S (mv a b s) = none := by
  have ha := right_ne h.ra
  unfold half
  rw [if_pos (mv_inn a b s hin ha), mv_back a b s hin ha, if_neg (fun h => hS h.1)]
/-- All have moved. -/
theorem half_all {t : T} {a b : Bs} (h : Moves t a b) : half t.ents a b (t.inside a) = look (moved t a b).ents := by
  have ha := right_ne h.ra
  funext x
  unfold half
  by_cases hx : inn x b = true
  · rw [if_pos hx]
    by_cases e3 : mv b a x ∈ t.inside a ∧ mv a b (mv b a x) = x
    · rw [if_pos e3]
      obtain ⟨h1, h2⟩ := inside_mem.1 e3.1
      obtain ⟨k, hk⟩ := has_iff.1 h1
      have hl := look_of h.st.nd hk
      simp only at hl
      have := h.look_in h2 hl
      rw [e3.2] at this
      rw [hl, this]
    · rw [if_neg e3]
      symm
      rw [look_none]
      intro p hp e
      obtain ⟨q, hq, rfl⟩ := List.mem_map.1 hp
      cases hi : inn q.1 a
      · rw [ren_out hi] at e
        have := h.fresh q hq
        rw [e, hx] at this; cases this
      · rw [ren_in hi] at e
        simp only at e
        have e4 : mv b a x = q.1 := by rw [← e]; exact mv_back a b q.1 hi ha
        exact e3 ⟨inside_mem.2 ⟨has_iff.2 ⟨q.2, by rw [e4]; exact hq⟩, by rw [e4]; exact hi⟩, by rw [e4]; exact e⟩
  · rw [if_neg hx]
    by_cases e3 : x ∈ t.inside a
    · rw [if_pos e3]
      symm
      rw [look_none]
      intro p hp e
      have hxa := (inside_mem.1 e3).2
      obtain ⟨q, hq, rfl⟩ := List.mem_map.1 hp
      cases hi : inn q.1 a
      · rw [ren_out hi] at e; rw [e, hxa] at hi; cases hi
      · rw [ren_in hi] at e
        simp only at e
        have := mv_inn a b q.1 hi ha
        rw [e] at this; exact hx this
    · rw [if_neg e3]
      cases hl : look t.ents x with
      | some k =>
        have hxa : inn x a = false := by
          cases hi : inn x a with
          | false => rfl
          | true => exact absurd (inside_mem.2 ⟨has_iff.2 ⟨k, look_mem hl⟩, hi⟩) e3
        exact (h.look_out hxa hl).symm
      | none =>
        symm
        rw [look_none]
        intro p hp e
        obtain ⟨q, hq, rfl⟩ := List.mem_map.1 hp
        cases hi : inn q.1 a
        · rw [ren_out hi] at e
          exact look_none.1 hl q hq e
        · rw [ren_in hi] at e
          simp only at e
          have := mv_inn a b q.1 hi ha
          rw [e] at this; exact hx this
theorem inn_len {s a : Bs} (h : inn s a = true) : a.length ≤ s.length := by
  rw [inn_iff] at h
  rcases h with rfl | rfl | ⟨r, rfl⟩ <;> simp
end Tre
namespace Go.Proofs.YtipajekehbpghaaGreatDoor
open Go.RowKit Go.Maps Tre

def halfF (E : List (Pth.Bs × Nat)) (a b : Pth.Bs) (S : List Pth.Bs) : Lit → Option Value := strF fun x => (half E a b S x).map fun (k : Nat) => Value.int .i64 (k : Int)
theorem halfF_nil {t : T} {a b : Pth.Bs} (h : Moves t a b) : halfF t.ents a b [] = namesF t.ents := by unfold halfF namesF; rw [half_nil h]
theorem halfF_all {t : T} {a b : Pth.Bs} (h : Moves t a b) : halfF t.ents a b (t.inside a) = namesF (moved t a b).ents := by unfold halfF namesF; rw [half_all h]
theorem halfF_snoc {t : T} {a b : Pth.Bs} (h : Moves t a b) {S : List Pth.Bs} {s : Pth.Bs} {i : Nat} (hi : Tre.look t.ents s = some i) (hin : Pth.inn s a = true) (hS : s ∉ S) :
    setF (delF (halfF t.ents a b S) (.string s)) (.string (mv a b s)) (.int .i64 (i : Int)) = halfF t.ents a b (S ++ [s]) := by
  unfold halfF
  rw [strF_del, strF_set]
  congr 1
  funext x
  rw [half_snoc h hi hin hS]
  by_cases e1 : x = mv a b s
  · rw [if_pos e1, if_pos e1]; rfl
  · rw [if_neg e1, if_neg e1]
    by_cases e2 : x = s
    · rw [if_pos e2, if_pos e2]; rfl
    · rw [if_neg e2, if_neg e2]

set_option maxRecDepth 100000 in
theorem newname_any {w : World} {B : Nat} {a b : Pth.Bs} (s : Pth.Bs) (h1 : w.cell? ⟨B, 1, none⟩ = some (.string (bs a))) (h2 : w.cell? ⟨B, 2, none⟩ = some (.string (bs b))) (hl : a.length ≤ s.length) (hs : s.length ≤ 100000) (hb : b.length ≤ 100000) :
    Calls Tryz.prog 121 #[.string (bs s), .pointer (some ⟨B, 0, none⟩)] w fun e w' => e = .returned (.string (bs (mv a b s))) ∧ ∃ q, w' = w.drewN q := by
  have ex : (bs s).extract (bs a).size (bs s).size = bs (s.drop a.length) := ba_ext (by rw [ext_end, bs_list, bs_list]; rfl)
  have su := fun w => run_string_add_sum (P := Tryz.prog) w (bs b) (bs (s.drop a.length)) (by rw [bs_size, bs_size, List.length_drop]; omega)
  rw [cat_bs] at su
  have e : mv a b s = b ++ s.drop a.length := rfl
  rw [e]
  have l2 : (bs a).size ≤ (bs s).size := hl
  have l4 : (bs s).size ≤ 100000 := hs
  obtain ⟨X, hX⟩ : ∃ X, X = bs (s.drop a.length) := ⟨_, rfl⟩
  obtain ⟨Y, hY⟩ : ∃ Y, Y = bs (b ++ s.drop a.length) := ⟨_, rfl⟩
  rw [← hX] at ex su
  rw [← hY] at su ⊢
  obtain ⟨S, hS⟩ : ∃ S, S = bs s := ⟨_, rfl⟩
  rw [← hS] at ex l2 l4 ⊢
  obtain ⟨A, hA⟩ : ∃ A, A = bs a := ⟨_, rfl⟩
  rw [← hA] at ex l2 h1
  obtain ⟨Bb, hBb⟩ : ∃ Bb, Bb = bs b := ⟨_, rfl⟩
  rw [← hBb] at su h2
  have l1 : (0 : Int) ≤ A.size := by omega
  have l3 : (A.size : Int) ≤ S.size := by omega
  clear e hX hY hS hA hBb hl hs hb
  go_enter Tryz.func121, Tryz.ntmps121
  go_wp2_with fail
  go_quiet (fail)
  go_wp2_with fail
  go_ret
  exact ⟨rfl, _, rfl⟩

end Go.Proofs.YtipajekehbpghaaGreatDoor

namespace Go.Proofs.YtipajekehbpghaaGreatDoor
open Go.RowKit Go.Maps Tre

theorem cell_map_ne {w : World} {b b' n o : Nat} {K : TypeId} {P : Program} {f : Lit → Option Value} {v : Value} (h : w.cell? ⟨b, o, none⟩ = some v) (k : MapF w P K b' f n) : b ≠ b' := by
  rintro rfl
  obtain ⟨D, ⟨es, clock, hb, _⟩, _⟩ := k
  simp [World.cell?, hb] at h
theorem move_ways (t : T) (x : Deed) : Tre.move t x = if Pth.inn x.to x.name = true then (t, 11) else if room t x.to ≠ 0 then (t, room t x.to) else if (t.inside x.name).any (fun s => !Pth.right (mv x.name x.to s)) = true then (t, 5) else (moved t x.name x.to, 0) := rfl
theorem mv_len (a b s : Pth.Bs) : (mv a b s).length ≤ b.length + s.length := by unfold mv; simp
theorem inside_nodup {t : T} (ht : Std t) (a : Pth.Bs) : (t.inside a).Nodup := (names_nodup ht.nd).filter _
theorem take_new {L : List Pth.Bs} (h : L.Nodup) {k : Nat} (hk : k < L.length) : L[k] ∉ L.take k := by
  intro hm
  obtain ⟨j, hj, e⟩ := List.getElem_of_mem hm
  rw [List.length_take] at hj
  rw [List.getElem_take] at e
  have := (List.pairwise_iff_getElem.1 (List.nodup_iff_pairwise_ne.1 h)) j k (by omega) hk (by omega)
  exact this e

set_option maxRecDepth 100000 in
set_option maxHeartbeats 8000000 in
theorem move_tree {w : World} {g : Nat} {on of : Option Nat} {t : T} (h : TreeAt w g on of t) (ht : Std t) (hx : t.nx ≤ 100000) (hm : ML w) (x : Deed) (i0 : Nat) (hi : Tre.look t.ents x.name = some i0) (h1 : x.to.length ≤ 10000) :
    Calls Tryz.prog 72 #[.pointer (some ⟨g, 0, none⟩), dv x] w fun e w' => e = .returned (errV (Tre.move t x).2) ∧ Turned w g on of (Tre.move t x).1 w' := by
  have hg := h.blk.lt
  have hb0 : Below w.heap.size w (w.alloc (.cells (dvc x) 53)) := (Below.refl _ _).alloc (Nat.le_refl _) _
  obtain ⟨bn, bf, rfl, rfl⟩ := h.made hi
  have HT := Lib.hid h
  have HS := Lib.hid ht
  have HML := Lib.hid hm
  have hsh := (ht.short hi).1
  have hh : t.has x.name = true := has_iff.2 ⟨i0, look_mem hi⟩
  have HH := Lib.hid hh
  have IN := Lib.hid (fun w => in_same (bs x.to) (bs x.name) w (by rw [bs_size]; omega))
  have RM := Lib.hid (room_any (h.below hb0) ht (by omega) (hm.below hb0) (bs x.to) (by rw [bs_size]; omega))
  have IS := Lib.hid (fun w' (hb : Below w.heap.size w w') => inside_any (HT.out.below hb) ht (hm.below hb) (bs x.name) (by rw [bs_size]; omega) hh)
  have e := move_ways t x
  obtain ⟨C, hC⟩ : ∃ C, C = Tre.move t x := ⟨_, rfl⟩
  rw [← hC] at e ⊢
  have HC := Lib.hid e
  have MW := Lib.hid (fun (q1 : Pth.inn x.to x.name = false) (q2 : room t x.to = 0) (q3 : (t.inside x.name).any (fun s => !Pth.right (mv x.name x.to s)) = false) => moves_of ht x hh q1 q2 q3)
  rw [bs_list, bs_list] at IN
  rw [bs_list] at RM
  unfold dv dvc
  unfold dvc at RM hb0
  obtain ⟨what, name, dest, n, node⟩ := x
  obtain ⟨n0, n1, n2, n3, n4, n5, n6, n7, n8, n9⟩ := node
  simp only at *
  clear hC e h ht hm hi hh
  obtain ⟨q1, hq1⟩ : ∃ q1, q1 = Pth.inn dest name := ⟨_, rfl⟩
  rw [← hq1] at IN HC
  have HQ1 := Lib.hid hq1
  obtain ⟨c, hc⟩ : ∃ c, c = room t dest := ⟨_, rfl⟩
  rw [← hc] at RM HC
  have HQ2 := Lib.hid hc
  clear hq1 hc
  cases q1 with
  | true =>
    have hC := HC.out
    rw [if_pos rfl] at hC
    subst hC
    go_enter Tryz.func72, Tryz.ntmps72
    go_wp2_with fail
    refine (IN.out _).mono ?_
    rintro e w' ⟨rfl, hw⟩
    subst w'
    go_wp2_with fail
    go_ret
    exact ⟨rfl, Turned.still HT.out hb0⟩
  | false =>
    by_cases h0 : c = 0
    rotate_left
    · have hC := HC.out
      rw [if_neg (by simp), if_pos h0] at hC
      subst hC
      have e1 : errV c = .iface 89 (.int .i64 c) := if_neg h0
      rw [e1] at RM
      simp only [e1]
      clear e1
      go_enter Tryz.func72, Tryz.ntmps72
      go_wp2_with fail
      refine (IN.out _).mono ?_
      rintro e w' ⟨rfl, hw⟩
      subst w'
      go_wp2_with fail
      refine RM.out.mono ?_
      rintro e w1 ⟨rfl, k1⟩
      have B1 := Lib.hid (thenB ((Below.refl _ _).alloc (Nat.le_refl _) _) k1)
      clear k1
      go_wp2_with fail
      go_ret
      exact ⟨rfl, Turned.still HT.out B1.out⟩
    · subst h0
      have hC := HC.out
      rw [if_neg (by simp), if_neg (by simp)] at hC
      have e1 : errV 0 = .nilIface := rfl
      rw [e1] at RM
      have HC2 := Lib.hid hC
      clear e1 HC hC
      go_enter Tryz.func72, Tryz.ntmps72
      go_wp2_with fail
      refine (IN.out _).mono ?_
      rintro e w' ⟨rfl, hw⟩
      subst w'
      go_wp2_with fail
      refine RM.out.mono ?_
      rintro e w0 ⟨rfl, k1⟩
      have B0 := Lib.hid (thenB ((Below.refl _ _).alloc (Nat.le_refl _) _) k1)
      have bb := (Blk.new w 53 #[.int .i64 what, .string (bs name), .string (bs dest), .int .i64 n, .int .u8 n0, .int .i64 n1, .int .i64 n2, .int .i64 n3, .int .i64 n4, .int .i64 n5, .string (bs n6), .string (bs n7), .int .i64 n8, .int .i64 n9]).below k1 (by simp)
      have z1 : w0.cell? ⟨w.heap.size, 1, none⟩ = some (.string (bs name)) := bb.cell 1
      have BB0 := Lib.hid bb
      clear k1 bb RM IN
      go_wp2_with fail
      refine (IS.out _ B0.out).mono ?_
      rintro e w1 ⟨v, rfl, hv, k1⟩
      have B1 := Lib.hid (thenB B0.out k1)
      have BB := Lib.hid (BB0.out.below k1 BB0.out.lt)
      have hnd := inside_nodup HS.out name
      have hlen : (t.inside name).length ≤ 60 := by
        unfold T.inside
        have := List.length_filter_le (fun y => Pth.inn y name) t.names
        rw [names_len] at this
        have := HS.out.cn
        omega
      have hmem : ∀ s ∈ t.inside name, t.has s = true ∧ Pth.inn s name = true := fun s hs => inside_mem.1 hs
      have hmem0 : name ∈ t.inside name := inside_mem.2 ⟨HH.out, inn_self name⟩
      rw [bs_list] at hv
      have HALL := Lib.hid (fun (M : Moves t name dest) => halfF_all M)
      obtain ⟨L, hL⟩ : ∃ L, L = t.inside name := ⟨_, rfl⟩
      rw [← hL] at hv hnd hlen hmem hmem0 HC2 MW HALL
      rcases hv.ways with ⟨_, _, _, e0⟩ | ⟨rb, ro, cap, rfl, hcap, _, hrb, hpos, hrow⟩
      · rw [e0] at hmem0; cases hmem0
      have HRW := Lib.hid hrow
      have HND := Lib.hid hnd
      have HMEM := Lib.hid hmem
      clear k1 z1 BB0 B0 hv hnd hmem hmem0 hrow hL IS
      have hli : (L.length : Int) ≤ 60 := by omega
      have hcapi : (L.length : Int) ≤ cap := by omega
      have hHl : w.heap.size < w1.heap.size := BB.out.lt
      go_wp2_with fail
      go_loopg [33] L.length (fun gg s33 wr => ∃ k : Nat, s33 = .int .i64 k ∧ k + gg = L.length ∧ Hid (Below w1.heap.size w1 wr) ∧ Hid (∀ s ∈ L.take k, Pth.right (mv name dest s) = true))
      case atStart => exact ⟨0, rfl, by omega, Lib.hid (Below.refl _ _), Lib.hid (by simp)⟩
      case round =>
        obtain ⟨k, rfl, hkg, HB, HR⟩ := hrel
        have HKG := Lib.hid hkg
        clear hkg
        by_cases hk : k < L.length
        · have hki : (k : Int) < L.length := by omega
          have c0 := (HB.out.cell (p := ⟨rb, ro + k, none⟩) hrb).trans (HRW.out k hk)
          obtain ⟨s, hs⟩ : ∃ s, s = L[k] := ⟨_, rfl⟩
          rw [← hs] at c0
          obtain ⟨m1, m2⟩ := HMEM.out s (by rw [hs]; exact List.getElem_mem hk)
          obtain ⟨js, hjs⟩ := has_iff.1 m1
          have hsl := (HS.out.short (look_of HS.out.nd hjs)).1
          simp only at hsl
          have bbr := BB.out.below HB.out hHl
          have NN := Lib.hid (newname_any s (bbr.cell 1) (bbr.cell 2) (inn_len m2) (by omega) (by omega))
          have hml := mv_len name dest s
          have RT := Lib.hid (fun w' (hb : Below w1.heap.size w1 w') => right_any (bs (mv name dest s)) w' (by rw [bs_size]; omega) ((HML.out.below B1.out).below hb))
          have RT2 : Hid (∀ w', Below w1.heap.size w1 w' → Calls Tryz.prog 93 #[.string (bs (mv name dest s))] w' fun e w'' => e = .returned (.bool (Pth.right (mv name dest s))) ∧ Below w'.heap.size w' w'') := RT
          have hts : L.take (k + 1) = L.take k ++ [s] := by rw [hs]; exact List.take_succ_eq_append_getElem hk
          have HTS := Lib.hid hts
          have hmemL : s ∈ L := by rw [hs]; exact List.getElem_mem hk
          have HML2 := Lib.hid hmemL
          obtain ⟨r, hr⟩ : ∃ r, r = Pth.right (mv name dest s) := ⟨_, rfl⟩
          rw [← hr] at RT2
          have HRR := Lib.hid hr
          clear hs m1 m2 hjs hsl bbr RT hts hmemL hr hml
          go_wp2_with fail
          refine NN.out.mono ?_
          rintro e w2 ⟨rfl, q, hw⟩
          have B2 := Lib.hid (show Below w1.heap.size w1 w2 by rw [hw]; exact below_drewN HB.out q)
          clear hw
          go_wp2_with fail
          refine (RT2.out _ B2.out).mono ?_
          rintro e w3 ⟨rfl, k3⟩
          have B3 := Lib.hid (thenB B2.out k3)
          clear k3
          cases r
          · have hC := HC2.out
            rw [if_pos (List.any_eq_true.2 ⟨s, HML2.out, by rw [← HRR.out]; rfl⟩)] at hC
            subst hC
            go_wp2_with fail
            go_ret
            exact ⟨rfl, Turned.still HT.out (B1.out.trans (B3.out.mono B1.out.size))⟩
          · go_wp2_with fail
            go_roundg (L.length - (k + 1))
            case measure => have := HKG.out; omega
            case rel => exact ⟨k + 1, by go_num, by omega, B3, Lib.hid (fun y hy => by
              rw [HTS.out] at hy
              rcases List.mem_append.1 hy with hy | hy
              · exact HR.out y hy
              · rw [List.mem_singleton.1 hy]; exact HRR.out.symm)⟩
        · obtain rfl : k = L.length := by have := HKG.out; omega
          have hki : ¬ (L.length : Int) < L.length := by omega
          have hall := HR.out
          rw [List.take_length] at hall
          have hany : L.any (fun s => !Pth.right (mv name dest s)) = false := by
            rw [List.any_eq_false]
            intro s hs
            rw [hall s hs]; simp
          have hC := HC2.out
          rw [if_neg (by rw [hany]; simp)] at hC
          subst hC
          have M := MW.out HQ1.out.symm HQ2.out.symm hany
          have HM := Lib.hid M
          have MALL := Lib.hid (HALL.out M)
          clear hall hany M HR HKG MW HALL
          obtain ⟨w2, hw2⟩ : ∃ w2, w2 = wr := ⟨_, rfl⟩
          have HB2 : Below w1.heap.size w1 w2 := by rw [hw2]; exact HB.out
          have T2 : TreeAt w2 g (some bn) (some bf) t := HT.out.below (B1.out.trans (HB2.mono B1.out.size))
          have nm2 : MapF w2 Tryz.prog 9 bn (halfF t.ents name dest []) t.ents.length := by rw [halfF_nil HM.out]; exact T2.nm
          have bb2 := BB.out.below HB2 hHl
          have row2 := HRW.out.below HB2 hrb
          have hc20 := row2 0 hpos
          have hrn : rb ≠ bn := cell_map_ne hc20 T2.nm
          have hHn : w.heap.size ≠ bn := blk_map_ne bb2 nm2
          have hgn : g ≠ bn := blk_map_ne T2.blk nm2
          have TT2 := Lib.hid T2
          have BB2 := Lib.hid bb2
          have ROW2 := Lib.hid row2
          have NM2 := Lib.hid nm2
          have B2 := Lib.hid (B1.out.trans (HB2.mono B1.out.size))
          have hn0 : 1 ≤ t.ents.length := (by obtain ⟨j, hj⟩ := has_iff.1 HH.out; exact mem_pos hj)
          have hn60 := HS.out.cn
          rw [← hw2]
          clear T2 nm2 bb2 row2 hc20 HB2 hw2 HB B1 BB HRW hrb
          go_wp2_with fail
          go_loopg [46] L.length (fun gg s46 wr => ∃ k : Nat, s46 = .int .i64 k ∧ k + gg = L.length ∧ Hid (w2.grownBy wr (some bn)) ∧ Hid (MapF wr Tryz.prog 9 bn (halfF t.ents name dest (L.take k)) t.ents.length))
          case atStart => exact ⟨0, rfl, by omega, Lib.hid (only_refl _ _), NM2⟩
          case round =>
            obtain ⟨k, rfl, hkg, HG, HMM⟩ := hrel
            have HKG := Lib.hid hkg
            clear hkg
            by_cases hk : k < L.length
            · have hki2 : (k : Int) < L.length := by omega
              have rowr : RowS wr rb ro L := fun j hj => (World.cell?_of_block (a := ⟨rb, ro + j, none⟩) (HG.out.block rb (World.block_lt_of_cell? w2 ⟨rb, ro + j, none⟩ (ROW2.out j hj)) (by intro e; injection e with e; exact hrn e))).trans (ROW2.out j hj)
              have c0 := rowr k hk
              obtain ⟨s, hs⟩ : ∃ s, s = L[k] := ⟨_, rfl⟩
              rw [← hs] at c0
              obtain ⟨m1, m2⟩ := HMEM.out s (by rw [hs]; exact List.getElem_mem hk)
              obtain ⟨js, hjs⟩ := has_iff.1 m1
              have hlk := look_of HS.out.nd hjs
              simp only at hlk
              have hsl := (HS.out.short hlk).1
              have hnew : s ∉ L.take k := by rw [hs]; exact take_new HND.out hk
              have hold : halfF t.ents name dest (L.take k) (.string (bs s).data.toList) = some (.int .i64 js) := by
                rw [bs_list]; unfold halfF; show (half t.ents name dest (L.take k) s).map _ = _
                rw [half_old HM.out hlk hnew]; rfl
              have hmvn : halfF t.ents name dest (L.take k) (.string (mv name dest s)) = none := by
                unfold halfF; show (half t.ents name dest (L.take k) (mv name dest s)).map _ = _
                rw [half_new HM.out m2 hnew]; rfl
              have hsn := halfF_snoc HM.out hlk m2 hnew
              have hts : L.take (k + 1) = L.take k ++ [s] := by rw [hs]; exact List.take_succ_eq_append_getElem hk
              rw [← hts] at hsn
              have hml := mv_len name dest s
              have bbr := BB2.out.grown HG.out (by intro e; injection e with e; exact hHn e)
              have eg := TT2.out.blk.grown HG.out (by intro e; injection e with e; exact hgn e)
              have _q0 : wr.cell? ⟨g, 0, none⟩ = some (.map (some bn)) := eg.cell 0
              have hks := strK (bs s) (by rw [bs_size]; unfold maxLen; omega)
              have hkm := strK (bs (mv name dest s)) (by rw [bs_size]; unfold maxLen; omega)
              have HOLD := Lib.hid hold
              have HSN := Lib.hid hsn
              have HIN := Lib.hid (inn_len m2)
              have HGT := Lib.hid eg
              have HBR := Lib.hid bbr
              have HMV := Lib.hid hmvn
              have hds : dest.length ≤ 10000 := h1
              clear hs m1 m2 hjs hlk hnew hold hmvn hsn hts rowr eg bbr
              repeat' ((fail_if_success (with_reducible refine halt_at 17 ?_)); first | go_values | go_skip | go_guarded | go_step | go_upon | go_back | (simp only [Int.not_lt, Int.not_le] at *; go_simp) | (go_values <;> (try go_simp)) | (go_ite <;> go_prune <;> (try go_simp)) | (split <;> (first | (rename_i hx; exact (hx _ rfl).elim) | go_prune)))
              go_wp2_with (first
                | (refine wpList_f_look rfl (.tmp 53) (.tmp 54) 68 rfl 3 strL Tryz.underlying68 intZero HMM.out rfl (.string (bs s)) (.string (bs s).data.toList) rfl hks (some (.int .i64 js)) HOLD.out ?_)
                | (refine wpList_f_delete rfl (.tmp 59) (.tmp 60) 68 rfl 3 strL Tryz.underlying68 HMM.out rfl (.string (bs s)) (.string (bs s).data.toList) rfl hks ?_; intro w3 hm3 hg3 hs3))
              rw [HOLD.out] at hm3
              have G0 : w3.cell? ⟨g, 0, none⟩ = some (.map (some bn)) := (HGT.out.grown hg3 (by intro e; injection e with e; exact hgn e)).cell 0
              have b3 := HBR.out.grown hg3 (by intro e; injection e with e; exact hHn e)
              have NNW := Lib.hid (fun (W : World) (e : ∀ p, W.cell? p = w3.cell? p) => newname_any s ((e _).trans (b3.cell 1)) ((e _).trans (b3.cell 2)) HIN.out (by omega) (by omega))
              have hdel : delF (halfF t.ents name dest (L.take k)) (.string (bs s).data.toList) (.string (bs (mv name dest s)).data.toList) = none := by
                unfold delF; split
                · rfl
                · rw [bs_list]; exact HMV.out
              have STO := Lib.hid (fun (W : World) (e : W.heap = w3.heap) => (MapF.same_block hm3 (c := bn) (by rw [e])).store (w := W) strL Tryz.underlying68 (by unfold maxLen; simp; omega) hkm (.int .i64 (js : Int)))
              have G3 := Lib.hid (only_trans HG.out hg3)
              have HG3 := Lib.hid (HGT.out.grown hg3 (by intro e; injection e with e; exact hgn e))
              have HDEL := Lib.hid hdel
              clear _q0 hm3 hg3 hs3 hdel HOLD HMV HBR HGT b3 hks hkm
              go_region_held3 (fun w' => w'.cell? ⟨g, 0, none⟩ = some (.map (some bn))) (go_keep)
                ((go_at_call 121; (with_reducible refine (NNW.out w3.drew (fun _ => rfl)).mono ?_); rintro e wt ⟨rfl, q, hq⟩; obtain ⟨wA, hA, mA, gA, sA⟩ := STO.out wt (by rw [hq]; rfl); have Gt : wt.cell? ⟨g, 0, none⟩ = some (.map (some bn)) := (by rw [hq]; exact G0); have G4 := Lib.hid (show w2.grownBy wt (some bn) from by rw [hq]; exact only_drewN (only_drew G3.out) q); have GA0 : wA.cell? ⟨g, 0, none⟩ = some (.map (some bn)) := (Blk.grown (show Blk wt g 71 #[.map (some bn), .map (some bf), .int .i64 t.nx] from by rw [hq]; exact HG3.out) gA (by intro e; injection e with e; exact hgn e)).cell 0; have GA := Lib.hid gA; have MA := Lib.hid mA; clear hq gA mA sA))
              all_goals go_wp2_with fail
              all_goals go_roundg (L.length - (k + 1))
              case measure => have := HKG.out; omega
              case rel =>
                refine ⟨k + 1, by go_num, by omega, Lib.hid (only_trans G4.out GA.out), Lib.hid ?_⟩
                have h5 := MA.out
                rw [HDEL.out, bs_list, bs_list, HSN.out] at h5
                simp only [Option.isSome_some, if_true, Option.isSome_none, Bool.false_eq_true, if_false] at h5
                rw [show t.ents.length - 1 + 1 = t.ents.length by omega] at h5
                exact h5
            · obtain rfl : k = L.length := by have := HKG.out; omega
              have hki2 : ¬ (L.length : Int) < L.length := by omega
              have hmm := HMM.out
              rw [List.take_length, MALL.out] at hmm
              have hgn' := TT2.out
              obtain ⟨nf, hf, hnf⟩ := hgn'.fl
              have FIN : Turned w g (some bn) (some bf) (moved t name dest) wr := by
                refine ⟨some bn, some bf, ⟨hgn'.blk.grown HG.out (by intro e; injection e with e; exact hgn e), ?_, ⟨nf, MapF.kept hf HG.out (by intro e; exact hgn'.ne bn rfl e), hnf⟩, by simp, hgn'.ne⟩, fun b hb => .inl hb, (Kept.of_below B2.out).grown HG.out (.inl (by simp [own]))⟩
                show MapF wr Tryz.prog 9 bn (namesF (moved t name dest).ents) (moved t name dest).ents.length
                rw [show (moved t name dest).ents.length = t.ents.length from List.length_map _]
                exact hmm
              have FN := Lib.hid FIN
              clear FIN hmm hf hnf hgn'
              go_wp2_with fail
              go_ret
              exact ⟨rfl, FN.out⟩

end Go.Proofs.YtipajekehbpghaaGreatDoor

namespace Go.Proofs.YtipajekehbpghaaGreatDoor
open Go.RowKit Go.Maps Tre

theorem Turned.from {w w1 w' : World} {g : Nat} {on of : Option Nat} {t t' : T} (h : TreeAt w g on of t) (hb : Below w.heap.size w w1) (k : Turned w1 g on of t' w') : Turned w g on of t' w' := by
  obtain ⟨on', of', h1, h2, h3⟩ := k
  refine ⟨on', of', h1, fun b hb' => (h2 b hb').imp id fun h => Nat.le_trans hb.size h, (Kept.of_below hb).trans h3⟩

set_option maxRecDepth 100000 in
set_option maxHeartbeats 4000000 in
theorem do_make {w : World} {g : Nat} {on of : Option Nat} {t : T} (h : TreeAt w g on of t) (ht : Std t) (hx : t.nx ≤ 100000) (hm : ML w) (x : Deed) (hk : x.node.kind ≤ 255) (h1 : x.name.length ≤ 10000) (h2 : x.to.length ≤ 10000) (h3 : x.node.link.length ≤ 10000) (h4 : x.node.data.length ≤ 10000) (hw : x.what = 1) :
    Calls Tryz.prog 28 #[.pointer (some ⟨g, 0, none⟩), dv x] w fun e w' => e = .returned (errV (act t x).2) ∧ Turned w g on of (act t x).1 w' := by
  have hb0 : Below w.heap.size w (w.alloc (.cells (dvc x) 53)) := (Below.refl _ _).alloc (Nat.le_refl _) _
  have HT := Lib.hid h
  have HB0 := Lib.hid hb0
  have CL := Lib.hid (create_any (h.below hb0) ht hx (hm.below hb0) x hk h1 h3 h4)
  have e : act t x = create t x := by unfold act; rw [if_pos hw]
  rw [e]
  obtain ⟨C, hC⟩ : ∃ C, C = create t x := ⟨_, rfl⟩
  rw [← hC] at CL ⊢
  unfold dv dvc at CL ⊢
  unfold dvc at HB0
  clear e h ht hm hb0 hC
  obtain ⟨what, name, dest, n, node⟩ := x
  obtain ⟨n0, n1, n2, n3, n4, n5, n6, n7, n8, n9⟩ := node
  simp only at hw CL HB0 ⊢
  subst hw
  go_enter Tryz.func28, Tryz.ntmps28
  go_wp2_with fail
  refine (of_any g _ (HT.out.below HB0.out).blk).mono ?_
  rintro e w' ⟨rfl, hw'⟩
  subst w'
  go_wp2_with fail
  refine CL.out.mono ?_
  rintro e w2 ⟨rfl, k⟩
  have K := Lib.hid (Turned.from HT.out HB0.out k)
  clear k
  go_wp2_with fail
  go_ret
  exact ⟨rfl, K.out⟩

set_option maxRecDepth 100000 in
set_option maxHeartbeats 4000000 in
theorem do_wild {w : World} {g : Nat} {on of : Option Nat} {t : T} (h : TreeAt w g on of t) (ht : Std t) (hx : t.nx ≤ 100000) (hm : ML w) (x : Deed) (hk : x.node.kind ≤ 255) (h1 : x.name.length ≤ 10000) (h2 : x.to.length ≤ 10000) (h3 : x.node.link.length ≤ 10000) (h4 : x.node.data.length ≤ 10000) (hw : x.what < 1 ∨ 8 < x.what) :
    Calls Tryz.prog 28 #[.pointer (some ⟨g, 0, none⟩), dv x] w fun e w' => e = .returned (errV (act t x).2) ∧ Turned w g on of (act t x).1 w' := by
  have hb0 : Below w.heap.size w (w.alloc (.cells (dvc x) 53)) := (Below.refl _ _).alloc (Nat.le_refl _) _
  have HT := Lib.hid h
  have HB0 := Lib.hid hb0
  have e : act t x = (t, 1) := by unfold act; rw [if_neg (by omega), if_pos hw]
  rw [e]
  unfold dv dvc
  unfold dvc at HB0
  clear e h ht hm hb0
  obtain ⟨what, name, dest, n, node⟩ := x
  obtain ⟨n0, n1, n2, n3, n4, n5, n6, n7, n8, n9⟩ := node
  simp only at hw HB0 ⊢
  have q1 : ((what : Int) == 1) = false := beq_eq_false_iff_ne.2 (by omega)
  have hways : what < 1 ∨ (¬ what < 1 ∧ 8 < what) := by omega
  clear hw
  rcases hways with p1 | ⟨p1, p2⟩
  all_goals
    go_enter Tryz.func28, Tryz.ntmps28
    go_wp2_with fail
    refine (of_any g _ (HT.out.below HB0.out).blk).mono ?_
    rintro e w' ⟨rfl, hw'⟩
    subst w'
    go_wp2_with fail
    go_ret
    exact ⟨rfl, Turned.still HT.out HB0.out⟩

set_option maxRecDepth 100000 in
set_option maxHeartbeats 4000000 in
theorem do_lacks {w : World} {g : Nat} {on of : Option Nat} {t : T} (h : TreeAt w g on of t) (ht : Std t) (hx : t.nx ≤ 100000) (hm : ML w) (x : Deed) (hk : x.node.kind ≤ 255) (h1 : x.name.length ≤ 10000) (h2 : x.to.length ≤ 10000) (h3 : x.node.link.length ≤ 10000) (h4 : x.node.data.length ≤ 10000) (hw : 2 ≤ x.what ∧ x.what ≤ 8) (hl : Tre.look t.ents x.name = none) :
    Calls Tryz.prog 28 #[.pointer (some ⟨g, 0, none⟩), dv x] w fun e w' => e = .returned (errV (act t x).2) ∧ Turned w g on of (act t x).1 w' := by
  have hb0 : Below w.heap.size w (w.alloc (.cells (dvc x) 53)) := (Below.refl _ _).alloc (Nat.le_refl _) _
  have HT := Lib.hid h
  have HB0 := Lib.hid hb0
  have e : act t x = (t, 7) := by unfold act; rw [if_neg (by omega), if_neg (by omega), hl]
  rw [e]
  have HA := Lib.hid (thas_any (h.below hb0) (bs x.name) (by rw [bs_size]; omega))
  have hh : T.has t (bs x.name).data.toList = false := by rw [bs_list]; unfold T.has; rw [hl]; rfl
  rw [hh] at HA
  unfold dv
  unfold dvc at HA HB0 ⊢
  clear e h ht hm hb0 hh hl
  obtain ⟨what, name, dest, n, node⟩ := x
  obtain ⟨n0, n1, n2, n3, n4, n5, n6, n7, n8, n9⟩ := node
  simp only at hw HB0 HA ⊢
  obtain ⟨hw1, hw2⟩ := hw
  have q1 : ((what : Int) == 1) = false := beq_eq_false_iff_ne.2 (by omega)
  have p1 : ¬ what < 1 := by omega
  have p2 : ¬ 8 < what := by omega
  go_enter Tryz.func28, Tryz.ntmps28
  go_wp2_with fail
  refine (of_any g _ (HT.out.below HB0.out).blk).mono ?_
  rintro e w' ⟨rfl, hw'⟩
  subst w'
  go_wp2_with fail
  refine HA.out.mono ?_
  rintro e w' ⟨rfl, hw'⟩
  subst w'
  go_wp2_with fail
  go_ret
  exact ⟨rfl, Turned.still HT.out HB0.out⟩

set_option maxRecDepth 100000 in
set_option maxHeartbeats 4000000 in
theorem do_w2 {w : World} {g : Nat} {on of : Option Nat} {t : T} (h : TreeAt w g on of t) (ht : Std t) (hx : t.nx ≤ 100000) (hm : ML w) (x : Deed) (hk : x.node.kind ≤ 255) (h1 : x.name.length ≤ 10000) (h2 : x.to.length ≤ 10000) (h3 : x.node.link.length ≤ 10000) (h4 : x.node.data.length ≤ 10000) (hw : x.what = 2) (i : Nat) (hl : Tre.look t.ents x.name = some i) :
    Calls Tryz.prog 28 #[.pointer (some ⟨g, 0, none⟩), dv x] w fun e w' => e = .returned (errV (act t x).2) ∧ Turned w g on of (act t x).1 w' := by
  have hb0 : Below w.heap.size w (w.alloc (.cells (dvc x) 53)) := (Below.refl _ _).alloc (Nat.le_refl _) _
  have HT := Lib.hid h
  have HB0 := Lib.hid hb0
  have CL := Lib.hid (again_tree (h.below hb0) ht hx (hm.below hb0) x i hl h2)
  have e : act t x = again t x i := by unfold act; rw [if_neg (by omega), if_neg (by omega), hl]; simp only; rw [if_pos hw]
  rw [e]
  obtain ⟨C, hC⟩ : ∃ C, C = again t x i := ⟨_, rfl⟩
  rw [← hC] at CL ⊢
  have HA := Lib.hid (thas_any (h.below hb0) (bs x.name) (by rw [bs_size]; omega))
  have hh : T.has t (bs x.name).data.toList = true := by rw [bs_list]; unfold T.has; rw [hl]; rfl
  rw [hh] at HA
  unfold dv dvc at CL ⊢
  unfold dvc at HA HB0
  clear e h ht hm hb0 hC hh hl
  obtain ⟨what, name, dest, n, node⟩ := x
  obtain ⟨n0, n1, n2, n3, n4, n5, n6, n7, n8, n9⟩ := node
  simp only at hw CL HB0 HA ⊢
  subst hw
  go_enter Tryz.func28, Tryz.ntmps28
  go_wp2_with fail
  refine (of_any g _ (HT.out.below HB0.out).blk).mono ?_
  rintro e w' ⟨rfl, hw'⟩
  subst w'
  go_wp2_with fail
  refine HA.out.mono ?_
  rintro e w' ⟨rfl, hw'⟩
  subst w'
  go_wp2_with fail
  refine CL.out.mono ?_
  rintro e w2 ⟨rfl, k⟩
  have K := Lib.hid (Turned.from HT.out HB0.out k)
  clear k
  go_wp2_with fail
  go_ret
  exact ⟨rfl, K.out⟩

set_option maxRecDepth 100000 in
set_option maxHeartbeats 4000000 in
theorem do_w3 {w : World} {g : Nat} {on of : Option Nat} {t : T} (h : TreeAt w g on of t) (ht : Std t) (hx : t.nx ≤ 100000) (hm : ML w) (x : Deed) (hk : x.node.kind ≤ 255) (h1 : x.name.length ≤ 10000) (h2 : x.to.length ≤ 10000) (h3 : x.node.link.length ≤ 10000) (h4 : x.node.data.length ≤ 10000) (hw : x.what = 3) (i : Nat) (hl : Tre.look t.ents x.name = some i) :
    Calls Tryz.prog 28 #[.pointer (some ⟨g, 0, none⟩), dv x] w fun e w' => e = .returned (errV (act t x).2) ∧ Turned w g on of (act t x).1 w' := by
  have hb0 : Below w.heap.size w (w.alloc (.cells (dvc x) 53)) := (Below.refl _ _).alloc (Nat.le_refl _) _
  have HT := Lib.hid h
  have HB0 := Lib.hid hb0
  have CL := Lib.hid (remove_tree (h.below hb0) ht hx (hm.below hb0) x i hl)
  have e : act t x = remove t x i := by unfold act; rw [if_neg (by omega), if_neg (by omega), hl]; simp only; rw [if_neg (by omega), if_pos hw]
  rw [e]
  obtain ⟨C, hC⟩ : ∃ C, C = remove t x i := ⟨_, rfl⟩
  rw [← hC] at CL ⊢
  have HA := Lib.hid (thas_any (h.below hb0) (bs x.name) (by rw [bs_size]; omega))
  have hh : T.has t (bs x.name).data.toList = true := by rw [bs_list]; unfold T.has; rw [hl]; rfl
  rw [hh] at HA
  unfold dv dvc at CL ⊢
  unfold dvc at HA HB0
  clear e h ht hm hb0 hC hh hl
  obtain ⟨what, name, dest, n, node⟩ := x
  obtain ⟨n0, n1, n2, n3, n4, n5, n6, n7, n8, n9⟩ := node
  simp only at hw CL HB0 HA ⊢
  subst hw
  go_enter Tryz.func28, Tryz.ntmps28
  go_wp2_with fail
  refine (of_any g _ (HT.out.below HB0.out).blk).mono ?_
  rintro e w' ⟨rfl, hw'⟩
  subst w'
  go_wp2_with fail
  refine HA.out.mono ?_
  rintro e w' ⟨rfl, hw'⟩
  subst w'
  go_wp2_with fail
  refine CL.out.mono ?_
  rintro e w2 ⟨rfl, k⟩
  have K := Lib.hid (Turned.from HT.out HB0.out k)
  clear k
  go_wp2_with fail
  go_ret
  exact ⟨rfl, K.out⟩

set_option maxRecDepth 100000 in
set_option maxHeartbeats 4000000 in
theorem do_w4 {w : World} {g : Nat} {on of : Option Nat} {t : T} (h : TreeAt w g on of t) (ht : Std t) (hx : t.nx ≤ 100000) (hm : ML w) (x : Deed) (hk : x.node.kind ≤ 255) (h1 : x.name.length ≤ 10000) (h2 : x.to.length ≤ 10000) (h3 : x.node.link.length ≤ 10000) (h4 : x.node.data.length ≤ 10000) (hw : x.what = 4) (i : Nat) (hl : Tre.look t.ents x.name = some i) :
    Calls Tryz.prog 28 #[.pointer (some ⟨g, 0, none⟩), dv x] w fun e w' => e = .returned (errV (act t x).2) ∧ Turned w g on of (act t x).1 w' := by
  have hb0 : Below w.heap.size w (w.alloc (.cells (dvc x) 53)) := (Below.refl _ _).alloc (Nat.le_refl _) _
  have HT := Lib.hid h
  have HB0 := Lib.hid hb0
  have CL := Lib.hid (move_tree (h.below hb0) ht hx (hm.below hb0) x i hl h2)
  have e : act t x = Tre.move t x := by unfold act; rw [if_neg (by omega), if_neg (by omega), hl]; simp only; rw [if_neg (by omega), if_neg (by omega), if_pos hw]
  rw [e]
  obtain ⟨C, hC⟩ : ∃ C, C = Tre.move t x := ⟨_, rfl⟩
  rw [← hC] at CL ⊢
  have HA := Lib.hid (thas_any (h.below hb0) (bs x.name) (by rw [bs_size]; omega))
  have hh : T.has t (bs x.name).data.toList = true := by rw [bs_list]; unfold T.has; rw [hl]; rfl
  rw [hh] at HA
  unfold dv dvc at CL ⊢
  unfold dvc at HA HB0
  clear e h ht hm hb0 hC hh hl
  obtain ⟨what, name, dest, n, node⟩ := x
  obtain ⟨n0, n1, n2, n3, n4, n5, n6, n7, n8, n9⟩ := node
  simp only at hw CL HB0 HA ⊢
  subst hw
  go_enter Tryz.func28, Tryz.ntmps28
  go_wp2_with fail
  refine (of_any g _ (HT.out.below HB0.out).blk).mono ?_
  rintro e w' ⟨rfl, hw'⟩
  subst w'
  go_wp2_with fail
  refine HA.out.mono ?_
  rintro e w' ⟨rfl, hw'⟩
  subst w'
  go_wp2_with fail
  refine CL.out.mono ?_
  rintro e w2 ⟨rfl, k⟩
  have K := Lib.hid (Turned.from HT.out HB0.out k)
  clear k
  go_wp2_with fail
  go_ret
  exact ⟨rfl, K.out⟩

set_option maxRecDepth 100000 in
set_option maxHeartbeats 4000000 in
theorem do_w5 {w : World} {g : Nat} {on of : Option Nat} {t : T} (h : TreeAt w g on of t) (ht : Std t) (hx : t.nx ≤ 100000) (hm : ML w) (x : Deed) (hk : x.node.kind ≤ 255) (h1 : x.name.length ≤ 10000) (h2 : x.to.length ≤ 10000) (h3 : x.node.link.length ≤ 10000) (h4 : x.node.data.length ≤ 10000) (hw : x.what = 5) (i : Nat) (hl : Tre.look t.ents x.name = some i) :
    Calls Tryz.prog 28 #[.pointer (some ⟨g, 0, none⟩), dv x] w fun e w' => e = .returned (errV (act t x).2) ∧ Turned w g on of (act t x).1 w' := by
  have hb0 : Below w.heap.size w (w.alloc (.cells (dvc x) 53)) := (Below.refl _ _).alloc (Nat.le_refl _) _
  have HT := Lib.hid h
  have HB0 := Lib.hid hb0
  have CL := Lib.hid (change_5 (h.below hb0) ht hx x i hl hw h2)
  have e : act t x = change t x i := by unfold act; rw [if_neg (by omega), if_neg (by omega), hl]; simp only; rw [if_neg (by omega), if_neg (by omega), if_neg (by omega)]
  rw [e]
  obtain ⟨C, hC⟩ : ∃ C, C = change t x i := ⟨_, rfl⟩
  rw [← hC] at CL ⊢
  have HA := Lib.hid (thas_any (h.below hb0) (bs x.name) (by rw [bs_size]; omega))
  have hh : T.has t (bs x.name).data.toList = true := by rw [bs_list]; unfold T.has; rw [hl]; rfl
  rw [hh] at HA
  unfold dv dvc at CL ⊢
  unfold dvc at HA HB0
  clear e h ht hm hb0 hC hh hl
  obtain ⟨what, name, dest, n, node⟩ := x
  obtain ⟨n0, n1, n2, n3, n4, n5, n6, n7, n8, n9⟩ := node
  simp only at hw CL HB0 HA ⊢
  subst hw
  go_enter Tryz.func28, Tryz.ntmps28
  go_wp2_with fail
  refine (of_any g _ (HT.out.below HB0.out).blk).mono ?_
  rintro e w' ⟨rfl, hw'⟩
  subst w'
  go_wp2_with fail
  refine HA.out.mono ?_
  rintro e w' ⟨rfl, hw'⟩
  subst w'
  go_wp2_with fail
  refine CL.out.mono ?_
  rintro e w2 ⟨rfl, k⟩
  have K := Lib.hid (Turned.from HT.out HB0.out k)
  clear k
  go_wp2_with fail
  go_ret
  exact ⟨rfl, K.out⟩

set_option maxRecDepth 100000 in
set_option maxHeartbeats 4000000 in
theorem do_w6 {w : World} {g : Nat} {on of : Option Nat} {t : T} (h : TreeAt w g on of t) (ht : Std t) (hx : t.nx ≤ 100000) (hm : ML w) (x : Deed) (hk : x.node.kind ≤ 255) (h1 : x.name.length ≤ 10000) (h2 : x.to.length ≤ 10000) (h3 : x.node.link.length ≤ 10000) (h4 : x.node.data.length ≤ 10000) (hw : x.what = 6) (i : Nat) (hl : Tre.look t.ents x.name = some i) :
    Calls Tryz.prog 28 #[.pointer (some ⟨g, 0, none⟩), dv x] w fun e w' => e = .returned (errV (act t x).2) ∧ Turned w g on of (act t x).1 w' := by
  have hb0 : Below w.heap.size w (w.alloc (.cells (dvc x) 53)) := (Below.refl _ _).alloc (Nat.le_refl _) _
  have HT := Lib.hid h
  have HB0 := Lib.hid hb0
  have CL := Lib.hid (change_6 (h.below hb0) ht hx x i hl hw h2)
  have e : act t x = change t x i := by unfold act; rw [if_neg (by omega), if_neg (by omega), hl]; simp only; rw [if_neg (by omega), if_neg (by omega), if_neg (by omega)]
  rw [e]
  obtain ⟨C, hC⟩ : ∃ C, C = change t x i := ⟨_, rfl⟩
  rw [← hC] at CL ⊢
  have HA := Lib.hid (thas_any (h.below hb0) (bs x.name) (by rw [bs_size]; omega))
  have hh : T.has t (bs x.name).data.toList = true := by rw [bs_list]; unfold T.has; rw [hl]; rfl
  rw [hh] at HA
  unfold dv dvc at CL ⊢
  unfold dvc at HA HB0
  clear e h ht hm hb0 hC hh hl
  obtain ⟨what, name, dest, n, node⟩ := x
  obtain ⟨n0, n1, n2, n3, n4, n5, n6, n7, n8, n9⟩ := node
  simp only at hw CL HB0 HA ⊢
  subst hw
  go_enter Tryz.func28, Tryz.ntmps28
  go_wp2_with fail
  refine (of_any g _ (HT.out.below HB0.out).blk).mono ?_
  rintro e w' ⟨rfl, hw'⟩
  subst w'
  go_wp2_with fail
  refine HA.out.mono ?_
  rintro e w' ⟨rfl, hw'⟩
  subst w'
  go_wp2_with fail
  refine CL.out.mono ?_
  rintro e w2 ⟨rfl, k⟩
  have K := Lib.hid (Turned.from HT.out HB0.out k)
  clear k
  go_wp2_with fail
  go_ret
  exact ⟨rfl, K.out⟩

set_option maxRecDepth 100000 in
set_option maxHeartbeats 4000000 in
theorem do_w7 {w : World} {g : Nat} {on of : Option Nat} {t : T} (h : TreeAt w g on of t) (ht : Std t) (hx : t.nx ≤ 100000) (hm : ML w) (x : Deed) (hk : x.node.kind ≤ 255) (h1 : x.name.length ≤ 10000) (h2 : x.to.length ≤ 10000) (h3 : x.node.link.length ≤ 10000) (h4 : x.node.data.length ≤ 10000) (hw : x.what = 7) (i : Nat) (hl : Tre.look t.ents x.name = some i) :
    Calls Tryz.prog 28 #[.pointer (some ⟨g, 0, none⟩), dv x] w fun e w' => e = .returned (errV (act t x).2) ∧ Turned w g on of (act t x).1 w' := by
  have hb0 : Below w.heap.size w (w.alloc (.cells (dvc x) 53)) := (Below.refl _ _).alloc (Nat.le_refl _) _
  have HT := Lib.hid h
  have HB0 := Lib.hid hb0
  have CL := Lib.hid (change_7 (h.below hb0) ht hx x i hl hw h2)
  have e : act t x = change t x i := by unfold act; rw [if_neg (by omega), if_neg (by omega), hl]; simp only; rw [if_neg (by omega), if_neg (by omega), if_neg (by omega)]
  rw [e]
  obtain ⟨C, hC⟩ : ∃ C, C = change t x i := ⟨_, rfl⟩
  rw [← hC] at CL ⊢
  have HA := Lib.hid (thas_any (h.below hb0) (bs x.name) (by rw [bs_size]; omega))
  have hh : T.has t (bs x.name).data.toList = true := by rw [bs_list]; unfold T.has; rw [hl]; rfl
  rw [hh] at HA
  unfold dv dvc at CL ⊢
  unfold dvc at HA HB0
  clear e h ht hm hb0 hC hh hl
  obtain ⟨what, name, dest, n, node⟩ := x
  obtain ⟨n0, n1, n2, n3, n4, n5, n6, n7, n8, n9⟩ := node
  simp only at hw CL HB0 HA ⊢
  subst hw
  go_enter Tryz.func28, Tryz.ntmps28
  go_wp2_with fail
  refine (of_any g _ (HT.out.below HB0.out).blk).mono ?_
  rintro e w' ⟨rfl, hw'⟩
  subst w'
  go_wp2_with fail
  refine HA.out.mono ?_
  rintro e w' ⟨rfl, hw'⟩
  subst w'
  go_wp2_with fail
  refine CL.out.mono ?_
  rintro e w2 ⟨rfl, k⟩
  have K := Lib.hid (Turned.from HT.out HB0.out k)
  clear k
  go_wp2_with fail
  go_ret
  exact ⟨rfl, K.out⟩

set_option maxRecDepth 100000 in
set_option maxHeartbeats 4000000 in
theorem do_w8 {w : World} {g : Nat} {on of : Option Nat} {t : T} (h : TreeAt w g on of t) (ht : Std t) (hx : t.nx ≤ 100000) (hm : ML w) (x : Deed) (hk : x.node.kind ≤ 255) (h1 : x.name.length ≤ 10000) (h2 : x.to.length ≤ 10000) (h3 : x.node.link.length ≤ 10000) (h4 : x.node.data.length ≤ 10000) (hw : x.what = 8) (i : Nat) (hl : Tre.look t.ents x.name = some i) :
    Calls Tryz.prog 28 #[.pointer (some ⟨g, 0, none⟩), dv x] w fun e w' => e = .returned (errV (act t x).2) ∧ Turned w g on of (act t x).1 w' := by
  have hb0 : Below w.heap.size w (w.alloc (.cells (dvc x) 53)) := (Below.refl _ _).alloc (Nat.le_refl _) _
  have HT := Lib.hid h
  have HB0 := Lib.hid hb0
  have CL := Lib.hid (change_8 (h.below hb0) ht hx x i hl hw h2)
  have e : act t x = change t x i := by unfold act; rw [if_neg (by omega), if_neg (by omega), hl]; simp only; rw [if_neg (by omega), if_neg (by omega), if_neg (by omega)]
  rw [e]
  obtain ⟨C, hC⟩ : ∃ C, C = change t x i := ⟨_, rfl⟩
  rw [← hC] at CL ⊢
  have HA := Lib.hid (thas_any (h.below hb0) (bs x.name) (by rw [bs_size]; omega))
  have hh : T.has t (bs x.name).data.toList = true := by rw [bs_list]; unfold T.has; rw [hl]; rfl
  rw [hh] at HA
  unfold dv dvc at CL ⊢
  unfold dvc at HA HB0
  clear e h ht hm hb0 hC hh hl
  obtain ⟨what, name, dest, n, node⟩ := x
  obtain ⟨n0, n1, n2, n3, n4, n5, n6, n7, n8, n9⟩ := node
  simp only at hw CL HB0 HA ⊢
  subst hw
  go_enter Tryz.func28, Tryz.ntmps28
  go_wp2_with fail
  refine (of_any g _ (HT.out.below HB0.out).blk).mono ?_
  rintro e w' ⟨rfl, hw'⟩
  subst w'
  go_wp2_with fail
  refine HA.out.mono ?_
  rintro e w' ⟨rfl, hw'⟩
  subst w'
  go_wp2_with fail
  refine CL.out.mono ?_
  rintro e w2 ⟨rfl, k⟩
  have K := Lib.hid (Turned.from HT.out HB0.out k)
  clear k
  go_wp2_with fail
  go_ret
  exact ⟨rfl, K.out⟩

theorem do_tree {w : World} {g : Nat} {on of : Option Nat} {t : T} (h : TreeAt w g on of t) (ht : Std t) (hx : t.nx ≤ 100000) (hm : ML w) (x : Deed) (hk : x.node.kind ≤ 255) (h1 : x.name.length ≤ 10000) (h2 : x.to.length ≤ 10000) (h3 : x.node.link.length ≤ 10000) (h4 : x.node.data.length ≤ 10000) :
    Calls Tryz.prog 28 #[.pointer (some ⟨g, 0, none⟩), dv x] w fun e w' => e = .returned (errV (act t x).2) ∧ Turned w g on of (act t x).1 w' := by
  by_cases a1 : x.what = 1
  · exact do_make h ht hx hm x hk h1 h2 h3 h4 a1
  · by_cases a2 : x.what < 1 ∨ 8 < x.what
    · exact do_wild h ht hx hm x hk h1 h2 h3 h4 a2
    · cases hl : Tre.look t.ents x.name with
      | none => exact do_lacks h ht hx hm x hk h1 h2 h3 h4 (by omega) hl
      | some i =>
        rcases (by omega : x.what = 2 ∨ x.what = 3 ∨ x.what = 4 ∨ x.what = 5 ∨ x.what = 6 ∨ x.what = 7 ∨ x.what = 8) with e | e | e | e | e | e | e
        · exact do_w2 h ht hx hm x hk h1 h2 h3 h4 e i hl
        · exact do_w3 h ht hx hm x hk h1 h2 h3 h4 e i hl
        · exact do_w4 h ht hx hm x hk h1 h2 h3 h4 e i hl
        · exact do_w5 h ht hx hm x hk h1 h2 h3 h4 e i hl
        · exact do_w6 h ht hx hm x hk h1 h2 h3 h4 e i hl
        · exact do_w7 h ht hx hm x hk h1 h2 h3 h4 e i hl
        · exact do_w8 h ht hx hm x hk h1 h2 h3 h4 e i hl

end Go.Proofs.YtipajekehbpghaaGreatDoor

namespace Go.Proofs.YtipajekehbpghaaGreatDoor
open Go.RowKit Go.Maps Tre

theorem weightsAll_mem {H : Type} {P : Program} {e : TypeId} : ∀ {l : List (DataW H)} {d : DataW H} {n : Nat}, d ∈ l → n ∈ d.weights P e → n ∈ DataW.weightsAll P e l
  | x :: r, d, n, hd, hn => by
    simp only [DataW.weightsAll]
    rcases List.mem_cons.1 hd with rfl | hd
    · exact List.mem_append_left _ hn
    · exact List.mem_append_right _ (weightsAll_mem hd hn)

section
variable {H : Type} {enc : TypeId × Value → H} {w : World} {base : Nat} {sp : Nat → Bool} {held : Bool}
def timeD (s n : Int) : DataW H := .agg [.lit (.int .i64 s), .lit (.int .i64 n)]
def nodeD (n : Nd) : DataW H := .agg [.lit (.int .u8 n.kind), .lit (.int .i64 n.mode), .lit (.int .i64 n.uid), .lit (.int .i64 n.gid), timeD n.sec n.nano, .lit (.string n.data), .lit (.string n.link), .lit (.int .i64 n.major), .lit (.int .i64 n.minor)]
def deedD (x : Deed) : DataW H := .agg [.lit (.int .i64 x.what), .lit (.string x.name), .lit (.string x.to), .lit (.int .i64 x.n), nodeD x.node]
theorem one_int : Tryz.prog.cellsOf 3 = 1 := by kernel_rfl
theorem one_u8 : Tryz.prog.cellsOf 5 = 1 := by kernel_rfl
theorem one_str : Tryz.prog.cellsOf 9 = 1 := by kernel_rfl
theorem two_time : Tryz.prog.cellsOf 31 = 2 := by kernel_rfl
theorem ten_node : Tryz.prog.cellsOf 33 = 10 := by kernel_rfl
theorem ft_act : Tryz.prog.cellsOf 53 = 14 := by kernel_rfl

set_option maxRecDepth 100000 in
theorem time_of {fuel : Nat} {cs : List Value} {x : DataW H × List MemPlace} (h : DataW.trod enc Tryz.prog w base sp held fuel 31 cs = some x) : ∃ s n : Int, cs = [.int .i64 s, .int .i64 n] ∧ x.1 = timeD s n := by
  obtain ⟨xs, n, rfl, rfl, hlen, hxl, hf⟩ := DataW.trod_struct Tryz.underlying31 h
  rw [two_time] at hlen
  match cs, hlen with
  | [c0, c1], _ =>
    match xs, hxl with
    | [y0, y1], _ =>
      have f0 := hf 0 _ rfl
      have f1 := hf 1 _ rfl
      simp only [one_int, List.drop, List.take, List.getElem?_cons_zero, List.getElem?_cons_succ] at f0 f1
      obtain ⟨s, e0, rfl, _⟩ := DataW.trod_int Tryz.underlying3 f0
      obtain ⟨m, e1, rfl, _⟩ := DataW.trod_int Tryz.underlying3 f1
      cases e0; cases e1
      exact ⟨s, m, rfl, rfl⟩
set_option maxRecDepth 100000 in
theorem node_of {fuel : Nat} {cs : List Value} {x : DataW H × List MemPlace} (h : DataW.trod enc Tryz.prog w base sp held fuel 33 cs = some x) : ∃ n : Nd, cs = (ndc n).toList ∧ x.1 = nodeD n ∧ n.kind ≤ 255 := by
  obtain ⟨xs, n, rfl, rfl, hlen, hxl, hf⟩ := DataW.trod_struct Tryz.underlying33 h
  rw [ten_node] at hlen
  match cs, hlen with
  | [c0, c1, c2, c3, c4, c5, c6, c7, c8, c9], _ =>
    match xs, hxl with
    | [y0, y1, y2, y3, y4, y5, y6, y7, y8], _ =>
      have f0 := hf 0 _ rfl
      have f1 := hf 1 _ rfl
      have f2 := hf 2 _ rfl
      have f3 := hf 3 _ rfl
      have f4 := hf 4 _ rfl
      have f5 := hf 5 _ rfl
      have f6 := hf 6 _ rfl
      have f7 := hf 7 _ rfl
      have f8 := hf 8 _ rfl
      simp only [one_int, one_u8, one_str, two_time, List.drop, List.take, List.getElem?_cons_zero, List.getElem?_cons_succ] at f0 f1 f2 f3 f4 f5 f6 f7 f8
      obtain ⟨k, e0, rfl, wf⟩ := DataW.trod_int Tryz.underlying5 f0
      obtain ⟨a1, e1, rfl, _⟩ := DataW.trod_int Tryz.underlying3 f1
      obtain ⟨a2, e2, rfl, _⟩ := DataW.trod_int Tryz.underlying3 f2
      obtain ⟨a3, e3, rfl, _⟩ := DataW.trod_int Tryz.underlying3 f3
      obtain ⟨s, m, e4, e4'⟩ := time_of f4
      obtain ⟨a5, e5, rfl, _⟩ := DataW.trod_string Tryz.underlying9 f5
      obtain ⟨a6, e6, rfl, _⟩ := DataW.trod_string Tryz.underlying9 f6
      obtain ⟨a7, e7, rfl, _⟩ := DataW.trod_int Tryz.underlying3 f7
      obtain ⟨a8, e8, rfl, _⟩ := DataW.trod_int Tryz.underlying3 f8
      have hb : 0 ≤ k ∧ k < 256 := by have := bounds_u8 wf; omega
      have hk : ((k.toNat : Nat) : Int) = k := Int.toNat_of_nonneg hb.1
      cases e0; cases e1; cases e2; cases e3; cases e4; cases e5; cases e6; cases e7; cases e8
      refine ⟨⟨k.toNat, a1, a2, a3, s, m, a5.data.toList, a6.data.toList, a7, a8⟩, ?_, ?_, by simp only; omega⟩
      · unfold ndc; simp only [hk, bs_of]
      · unfold nodeD; simp only [List.map, e4', hk]
set_option maxRecDepth 100000 in
theorem deed_of {fuel : Nat} {cs : List Value} {x : DataW H × List MemPlace} (h : DataW.trod enc Tryz.prog w base sp held fuel 53 cs = some x) : ∃ n : Deed, cs = (dvc n).toList ∧ x.1 = deedD n ∧ n.node.kind ≤ 255 := by
  obtain ⟨xs, n, rfl, rfl, hlen, hxl, hf⟩ := DataW.trod_struct Tryz.underlying53 h
  rw [ft_act] at hlen
  match cs, hlen with
  | [c0, c1, c2, c3, c4, c5, c6, c7, c8, c9, c10, c11, c12, c13], _ =>
    match xs, hxl with
    | [y0, y1, y2, y3, y4], _ =>
      have f0 := hf 0 _ rfl
      have f1 := hf 1 _ rfl
      have f2 := hf 2 _ rfl
      have f3 := hf 3 _ rfl
      have f4 := hf 4 _ rfl
      simp only [one_int, one_str, ten_node, List.drop, List.take, List.getElem?_cons_zero, List.getElem?_cons_succ] at f0 f1 f2 f3 f4
      obtain ⟨a0, e0, rfl, _⟩ := DataW.trod_int Tryz.underlying3 f0
      obtain ⟨a1, e1, rfl, _⟩ := DataW.trod_string Tryz.underlying9 f1
      obtain ⟨a2, e2, rfl, _⟩ := DataW.trod_string Tryz.underlying9 f2
      obtain ⟨a3, e3, rfl, _⟩ := DataW.trod_int Tryz.underlying3 f3
      obtain ⟨m, e4, e4', hk⟩ := node_of f4
      cases e0; cases e1; cases e2; cases e3; cases e4
      refine ⟨⟨a0, a1.data.toList, a2.data.toList, a3, m⟩, ?_, ?_, hk⟩
      · unfold dvc; simp only [bs_of]
      · unfold deedD; simp only [List.map, e4']
theorem deed_weights (x : Deed) : (deedD x : DataW H).weights Tryz.prog 53 = [x.name.length, x.to.length, x.node.data.length, x.node.link.length] := by
  simp [deedD, nodeD, timeD, DataW.weights, DataW.weightsEach, Tryz.underlying53, Tryz.underlying33, Tryz.underlying31]
end

instance : Inhabited Deed := ⟨⟨0, [], [], 0, zero⟩⟩
def RowD (W : World) (b off : Nat) (l : List Deed) : Prop := ∀ (j : Nat) (hj : j < l.length) (k : Nat), k < 14 → W.cell? ⟨b, off + j * 14 + k, none⟩ = (dvc l[j])[k]?
theorem RowD.below {W W' : World} {b off D : Nat} {l : List Deed} (h : RowD W b off l) (hb : Below D W W') (hD : b < D) : RowD W' b off l := fun j hj k hk => (hb.cell (p := ⟨b, off + j * 14 + k, none⟩) hD).trans (h j hj k hk)
def Fits (x : Deed) : Prop := x.node.kind ≤ 255 ∧ x.name.length ≤ 140737488351232 ∧ x.to.length ≤ 140737488351232 ∧ x.node.data.length ≤ 140737488351232 ∧ x.node.link.length ≤ 140737488351232
/-- A slice of actions that came in. -/
def DeedsIn (W : World) (v : Value) (l : List Deed) : Prop :=
  ∃ X cap, v = .slice X l.length cap ∧ l.length ≤ cap ∧ l.length ≤ 1000000000000 ∧ (∀ x ∈ l, Fits x) ∧ (l = [] ∨ ∃ b off, X = some ⟨b, off, none⟩ ∧ b < W.heap.size ∧ RowD W b off l)
theorem DeedsIn.below {W W' : World} {v : Value} {l : List Deed} (h : DeedsIn W v l) (hb : Below W.heap.size W W') : DeedsIn W' v l := by
  obtain ⟨X, cap, e, h1, h2, h3, h4⟩ := h
  exact ⟨X, cap, e, h1, h2, h3, h4.imp id fun ⟨b, off, e1, e2, e3⟩ => ⟨b, off, e1, Nat.lt_of_lt_of_le e2 hb.size, e3.below hb e2⟩⟩

set_option maxRecDepth 100000 in
theorem deeds_of {H : Type} {enc : TypeId × Value → H} {W : World} {v : Value} {d : DataW H} {ps : List MemPlace} {base : Nat} (hok : Value.okWide Tryz.prog W .any base 22 v)
    (h : DataW.Trod enc Tryz.prog W 0 (fun _ => true) true 22 v d ps) (hz : ∀ n ∈ d.weights Tryz.prog 22, n ≤ reachBytes) : ∃ l, DeedsIn W v l := by
  obtain ⟨a0, len, cap, rfl⟩ := WideShapes.okWide_slice Tryz.underlying22 hok
  obtain ⟨fuel, hf⟩ := h
  rcases Deep.open_slice Tryz.underlying22 hf with ⟨hcs, _⟩ | ⟨a, len', cap', m, n, D, Pl, hcs, _, hl, hcm, hm, hx, hi⟩
  · obtain ⟨rfl, rfl, rfl⟩ : a0 = none ∧ len = 0 ∧ cap = 0 := by simpa [Value.cells] using hcs
    exact ⟨[], none, 0, rfl, Nat.le_refl _, by simp, (fun r hr => by cases hr), .inl rfl⟩
  · obtain ⟨rfl, rfl, rfl⟩ : a0 = some a ∧ len = len' ∧ cap = cap' := by simpa [Value.cells] using hcs
    have hm' : m = cap := by simpa using hm
    subst hm'
    obtain ⟨hxd, _⟩ := Prod.mk.inj hx
    obtain ⟨f, hf2⟩ := Deep.choose_lt (α := Deed) (p := fun i x => (W.cells? 0 (a.add (i * 14)) 14 = some (dvc x).toList) ∧ D i = deedD x ∧ x.node.kind ≤ 255) (n := m) (fun i hi' => by
      obtain ⟨cs', hc, ht⟩ := hi i hi'
      rw [ft_act] at hc
      obtain ⟨x, rfl, hx2, hk⟩ := deed_of ht
      exact ⟨x, hc, hx2, hk⟩)
    have hw := hz
    rw [hxd] at hw
    simp only [DataW.weights, Tryz.underlying22] at hw
    have hlen : (len + (m - len)) * Tryz.prog.bytesOf 53 ≤ reachBytes := by
      have := hw _ (List.mem_cons_self ..)
      simpa using this
    have hb32 : Tryz.prog.bytesOf 53 = 144 := by kernel_rfl
    rw [hb32] at hlen
    unfold reachBytes at hlen
    have hst : ∀ j, j < len → Fits (f j) := fun j hj => by
      obtain ⟨_, d0, hk⟩ := hf2 j (by omega)
      have hel : D j ∈ (List.range len).map D := List.mem_map.2 ⟨j, List.mem_range.2 hj, rfl⟩
      have hin : ∀ n, n ∈ (D j).weights Tryz.prog 53 → n ≤ reachBytes := fun n hn =>
        hw n (List.mem_cons_of_mem _ (List.mem_append_left _ (weightsAll_mem hel hn)))
      rw [d0, deed_weights] at hin
      have a1 := hin (f j).name.length (by simp)
      have a2 := hin (f j).to.length (by simp)
      have a3 := hin (f j).node.data.length (by simp)
      have a4 := hin (f j).node.link.length (by simp)
      unfold reachBytes at a1 a2 a3 a4
      exact ⟨hk, by omega, by omega, by omega, by omega⟩
    refine ⟨(List.range len).map f, some a, m, by simp, by simpa using hl, by simp; omega, ?_, ?_⟩
    · intro r hr
      obtain ⟨i, hi', rfl⟩ := List.mem_map.1 hr
      exact hst i (List.mem_range.1 hi')
    · by_cases h0 : len = 0
      · subst h0; exact .inl rfl
      · right
        have hat : ∀ j, j < m → ∀ k, k < 14 → W.cell? ((a.add (j * 14)).add k) = (dvc (f j))[k]? := fun j hj k hk => by
          obtain ⟨_, _, hcl⟩ := World.cells?_some (hf2 j hj).1
          rw [hcl k hk]; simp
        obtain ⟨b, off, spot⟩ := a
        have hspot : spot = none := by
          have := hat 0 (by omega) 0 (by omega)
          simp only [Nat.zero_mul] at this
          have h2 : W.cell? ((⟨b, off, spot⟩ : Addr).add 0 |>.add 0) = some (.int .i64 (f 0).what) := this
          simpa [Addr.add] using World.cell?_spot h2
        subst hspot
        have h00 := hat 0 (by omega) 0 (by omega)
        rw [WideShapes.add_plain, WideShapes.add_plain] at h00
        refine ⟨b, off, rfl, World.block_lt_of_cell? W ⟨b, off + 0 * 14 + 0, none⟩ (u := .int .i64 (f 0).what) h00, fun j hj k hk => ?_⟩
        have hj' : j < len := by simpa using hj
        have := hat j (by omega) k hk
        rw [WideShapes.add_plain, WideShapes.add_plain] at this
        rw [this]
        simp

end Go.Proofs.YtipajekehbpghaaGreatDoor

namespace Go.Proofs.YtipajekehbpghaaGreatDoor
open Go.RowKit Go.Maps Tre

/-- Too large to be held. -/
def bigD (x : Deed) : Bool := decide (600 < x.name.length + x.to.length + x.node.link.length) || decide (1500 < x.node.data.length)
def bigL (l : List Deed) : Bool := decide (60 < l.length) || l.any bigD

set_option maxRecDepth 100000 in
theorem big_any (x : Deed) (hf : Fits x) (w : World) : Calls Tryz.prog 50 #[dv x] w fun e w' => e = .returned (.bool (bigD x)) ∧ Below w.heap.size w w' := by
  obtain ⟨what, name, dest, n, node⟩ := x
  obtain ⟨n0, n1, n2, n3, n4, n5, n6, n7, n8, n9⟩ := node
  obtain ⟨_, f1, f2, f3, f4⟩ := hf
  unfold dv dvc bigD
  simp only at f1 f2 f3 f4 ⊢
  have s1 : (bs name).size = name.length := rfl
  have s2 : (bs dest).size = dest.length := rfl
  have s3 : (bs n7).size = n7.length := rfl
  have s4 : (bs n6).size = n6.length := rfl
  rw [← s1, ← s2, ← s3, ← s4]
  rw [← s1] at f1
  rw [← s2] at f2
  rw [← s4] at f3
  rw [← s3] at f4
  generalize bs name = A at *
  generalize bs dest = B at *
  generalize bs n7 = C at *
  generalize bs n6 = D at *
  clear s1 s2 s3 s4
  have hB : ∀ w : World, Below w.heap.size w (w.alloc (.cells #[.int .i64 what, .string A, .string B, .int .i64 n, .int .u8 n0, .int .i64 n1, .int .i64 n2, .int .i64 n3, .int .i64 n4, .int .i64 n5, .string D, .string C, .int .i64 n8, .int .i64 n9] 53)) := fun w => (Below.refl _ _).alloc (Nat.le_refl _) _
  have HB := Lib.hid (hB w)
  clear hB
  by_cases h1 : 600 < A.size + B.size + C.size
  · have k1 : (600 : Int) < (A.size : Int) + B.size + C.size := by omega
    have e : (decide (600 < A.size + B.size + C.size) || decide (1500 < D.size)) = true := by simp [h1]
    rw [e]
    clear e h1
    go_enter Tryz.func50, Tryz.ntmps50
    go_wp2_with fail
    go_ret
    exact ⟨rfl, HB.out⟩
  · have k1 : ¬ (600 : Int) < (A.size : Int) + B.size + C.size := by omega
    by_cases h2 : 1500 < D.size
    · have k2 : (1500 : Int) < D.size := by omega
      have e : (decide (600 < A.size + B.size + C.size) || decide (1500 < D.size)) = true := by simp [h2]
      rw [e]
      clear e h1 h2
      go_enter Tryz.func50, Tryz.ntmps50
      go_wp2_with fail
      go_ret
      exact ⟨rfl, HB.out⟩
    · have k2 : ¬ (1500 : Int) < D.size := by omega
      have e : (decide (600 < A.size + B.size + C.size) || decide (1500 < D.size)) = false := by simp [h2]; omega
      rw [e]
      clear e h1 h2
      go_enter Tryz.func50, Tryz.ntmps50
      go_wp2_with fail
      go_ret
      exact ⟨rfl, HB.out⟩

set_option maxRecDepth 100000 in
set_option maxHeartbeats 2000000 in
theorem index_deeds (l : List Deed) (b off c : Nat) (w : World) (hb : b < w.heap.size) (hrow : RowD w b off l) (hl : l.length ≤ 1000000) (hf : ∀ x ∈ l, Fits x) :
    Calls Tryz.prog 97 #[.slice (some ⟨b, off, none⟩) l.length c, .func (.func 50) #[] #[]] w fun e w' => ∃ i : Int, e = .returned (.int .i64 i) ∧ decide (0 ≤ i) = l.any bigD ∧ Below w.heap.size w w' := by
  have R := Lib.hid hrow
  have HF := Lib.hid hf
  have hli : (l.length : Int) ≤ 1000000 := by omega
  clear hrow hf
  go_enter Tryz.func97, Tryz.ntmps97
  go_wp2_with fail
  go_loopg [5, 8] (l.length) (fun gg _ iv wr => ∃ i : Nat, iv = .int .i64 i ∧ i ≤ l.length ∧ gg = l.length - i ∧ Hid (Below w.heap.size w wr) ∧ Hid (∀ x ∈ l.take i, bigD x = false))
  case atStart => exact ⟨0, rfl, by omega, by omega, Lib.hid (Below.refl _ _), Lib.hid (by simp)⟩
  case round =>
    obtain ⟨i, rfl, hi, hg, HW, HN⟩ := hrel
    have HG := Lib.hid hg
    clear hg
    by_cases hil : i < l.length
    · have hii : (i : Int) < l.length := by omega
      have rw_ := R.out.below HW.out hb
      have hts : l.take (i + 1) = l.take i ++ [l[i]] := List.take_succ_eq_append_getElem hil
      have hmem : l[i] ∈ l := List.getElem_mem hil
      have PP := Lib.hid (fun w => big_any l[i] (HF.out l[i] hmem) w)
      have hcell := rw_ i hil
      obtain ⟨x, hx⟩ : ∃ x, x = l[i] := ⟨_, rfl⟩
      rw [← hx] at hcell PP hts hmem
      have HTS := Lib.hid hts
      have HME := Lib.hid hmem
      obtain ⟨r, hr⟩ : ∃ r, r = bigD x := ⟨_, rfl⟩
      rw [← hr] at PP
      have HR := Lib.hid hr
      have d0 : wr.cell? ⟨b, off + i * 14, none⟩ = some (.int .i64 x.what) := hcell 0 (by omega)
      have d1 : wr.cell? ⟨b, off + i * 14 + 1, none⟩ = some (.string (bs x.name)) := hcell 1 (by omega)
      have d2 : wr.cell? ⟨b, off + i * 14 + 2, none⟩ = some (.string (bs x.to)) := hcell 2 (by omega)
      have d3 : wr.cell? ⟨b, off + i * 14 + 3, none⟩ = some (.int .i64 x.n) := hcell 3 (by omega)
      have d4 : wr.cell? ⟨b, off + i * 14 + 4, none⟩ = some (.int .u8 x.node.kind) := hcell 4 (by omega)
      have d5 : wr.cell? ⟨b, off + i * 14 + 5, none⟩ = some (.int .i64 x.node.mode) := hcell 5 (by omega)
      have d6 : wr.cell? ⟨b, off + i * 14 + 6, none⟩ = some (.int .i64 x.node.uid) := hcell 6 (by omega)
      have d7 : wr.cell? ⟨b, off + i * 14 + 7, none⟩ = some (.int .i64 x.node.gid) := hcell 7 (by omega)
      have d8 : wr.cell? ⟨b, off + i * 14 + 8, none⟩ = some (.int .i64 x.node.sec) := hcell 8 (by omega)
      have d9 : wr.cell? ⟨b, off + i * 14 + 9, none⟩ = some (.int .i64 x.node.nano) := hcell 9 (by omega)
      have d10 : wr.cell? ⟨b, off + i * 14 + 10, none⟩ = some (.string (bs x.node.data)) := hcell 10 (by omega)
      have d11 : wr.cell? ⟨b, off + i * 14 + 11, none⟩ = some (.string (bs x.node.link)) := hcell 11 (by omega)
      have d12 : wr.cell? ⟨b, off + i * 14 + 12, none⟩ = some (.int .i64 x.node.major) := hcell 12 (by omega)
      have d13 : wr.cell? ⟨b, off + i * 14 + 13, none⟩ = some (.int .i64 x.node.minor) := hcell 13 (by omega)
      unfold dv dvc at PP
      clear rw_ hcell hx hts hmem hr
      go_wp2_with fail
      refine (PP.out _).mono ?_
      rintro e w1 ⟨rfl, h1⟩
      have B1 := Lib.hid (thenB HW.out h1)
      clear h1
      cases r
      · go_wp2_with fail
        go_roundg (l.length - (i + 1))
        case measure => have := HG.out; omega
        case rel => exact ⟨i + 1, by go_num, by omega, rfl, B1, Lib.hid (fun y hy => by
          rw [HTS.out] at hy
          rcases List.mem_append.1 hy with hy | hy
          · exact HN.out y hy
          · rw [List.mem_singleton.1 hy]; exact HR.out.symm)⟩
      · go_wp2_with fail
        go_ret
        refine ⟨_, rfl, ?_, B1.out⟩
        rw [List.any_eq_true.2 ⟨x, HME.out, HR.out.symm⟩]
        exact decide_eq_true (by omega)
    · have hii : (l.length : Int) ≤ i := by omega
      go_wp2_with fail
      go_ret
      refine ⟨_, rfl, ?_, HW.out⟩
      have h := HN.out
      rw [List.take_of_length_le (by omega)] at h
      rw [List.any_eq_false.2 (fun x hx => by rw [h x hx]; simp)]
      rfl

end Go.Proofs.YtipajekehbpghaaGreatDoor

namespace Tre
theorem plant_nx (l : List Deed) : (plant l).nx ≤ l.length := by
  have : ∀ (l : List Deed) (t : T), (l.foldl (fun t x => (act t x).1) t).nx ≤ t.nx + l.length := fun l => by
    induction l with
    | nil => intro t; simp
    | cons x l ih =>
      intro t
      have h1 := ih (act t x).1
      have h2 := (act_nx t x).1
      simp only [List.foldl_cons, List.length_cons]
      omega
  have h := this l none_
  unfold plant
  simpa [none_] using h
theorem plant_std (l : List Deed) : Std (plant l) := Std.plant l Std.none_
theorem plant_snoc (l : List Deed) (x : Deed) : plant (l ++ [x]) = (act (plant l) x).1 := by unfold plant; rw [List.foldl_append]; rfl
end Tre
namespace Go.Proofs.YtipajekehbpghaaGreatDoor
open Go.RowKit Go.Maps Tre

theorem index_none (X : Option Addr) (c : Nat) (fv : Value) (w : World) : Calls Tryz.prog 97 #[.slice X 0 c, fv] w fun e w' => e = .returned (.int .i64 (-1)) ∧ Below w.heap.size w w' := by
  go_enter Tryz.func97, Tryz.ntmps97
  go_wp2_with fail
  refine wp_loop_rounds 1 ?_
  rw [rounds_succ]
  go_wp2_with fail
  go_ret
  exact ⟨rfl, Below.refl _ _⟩
theorem contains_deeds {w : World} {v : Value} {l : List Deed} (h : DeedsIn w v l) (hl : l.length ≤ 1000000) :
    Calls Tryz.prog 49 #[v, .func (.func 50) #[] #[]] w fun e w' => e = .returned (.bool (l.any bigD)) ∧ Below w.heap.size w w' := by
  obtain ⟨X, cap, rfl, hc, _, hf, h4⟩ := h
  have hi : Calls Tryz.prog 97 #[.slice X l.length cap, .func (.func 50) #[] #[]] w fun e w' => ∃ i : Int, e = .returned (.int .i64 i) ∧ decide (0 ≤ i) = l.any bigD ∧ Below w.heap.size w w' := by
    rcases h4 with rfl | ⟨b, off, rfl, hb, hr⟩
    · exact (index_none X cap _ w).mono fun e w' ⟨he, hb⟩ => ⟨-1, he, rfl, hb⟩
    · exact index_deeds l b off cap w hb hr hl hf
  have HI := Lib.hid hi
  obtain ⟨r, hr⟩ : ∃ r, r = l.any bigD := ⟨_, rfl⟩
  rw [← hr] at HI ⊢
  clear hi hr h4 hf
  go_enter Tryz.func49, Tryz.ntmps49
  go_wp2_with fail
  refine HI.out.mono ?_
  rintro e w1 ⟨i, rfl, hd, h1⟩
  have B1 := Lib.hid h1
  clear h1
  go_wp2_with fail
  go_ret
  exact ⟨rfl, B1.out⟩

theorem namesF_nil (k : Lit) : namesF [] k = none := by cases k <;> rfl
theorem filesF_nil (k : Lit) : filesF (fun _ => none) k = none := by
  unfold filesF intF
  split
  · simp
  · rfl
theorem empty_tree (w : World) : TreeAt (w.alloc (.cells #[.map none, .map none, .int .i64 0] 71)) w.heap.size none none none_ :=
  ⟨Blk.new w _ _, ⟨rfl, fun k _ => namesF_nil k⟩, ⟨0, ⟨rfl, fun k _ => filesF_nil k⟩, Nat.le_refl _⟩, Iff.rfl, fun b hb => by cases hb⟩
/-- What planted returns. -/
def Planted (w : World) (l : List Deed) (e : Ending) (w' : World) : Prop :=
  Below w.heap.size w w' ∧ ((bigL l = true ∧ e = .returned (.pointer none)) ∨
    (bigL l = false ∧ ∃ g on of, e = .returned (.pointer (some ⟨g, 0, none⟩)) ∧ TreeAt w' g on of (plant l) ∧ ∀ b ∈ own g on of, w.heap.size ≤ b))
theorem bigL_len {l : List Deed} (h : bigL l = false) : l.length ≤ 60 := by
  unfold bigL at h
  simp at h
  exact h.1
theorem bigD_len {x : Deed} (h : bigD x = false) : x.name.length + x.to.length + x.node.link.length ≤ 600 ∧ x.node.data.length ≤ 1500 := by
  unfold bigD at h
  simpa using h

set_option maxRecDepth 100000 in
set_option maxHeartbeats 4000000 in
theorem planted_any {w : World} {v : Value} {l : List Deed} (h : DeedsIn w v l) (hm : ML w) : Calls Tryz.prog 15 #[v] w (Planted w l) := by
  obtain ⟨X, cap, rfl, hc, hbig, hf, h4⟩ := id h
  have hli : (l.length : Int) ≤ 1000000000000 := by omega
  by_cases h60 : 60 < l.length
  · have e : bigL l = true := by unfold bigL; simp [h60]
    have HE := Lib.hid e
    have h60i : (60 : Int) < l.length := by omega
    clear e hc hbig hf h4 h hm
    go_enter Tryz.func15, Tryz.ntmps15
    go_wp2_with fail
    go_ret
    exact ⟨Below.refl _ _, .inl ⟨HE.out, rfl⟩⟩
  · have h60i : ¬ (60 : Int) < l.length := by omega
    have CT := Lib.hid (contains_deeds h (by omega))
    have e : bigL l = l.any bigD := by unfold bigL; simp [h60]
    cases hq : l.any bigD with
    | true =>
      rw [hq] at e CT
      have HE := Lib.hid e
      clear e hc hbig hf h4 h hm hq
      go_enter Tryz.func15, Tryz.ntmps15
      go_wp2_with fail
      refine CT.out.mono ?_
      rintro e w1 ⟨rfl, h1⟩
      have B1 := Lib.hid h1
      clear h1
      go_wp2_with fail
      go_ret
      exact ⟨B1.out, .inl ⟨HE.out, rfl⟩⟩
    | false =>
      rw [hq] at e CT
      have HE := Lib.hid e
      have HF := Lib.hid hf
      have HM := Lib.hid hm
      have H4 := Lib.hid h4
      have HQ := Lib.hid (fun x (hx : x ∈ l) => bigD_len (by have := List.any_eq_false.1 hq x hx; simpa using this : bigD x = false))
      clear e hbig hf h4 h hm hq
      go_enter Tryz.func15, Tryz.ntmps15
      go_wp2_with fail
      refine CT.out.mono ?_
      rintro e w1 ⟨rfl, h1⟩
      have B1 := Lib.hid h1
      clear h1
      go_wp2_with fail
      have T0 : TreeAt _ w1.heap.size none none (plant []) := empty_tree w1
      have T00 := Lib.hid T0
      have B0 := Lib.hid (B1.out.alloc B1.out.size (.cells #[.map none, .map none, .int .i64 0] 71))
      have Z1 := Lib.hid B1.out.size
      clear T0 CT
      go_loopg [4] l.length (fun gg s4 wr => ∃ (i : Nat) (on of : Option Nat), s4 = .int .i64 i ∧ i + gg = l.length ∧ Hid (TreeAt wr w1.heap.size on of (plant (l.take i))) ∧ Hid (Below w.heap.size w wr) ∧ Hid (∀ b ∈ own w1.heap.size on of, w.heap.size ≤ b))
      case atStart => exact ⟨0, none, none, rfl, by omega, T00, B0, Lib.hid (by intro b hb; simp [own] at hb; subst hb; exact Z1.out)⟩
      case round =>
        obtain ⟨i, on, of, rfl, hg, HT, HW, HO⟩ := hrel
        have HG := Lib.hid hg
        clear hg
        by_cases hil : i < l.length
        · have hii : (i : Int) < l.length := by omega
          rcases H4.out with h0 | ⟨b, off, rfl, hb, hr⟩
          · rw [h0] at hil; cases hil
          have rw_ := hr.below HW.out hb
          have hcell := rw_ i hil
          have hts : l.take (i + 1) = l.take i ++ [l[i]] := List.take_succ_eq_append_getElem hil
          have hmem : l[i] ∈ l := List.getElem_mem hil
          obtain ⟨x, hx⟩ : ∃ x, x = l[i] := ⟨_, rfl⟩
          rw [← hx] at hcell hts hmem
          obtain ⟨q1, q2⟩ := HQ.out x hmem
          have hnx : (plant (l.take i)).nx ≤ 60 := by
            have := plant_nx (l.take i)
            rw [List.length_take] at this
            omega
          have DD := Lib.hid (do_tree HT.out (plant_std _) (by omega) (HM.out.below HW.out) x (HF.out x hmem).1 (by omega) (by omega) (by omega) (by omega))
          rw [← plant_snoc, ← hts] at DD
          have d0 : wr.cell? ⟨b, off + i * 14, none⟩ = some (.int .i64 x.what) := hcell 0 (by omega)
          have d1 : wr.cell? ⟨b, off + i * 14 + 1, none⟩ = some (.string (bs x.name)) := hcell 1 (by omega)
          have d2 : wr.cell? ⟨b, off + i * 14 + 2, none⟩ = some (.string (bs x.to)) := hcell 2 (by omega)
          have d3 : wr.cell? ⟨b, off + i * 14 + 3, none⟩ = some (.int .i64 x.n) := hcell 3 (by omega)
          have d4 : wr.cell? ⟨b, off + i * 14 + 4, none⟩ = some (.int .u8 x.node.kind) := hcell 4 (by omega)
          have d5 : wr.cell? ⟨b, off + i * 14 + 5, none⟩ = some (.int .i64 x.node.mode) := hcell 5 (by omega)
          have d6 : wr.cell? ⟨b, off + i * 14 + 6, none⟩ = some (.int .i64 x.node.uid) := hcell 6 (by omega)
          have d7 : wr.cell? ⟨b, off + i * 14 + 7, none⟩ = some (.int .i64 x.node.gid) := hcell 7 (by omega)
          have d8 : wr.cell? ⟨b, off + i * 14 + 8, none⟩ = some (.int .i64 x.node.sec) := hcell 8 (by omega)
          have d9 : wr.cell? ⟨b, off + i * 14 + 9, none⟩ = some (.int .i64 x.node.nano) := hcell 9 (by omega)
          have d10 : wr.cell? ⟨b, off + i * 14 + 10, none⟩ = some (.string (bs x.node.data)) := hcell 10 (by omega)
          have d11 : wr.cell? ⟨b, off + i * 14 + 11, none⟩ = some (.string (bs x.node.link)) := hcell 11 (by omega)
          have d12 : wr.cell? ⟨b, off + i * 14 + 12, none⟩ = some (.int .i64 x.node.major) := hcell 12 (by omega)
          have d13 : wr.cell? ⟨b, off + i * 14 + 13, none⟩ = some (.int .i64 x.node.minor) := hcell 13 (by omega)
          obtain ⟨c, hcc⟩ : ∃ c, c = errV (act (plant (l.take i)) x).2 := ⟨_, rfl⟩
          rw [← hcc] at DD
          obtain ⟨t', ht'⟩ : ∃ t', t' = plant (l.take (i + 1)) := ⟨_, rfl⟩
          rw [← ht'] at DD
          have HT' := Lib.hid ht'
          unfold dv dvc at DD
          clear rw_ hcell hx hts hmem q1 q2 hnx hr hcc ht'
          go_wp2_with fail
          refine DD.out.mono ?_
          rintro e w2 ⟨rfl, on', of', k1, k2, k3⟩
          have K1 := Lib.hid k1
          have KO := Lib.hid (show ∀ b ∈ own w1.heap.size on' of', w.heap.size ≤ b from fun b hb => by
            rcases k2 b hb with h | h
            · exact HO.out b h
            · exact Nat.le_trans HW.out.size h)
          have KB := Lib.hid (HW.out.trans (k3.down HO.out HW.out.size))
          clear k1 k2 k3
          go_wp2_with fail
          go_roundg (l.length - (i + 1))
          case measure => have := HG.out; omega
          case rel => exact ⟨i + 1, on', of', by go_num, by omega, by rw [← HT'.out]; exact K1, KB, KO⟩
        · have hii : (l.length : Int) ≤ i := by omega
          have ht := HT.out
          rw [List.take_of_length_le (by omega)] at ht
          have TT := Lib.hid ht
          clear ht
          go_wp2_with fail
          go_ret
          exact ⟨HW.out, .inr ⟨HE.out, _, on, of, rfl, TT.out, HO.out⟩⟩

end Go.Proofs.YtipajekehbpghaaGreatDoor

namespace Go.Proofs.YtipajekehbpghaaGreatDoor
open Go.RowKit Go.Maps Tre

/-- slices.Equal at texts. -/
theorem eq_any {W : World} {B C : Nat} {v u : Value} {ps qs : List Pth.Bs} (h : HasS W B v ps) (k : HasS W C u qs) (hl : ps.length ≤ 1000000) (hl2 : qs.length ≤ 1000000) :
    Calls Tryz.prog 42 #[v, u] W fun e w' => e = .returned (.bool (decide (ps = qs))) ∧ Below W.heap.size W w' := by
  rcases h.ways with ⟨A, cap, rfl, rfl⟩ | ⟨b, off, cap, rfl, _, _, hb, h0, hr⟩
  · obtain ⟨A2, cap2, rfl, _⟩ := k
    refine (Tryz.slices_Equal_string_empty A A2 cap qs.length cap2 W (by omega)).mono fun e w' ⟨he, hw⟩ => ⟨?_, hw ▸ Below.refl _ _⟩
    rw [he]; congr 2; rw [Bool.eq_iff_iff]; simp [eq_comm]
  · rcases k.ways with ⟨A2, cap2, rfl, rfl⟩ | ⟨b2, off2, cap2, rfl, _, _, hb2, h02, hr2⟩
    · refine (Tryz.slices_Equal_string_lens (some ⟨b, off, none⟩) A2 ps.length cap 0 cap2 W (by omega)).mono fun e w' ⟨he, hw⟩ => ⟨?_, hw ▸ Below.refl _ _⟩
      rw [he]; congr 2; symm; apply decide_eq_false; intro e; rw [e] at h0; simp at h0
    · have cell : ∀ {b off : Nat} {ps : List Pth.Bs}, RowS W b off ps → ∀ j, j < (ps.map bs).length → W.cell? ⟨b, off + j, none⟩ = some (.string ((ps.map bs).getD j ByteArray.empty)) := fun hr j hj => by
        have hj' := hj
        rw [List.length_map] at hj'
        rw [List.getD_eq_getElem?_getD, List.getElem?_eq_getElem hj]; simpa using hr j hj'
      refine (Tryz.slices_Equal_string b off ps.length cap b2 off2 qs.length cap2 (ps.map bs) (qs.map bs) W (by simp) (by simp) (by omega) (by omega) (cell hr) (cell hr2)).mono fun e w' ⟨he, q, hw⟩ => ⟨?_, hw ▸ below_drewN (Below.refl _ _) q⟩
      rw [he, List.take_of_length_le (by simp), List.take_of_length_le (by simp)]
      congr 2
      rw [Bool.eq_iff_iff, decide_eq_true_iff, decide_eq_true_iff]
      constructor
      · intro e
        have := congrArg (List.map (fun x : ByteArray => x.data.toList)) e
        rw [List.map_map, List.map_map] at this
        have e1 : ∀ l : List Pth.Bs, l.map ((fun x : ByteArray => x.data.toList) ∘ bs) = l := fun l => List.map_id l
        rwa [e1, e1] at this
      · rintro rfl; rfl

def gx1 : Deed := ⟨1, [100], [], 0, ⟨53, 0, 0, 0, 0, 0, [], [], 0, 0⟩⟩
def gx2 : Deed := ⟨1, [100, 47, 102], [], 0, ⟨48, 0, 0, 0, 0, 0, [120], [], 0, 0⟩⟩
def gx3 : Deed := ⟨2, [100, 47, 102], [103], 0, ⟨0, 0, 0, 0, 0, 0, [], [], 0, 0⟩⟩
def gt1 : T := (act none_ gx1).1
def gt2 : T := (act gt1 gx2).1
def gt3 : T := (act gt2 gx3).1
set_option maxRecDepth 100000 in
theorem gr1 : (act none_ gx1).2 = 0 := by decide
set_option maxRecDepth 100000 in
theorem gr2 : (act gt1 gx2).2 = 0 := by decide
set_option maxRecDepth 100000 in
theorem gr3 : (act gt2 gx3).2 = 0 := by decide
set_option maxRecDepth 100000 in
theorem ge3 : gt3.ents = [([100], 1), ([100, 47, 102], 2), ([103], 2)] := by decide
set_option maxRecDepth 100000 in
theorem gf3 : gt3.file 2 = ⟨48, 0, 0, 0, 0, 0, [120], [], 0, 0⟩ := by decide
theorem gs1 : Std gt1 := Std.none_.act _
theorem gs2 : Std gt2 := gs1.act _
theorem gs3 : Std gt3 := gs2.act _
theorem gn1 : gt1.nx ≤ 3 := Nat.le_trans (act_nx _ _).1 (by simp [none_])
theorem gn2 : gt2.nx ≤ 3 := Nat.le_trans (act_nx _ _).1 (by have : gt1.nx ≤ 1 := Nat.le_trans (act_nx _ _).1 (by simp [none_]); omega)
set_option maxRecDepth 100000 in
theorem gnames : gt3.names = [[100], [100, 47, 102], [103]] := by
  refine (eq_names gs3 ?_ ?_).symm
  · rw [ge3]; exact List.Perm.refl _
  · decide
set_option maxRecDepth 100000 in
theorem glinks : gt3.links [103] = 2 := by unfold T.links T.alike; rw [ge3]; decide
set_option maxRecDepth 100000 in
theorem galike : gt3.alike [103] [100, 47, 102] = true := by unfold T.alike; rw [ge3]; decide
theorem gget : getV gt3 [103] = .tuple #[.agg #[.int .u8 48, .int .i64 0, .int .i64 0, .int .i64 0, .int .i64 0, .int .i64 0, .string ⟨#[120]⟩, .string ⟨#[]⟩, .int .i64 0, .int .i64 0], .nilIface] := by
  have e : Tre.look gt3.ents [103] = some 2 := by rw [ge3]; decide
  unfold getV
  rw [e]
  simp only [gf3]
  rfl

set_option maxRecDepth 100000 in
set_option maxHeartbeats 4000000 in
theorem grown_any (w : World) (hm : ML w) : Calls Tryz.prog 46 #[] w fun e w' => e = .returned (.bool true) ∧ Below w.heap.size w w' := by
  have HM := Lib.hid hm
  have T0 := Lib.hid (empty_tree w)
  have B0 := Lib.hid ((Below.refl w.heap.size w).alloc (Nat.le_refl _) (.cells #[.map none, .map none, .int .i64 0] 71))
  have D1 := Lib.hid (do_tree T0.out Std.none_ (by simp [none_]) (hm.below B0.out) gx1 (by decide) (by decide) (by decide) (by decide) (by decide))
  rw [gr1] at D1
  have e0 : errV 0 = .nilIface := rfl
  rw [e0] at D1
  unfold dv dvc gx1 at D1
  simp only at D1
  clear hm
  go_enter Tryz.func46, Tryz.ntmps46
  go_wp2_with fail
  refine D1.out.mono ?_
  rintro e w1 ⟨rfl, on1, of1, k1, k2, k3⟩
  have K1 : Hid (TreeAt w1 w.heap.size on1 of1 gt1) := Lib.hid k1
  have O1 := Lib.hid (show ∀ b ∈ own w.heap.size on1 of1, w.heap.size ≤ b from fun b hb => by
    rcases k2 b hb with h | h
    · simp [own] at h; omega
    · simp at h; omega)
  have B1 := Lib.hid (B0.out.trans (k3.down (B := w.heap.size) (fun b hb => by simp [own] at hb; omega) (by simp)))
  clear k1 k2 k3
  have D2 := Lib.hid (do_tree K1.out gs1 (by have := gn1; omega) (HM.out.below B1.out) gx2 (by decide) (by decide) (by decide) (by decide) (by decide))
  rw [gr2, e0] at D2
  unfold dv dvc gx2 at D2
  simp only at D2
  go_wp2_with fail
  refine D2.out.mono ?_
  rintro e w2 ⟨rfl, on2, of2, k1, k2, k3⟩
  have K2 : Hid (TreeAt w2 w.heap.size on2 of2 gt2) := Lib.hid k1
  have O2 := Lib.hid (show ∀ b ∈ own w.heap.size on2 of2, w.heap.size ≤ b from fun b hb => by
    rcases k2 b hb with h | h
    · exact O1.out b h
    · exact Nat.le_trans B1.out.size h)
  have B2 := Lib.hid (B1.out.trans (k3.down O1.out B1.out.size))
  clear k1 k2 k3
  have D3 := Lib.hid (do_tree K2.out gs2 (by have := gn2; omega) (HM.out.below B2.out) gx3 (by decide) (by decide) (by decide) (by decide) (by decide))
  rw [gr3, e0] at D3
  unfold dv dvc gx3 at D3
  simp only at D3
  go_wp2_with fail
  refine D3.out.mono ?_
  rintro e w3 ⟨rfl, on3, of3, k1, k2, k3⟩
  have K3 : Hid (TreeAt w3 w.heap.size on3 of3 gt3) := Lib.hid k1
  have B3 := Lib.hid (B2.out.trans (k3.down O2.out B2.out.size))
  clear k1 k2 k3 D1 D2 D3 K1 K2
  have GG := Lib.hid (get_any K3.out ⟨#[103]⟩ (fun k hk => by have := (gs3.short hk).2; have : gt3.nx ≤ 4 := Nat.le_trans (act_nx _ _).1 (by have := gn2; omega); omega) (by decide))
  have e1 : getV gt3 (⟨#[103]⟩ : ByteArray).data.toList = getV gt3 [103] := rfl
  rw [e1, gget] at GG
  clear e1
  go_wp2_with fail
  refine GG.out.mono ?_
  rintro e w4 ⟨rfl, h4⟩
  have T4 := K3.out.below h4
  have LL := Lib.hid (fun w' (hb : Below w4.heap.size w4 w') => links_any (T4.below hb) gs3 ⟨#[103]⟩ (by decide))
  have AA := Lib.hid (fun w' (hb : Below w4.heap.size w4 w') => alike_any (T4.below hb) ⟨#[103]⟩ ⟨#[100, 47, 102]⟩ (by decide) (by decide))
  have B4 := Lib.hid (thenB B3.out h4)
  have NN := Lib.hid (fun w' (hb : Below w4.heap.size w4 w') => names_any (T4.below hb) gs3 ((HM.out.below B4.out).below hb))
  rw [gnames] at NN
  have LL2 : Hid (∀ w', Below w4.heap.size w4 w' → Calls Tryz.prog 91 #[.pointer (some ⟨w.heap.size, 0, none⟩), .string ⟨#[103]⟩] w' fun e w'' => e = .returned (.int .i64 2) ∧ Below w'.heap.size w' w'') := Lib.hid (fun w' hb => by
    have := LL.out w' hb
    rw [show T.links gt3 (⟨#[103]⟩ : ByteArray).data.toList = 2 from glinks] at this
    exact this)
  have AA2 : Hid (∀ w', Below w4.heap.size w4 w' → Calls Tryz.prog 32 #[.pointer (some ⟨w.heap.size, 0, none⟩), .string ⟨#[103]⟩, .string ⟨#[100, 47, 102]⟩] w' fun e w'' => e = .returned (.bool true) ∧ w'' = w') := Lib.hid (fun w' hb => by
    have := AA.out w' hb
    rw [show T.alike gt3 (⟨#[103]⟩ : ByteArray).data.toList (⟨#[100, 47, 102]⟩ : ByteArray).data.toList = true from galike] at this
    exact this)
  clear h4 T4 LL AA GG
  go_wp2_with fail
  refine (LL2.out _ ((Below.refl _ _).alloc (Nat.le_refl _) _)).mono ?_
  rintro e w5 ⟨rfl, h5⟩
  have B5 := Lib.hid (thenB ((Below.refl w4.heap.size w4).alloc (Nat.le_refl _) _) h5)
  clear h5
  go_wp2_with fail
  refine (AA2.out _ B5.out).mono ?_
  rintro e w' ⟨rfl, hw⟩
  subst w'
  go_wp2_with fail
  refine (NN.out _ B5.out).mono ?_
  rintro e w6 ⟨v, rfl, hv, h6⟩
  have B6 := Lib.hid (thenB B5.out h6)
  have hs1 : HasS w6 w5.heap.size v [[100], [100, 47, 102], [103]] := hv.has
  have HV := Lib.hid hs1
  clear hv hs1 h6
  have hrow : RowS (w6.alloc (.cells #[.string ⟨#[100]⟩, .string ⟨#[100, 47, 102]⟩, .string ⟨#[103]⟩] 9)) w6.heap.size 0 [[100], [100, 47, 102], [103]] := fun j hj => by
    have hnb := Blk.new w6 9 #[.string ⟨#[100]⟩, .string ⟨#[100, 47, 102]⟩, .string ⟨#[103]⟩]
    rw [Nat.zero_add, hnb.cell]
    match j, hj with
    | 0, _ => rfl
    | 1, _ => rfl
    | 2, _ => rfl
  have EQ := Lib.hid (eq_any (HV.out.below ((Below.refl _ _).alloc (Nat.le_refl _) (.cells #[.string ⟨#[100]⟩, .string ⟨#[100, 47, 102]⟩, .string ⟨#[103]⟩] 9))) (HasS.row (B := 0) (cap := 3) (Nat.zero_le _) (by simp) (by simp) hrow) (by simp) (by simp))
  clear hrow
  go_wp2_with fail
  refine EQ.out.mono ?_
  rintro e w7 ⟨rfl, h7⟩
  have B7 := Lib.hid (thenB (B6.out.alloc B6.out.size _) h7)
  clear h7
  go_wp2_with fail
  go_ret
  exact ⟨rfl, B4.out.trans (B7.out.mono B4.out.size)⟩

end Go.Proofs.YtipajekehbpghaaGreatDoor

namespace Go.Proofs.YtipajekehbpghaaGreatDoor
open Go.RowKit

def pickN (a n : Int) : Int := (a % 18446744073709551616) % n
theorem pickN_lo (a n : Int) (h : 0 < n) : 0 ≤ pickN a n := Int.emod_nonneg _ (by omega)
theorem pickN_hi (a n : Int) (h : 0 < n) : pickN a n < n := Int.emod_lt_of_pos _ h

theorem pick_any (a n : Int) (w : World) (h1 : 0 < n) (h2 : n < 9223372036854775808) :
    Calls Tryz.prog 27 #[.int .i64 a, .int .i64 n] w fun e w' => e = .returned (.int .i64 (pickN a n)) ∧ w' = w := by
  go_enter Tryz.func27, Tryz.ntmps27
  go_wp2
  go_ret
  refine ⟨congrArg (fun x => Ending.returned (Value.int .i64 x)) ?_, rfl⟩
  rw [IntKind.wrap_u64]
  have e : (a % 18446744073709551616).tmod n = pickN a n := Int.tmod_eq_emod_of_nonneg (by omega)
  rw [e]
  have := pickN_lo a n h1
  have := pickN_hi a n h1
  exact IntWalk.wrap64_in _ (by omega)

end Go.Proofs.YtipajekehbpghaaGreatDoor

namespace Go.Proofs.YtipajekehbpghaaGreatDoor
open Go
variable {H : Type} {enc : TypeId × Value → H}

theorem and_shaped {a : Assume} {C : Checked} {os : Os} {f : FuncId} {fn : Func} {s : ChangeSpec} {conds : List PathCond} {apart fresh handsOn again : Bool} {X : World → Array Value → Prop}
    (hX : ∀ (w w' : World) (args : Array Value), w.heap = w'.heap → X w args → X w' args)
    (own : ownKnob C.prog.godebug = none) (started : os.Started) (noInit : C.prog.inits.idxOf? f = none) (hfn : C.prog.funcs[f]? = some fn)
    (witness : ∃ (w : World) (tape : Tape) (i : Input), w.os = os ∧ (w.forCall tape i).Shaped C.prog ∧ i.vars = [] ∧ Input.okWide C.prog (w.forCall tape i) .any w.heap.size f i ∧
      ((s.pre enc C.prog fn conds apart (w.forCall tape i).memory i.args ∧ X (w.forCall tape i).memory i.args) ∧ sizedMet enc C.prog fn (OpenSpec.ofChange s) apart (w.forCall tape i).memory i.args) ∧ a.holds C.prog (lone (Frame.enter C.prog f i.args .normal) [] (w.forCall tape i)))
    (contract : ∀ (W : World) (base : Nat) (args : Array Value) (ds gs : List (DataW H)) (before : List MemPlace),
      (∀ (j : Nat) t v, fn.params[j]? = some t → args[j]? = some v → Value.okWide C.prog W .any base t v) →
      DataW.Whole enc C.prog fn.params.toList s.vars apart W args.toList ds gs before →
      conds.all (PathCond.test C.prog ⟨fn.params.toList, ds, s.plain.varTypes C.prog, gs⟩) = true →
      (DataW.weightsEach C.prog (fn.params.toList ++ s.plain.varTypes C.prog) (ds ++ gs)).all (· ≤ reachBytes) = true → X W args → W.ShapedOpen C.prog →
      a.holds C.prog (lone (Frame.enter C.prog f args .normal) [] W) →
      Calls C.prog f args W fun e W' => ∃ v, e = .returned v ∧ s.post enc C.prog fn apart fresh handsOn again W args v W') :
    ReturnsInHanded a C os f .any (fun w args => (s.pre enc C.prog fn conds apart w args ∧ X w args) ∧ sizedMet enc C.prog fn (OpenSpec.ofChange s) apart w args) (s.post enc C.prog fn apart fresh handsOn again) := by
  refine returnsInHanded_of_calls own started noInit witness ?_
  intro w tape i _ hsh _ hok hpre hholds
  obtain ⟨_, _, _, fn', hfn', _, _, _, _, hval⟩ := hok
  obtain rfl : fn' = fn := Option.some.inj (hfn'.symm.trans hfn)
  obtain ⟨⟨⟨ds, gs, before, hw, hc⟩, hx⟩, hz⟩ := hpre
  have hw2 := DataW.Whole.of_heap (w' := w.forCall tape i) (by rfl) hw
  refine (contract (w.forCall tape i) w.heap.size i.args ds gs before hval hw2 hc (hz.weights hw) (hX _ _ _ (by rfl) hx) hsh hholds).mono fun e W' ⟨v, he, hp⟩ => ?_
  subst he
  exact ChangeSpec.post_blind hp

end Go.Proofs.YtipajekehbpghaaGreatDoor

namespace Go.Proofs.YtipajekehbpghaaGreatDoor
open Go.RowKit Go.Maps Tre

def nodeB (a b : Nd) : Bool := (((a.kind : Int) == b.kind) && (a.mode == b.mode) && (a.uid == b.uid) && (a.gid == b.gid) && ((a.sec == b.sec) && (a.nano == b.nano)) && (a.data == b.data) && (a.link == b.link) && (a.major == b.major) && (a.minor == b.minor))
theorem nodeB_iff (a b : Nd) : nodeB a b = true ↔ a = b := by
  obtain ⟨a0, a1, a2, a3, a4, a5, a6, a7, a8, a9⟩ := a
  obtain ⟨b0, b1, b2, b3, b4, b5, b6, b7, b8, b9⟩ := b
  unfold nodeB
  simp only [Bool.and_eq_true, beq_iff_eq, Nd.mk.injEq]
  constructor
  · rintro ⟨⟨⟨⟨⟨⟨⟨⟨h0, h1⟩, h2⟩, h3⟩, h4, h5⟩, h6⟩, h7⟩, h8⟩, h9⟩
    exact ⟨by omega, h1, h2, h3, h4, h5, h6, h7, h8, h9⟩
  · rintro ⟨h0, h1, h2, h3, h4, h5, h6, h7, h8, h9⟩
    exact ⟨⟨⟨⟨⟨⟨⟨⟨by omega, h1⟩, h2⟩, h3⟩, h4, h5⟩, h6⟩, h7⟩, h8⟩, h9⟩
theorem node_eql (w : World) (a b : Nd) : (binOp .eql 33 (ndv a) (ndv b)).run Tryz.prog w = .ok (.bool (nodeB a b)) w := by
  obtain ⟨a0, a1, a2, a3, a4, a5, a6, a7, a8, a9⟩ := a
  obtain ⟨b0, b1, b2, b3, b4, b5, b6, b7, b8, b9⟩ := b
  have h1 := Tryz.underlying3
  have h2 := Tryz.underlying9
  have h3 := Tryz.underlying5
  have h4 : Tryz.prog.underlying 31 = some (.struct (Tryz.prog.fieldsOf 31)) := by kernel_rfl
  have h5 : Tryz.prog.stoodInHeld 31 = false := by kernel_rfl
  unfold ndv ndc nodeB
  rw [run_eql_struct, run_equalIn_agg w 9999 33 _ _ (by kernel_rfl) (by kernel_rfl)]
  simp [go_sem, h1, h2, h3, h5]
  have s : ∀ l : List UInt8, (bs l).toList = l := fun l => Lib.toList_data _
  rw [s, s, s, s]
  clear h1 h2 h3 h4 h5 s
  by_cases e0 : (a0 : Int) = (b0 : Int)
  case neg => rw [if_neg e0]; simp [e0]
  rw [if_pos e0]
  by_cases e1 : a1 = b1
  case neg => rw [if_neg e1]; simp [e1]
  rw [if_pos e1]
  by_cases e2 : a2 = b2
  case neg => rw [if_neg e2]; simp [e2]
  rw [if_pos e2]
  by_cases e3 : a3 = b3
  case neg => rw [if_neg e3]; simp [e3]
  rw [if_pos e3]
  by_cases e4 : a4 = b4
  case neg => rw [if_neg e4]; simp [e4]
  rw [if_pos e4]
  by_cases e5 : a5 = b5
  case neg => rw [if_neg e5]; simp [e5]
  rw [if_pos e5]
  by_cases e6 : a6 = b6
  case neg => rw [if_neg e6]; simp [e6]
  rw [if_pos e6]
  by_cases e7 : a7 = b7
  case neg => rw [if_neg e7]; simp [e7]
  rw [if_pos e7]
  by_cases e8 : a8 = b8
  case neg => rw [if_neg e8]; simp [e8]
  rw [if_pos e8]
  by_cases e9 : a9 = b9
  case neg => rw [if_neg e9]; simp [e9]
  rw [if_pos e9]
  rw [e0, e1, e2, e3, e4, e5, e6, e7, e8, e9]; simp

end Go.Proofs.YtipajekehbpghaaGreatDoor

namespace Go.Proofs.YtipajekehbpghaaGreatDoor
open Go.RowKit Go.Maps Tre

theorem Kept.blk {O : List Nat} {w w' : World} {g : Nat} {t : TypeId} {cs : Array Value} (h : Blk w g t cs) (k : Kept O w w') (hg : g ∉ O) : Blk w' g t cs := (k.block g h.lt hg).trans h
theorem Kept.row {O : List Nat} {w w' : World} {b off : Nat} {L : List Pth.Bs} (h : RowS w b off L) (k : Kept O w w') (hb : b < w.heap.size) (hg : b ∉ O) : RowS w' b off L :=
  fun j hj => (World.cell?_of_block (w := w) (a := ⟨b, off + j, none⟩) (k.block b hb hg)).trans (h j hj)
theorem getV_of {t : T} {s : Pth.Bs} {k : Nat} (h : Tre.look t.ents s = some k) : getV t s = .tuple #[ndv (t.file k), .nilIface] := by unfold getV; rw [h]
theorem getV_none {t : T} {s : Pth.Bs} (h : Tre.look t.ents s = none) : getV t s = .tuple #[ndv zero, .iface 89 (.int .i64 7)] := by unfold getV; rw [h]
theorem node_same (a : Nd) (w : World) : (binOp .eql 33 (ndv a) (ndv a)).run Tryz.prog w = .ok (.bool true) w := by rw [node_eql, (nodeB_iff a a).2 rfl]

end Go.Proofs.YtipajekehbpghaaGreatDoor
