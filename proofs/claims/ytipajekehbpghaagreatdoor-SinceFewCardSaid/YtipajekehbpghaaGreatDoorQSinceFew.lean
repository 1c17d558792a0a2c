/-
  SinceFew, plain: a list picked out of another one, found step by step.
-/
import Derived.Test.YtipajekehbpghaaGreatDoorZo
import Derived.Test.YtipajekehbpghaaGreatDoorZw
import Derived.Test.YtipajekehbpghaaGreatDoorZyb
import Derived.Test.YtipajekehbpghaaGreatDoorZx
import Derived.Test.YtipajekehbpghaaGreatDoorZm
import Derived.StillTailTactics
import Derived.Deep.QuietTactic
import Derived.BigQuiet
import Derived.Test.YtipajekehbpghaaGreatDoorZf
import Derived.Test.YtipajekehbpghaaGreatDoorCards
import Derived.Test.YtipajekehbpghaaGreatDoorTie
import Derived.ProofKit
import Derived.OpenShut
import Derived.ShutString
import Derived.ChangeOld
import Derived.Below
import Derived.SizedLaws
import Derived.Deep.DeepHandedRow
import Derived.Lib.LaidTab
import Derived.SevenTiedAt
import Derived.LaidMore
set_option linter.unusedVariables false
set_option linter.unusedSimpArgs false

namespace Pk
open Pth Tre

section
variable {L C : List Ent} {p : Ent → Bool} {i k : Nat}
theorem few_more (h : (L.drop k).filter p = C.drop i) (hi : i < C.length) : k < L.length := by
  rcases Nat.lt_or_ge k L.length with h1 | h1
  · exact h1
  · rw [List.drop_of_length_le h1] at h
    have := congrArg List.length h
    rw [List.length_drop] at this
    simp at this
    omega
theorem few_skip (h : (L.drop k).filter p = C.drop i) (hk : k < L.length) (hp : p L[k] = false) : (L.drop (k + 1)).filter p = C.drop i := by
  rw [List.drop_eq_getElem_cons hk, List.filter_cons, hp] at h
  exact h
theorem few_take (h : (L.drop k).filter p = C.drop i) (hk : k < L.length) (hi : i < C.length) (hp : p L[k] = true) : L[k] = C[i] ∧ (L.drop (k + 1)).filter p = C.drop (i + 1) := by
  rw [List.drop_eq_getElem_cons hk, List.filter_cons, if_pos hp, List.drop_eq_getElem_cons hi] at h
  injection h with h1 h2
  exact ⟨h1, h2⟩
theorem few_differ (hL : L.Pairwise fun a b => a.name ≠ b.name) (h : (L.drop k).filter p = C.drop i) (hk : k < L.length) (hi : i < C.length) (hp : p L[k] = false) : L[k].name ≠ C[i].name := by
  have h2 := few_skip h hk hp
  have hin : C[i] ∈ (L.drop (k + 1)).filter p := by rw [h2, List.drop_eq_getElem_cons hi]; exact List.mem_cons_self
  have hin2 := (List.mem_filter.1 hin).1
  have hd : (L.drop k).Pairwise fun a b => a.name ≠ b.name := hL.sublist (List.drop_sublist _ _)
  rw [List.drop_eq_getElem_cons hk, List.pairwise_cons] at hd
  exact hd.1 _ hin2
end
theorem name_at {t : T} (ht : Std t) (holes : Bool) (i : Nat) (h : i < t.names.length) : ((list t holes)[i]'(by rw [list_len]; exact h)).name = t.names[i] := by
  rw [list_get t holes i h]
  obtain ⟨k, _, hn, _⟩ := memb_ok ht holes (List.getElem_mem h) fun x hx => List.mem_of_mem_take (i := i) hx
  exact hn
theorem list_apart {t : T} (ht : Std t) (holes : Bool) : (list t holes).Pairwise fun a b => a.name ≠ b.name := by
  rw [List.pairwise_iff_getElem]
  intro i j hi hj hij
  have hi2 : i < t.names.length := by rw [list_len] at hi; exact hi
  have hj2 : j < t.names.length := by rw [list_len] at hj; exact hj
  rw [name_at ht holes i hi2, name_at ht holes j hj2]
  have h := names_nodup ht.nd
  rw [List.nodup_iff_pairwise_ne, List.pairwise_iff_getElem] at h
  exact h i j hi2 hj2 hij
theorem changed_drop (old now : T) (holes : Bool) : ((list now holes).drop 0).filter (fun e => !(held old now e)) = (changed_ old now holes).drop 0 := rfl
theorem gone_down {t u : T} (ht : Std t) {i : Nat} (hi : i + 1 < (gone t u).length) : cmp (parts (gone t u)[i + 1]) (parts ((gone t u)[i]'(by omega))) < 0 := by
  have h := gone_strict (u := u) ht
  rw [List.pairwise_iff_getElem] at h
  exact h i (i + 1) (by omega) hi (by omega)

end Pk

namespace Go.Proofs.YtipajekehbpghaaGreatDoor
open Go.RowKit Go.Maps Tre Pk

set_option maxRecDepth 100000 in
set_option maxHeartbeats 8000000 in
theorem sameN_any (e f : Ent) (m1 m2 : Value) (w : World) (hne : e.name ≠ f.name) :
    Calls Tryz.prog 36 #[ev e m1, ev f m2] w fun r w' => r = .returned (.bool false) ∧ Below w.heap.size w w' := by
  obtain ⟨W, hW⟩ : ∃ W, W = (w.alloc (.cells #[.string (bs e.name), .int .u8 e.kind, .int .i64 e.mode, .int .i64 e.uid, .int .i64 e.gid, .int .i64 e.size, .int .i64 e.sec, .int .i64 e.nano, .string (bs e.link), .string (bs e.user), .string (bs e.group), .int .i64 e.major, .int .i64 e.minor, .string (bs e.data), m1] 40)).alloc (.cells #[.string (bs f.name), .int .u8 f.kind, .int .i64 f.mode, .int .i64 f.uid, .int .i64 f.gid, .int .i64 f.size, .int .i64 f.sec, .int .i64 f.nano, .string (bs f.link), .string (bs f.user), .string (bs f.group), .int .i64 f.major, .int .i64 f.minor, .string (bs f.data), m2] 40) := ⟨_, rfl⟩
  have HB0 := Lib.hid (show Below w.heap.size w W by rw [hW]; exact ((Below.refl _ _).alloc (Nat.le_refl _) _).alloc (by simp) _)
  have K1 := Lib.hid (show Blk W w.heap.size 40 #[.string (bs e.name), .int .u8 e.kind, .int .i64 e.mode, .int .i64 e.uid, .int .i64 e.gid, .int .i64 e.size, .int .i64 e.sec, .int .i64 e.nano, .string (bs e.link), .string (bs e.user), .string (bs e.group), .int .i64 e.major, .int .i64 e.minor, .string (bs e.data), m1] by rw [hW]; exact (Blk.new w 40 _).alloc _)
  have K2 := Lib.hid (show Blk W (w.heap.size + 1) 40 #[.string (bs f.name), .int .u8 f.kind, .int .i64 f.mode, .int .i64 f.uid, .int .i64 f.gid, .int .i64 f.size, .int .i64 f.sec, .int .i64 f.nano, .string (bs f.link), .string (bs f.user), .string (bs f.group), .int .i64 f.major, .int .i64 f.minor, .string (bs f.data), m2] by
    have := Blk.new (w.alloc (.cells #[.string (bs e.name), .int .u8 e.kind, .int .i64 e.mode, .int .i64 e.uid, .int .i64 e.gid, .int .i64 e.size, .int .i64 e.sec, .int .i64 e.nano, .string (bs e.link), .string (bs e.user), .string (bs e.group), .int .i64 e.major, .int .i64 e.minor, .string (bs e.data), m1] 40)) 40 #[.string (bs f.name), .int .u8 f.kind, .int .i64 f.mode, .int .i64 f.uid, .int .i64 f.gid, .int .i64 f.size, .int .i64 f.sec, .int .i64 f.nano, .string (bs f.link), .string (bs f.user), .string (bs f.group), .int .i64 f.major, .int .i64 f.minor, .string (bs f.data), m2]
    rw [show (w.alloc (.cells #[.string (bs e.name), .int .u8 e.kind, .int .i64 e.mode, .int .i64 e.uid, .int .i64 e.gid, .int .i64 e.size, .int .i64 e.sec, .int .i64 e.nano, .string (bs e.link), .string (bs e.user), .string (bs e.group), .int .i64 e.major, .int .i64 e.minor, .string (bs e.data), m1] 40)).heap.size = w.heap.size + 1 by simp] at this
    rw [hW]; exact this)
  have HW := Lib.hid hW
  have l1 := K1.out.lt
  have l2 := K2.out.lt
  have c0 : W.cell? ⟨w.heap.size, 0, none⟩ = some (.string (bs e.name)) := K1.out.cell 0
  have d0 : W.cell? ⟨w.heap.size + 1, 0, none⟩ = some (.string (bs f.name)) := K2.out.cell 0
  have hs : ((bs e.name).toList == (bs f.name).toList) = false := by
    rw [beq_eq_false_iff_ne]
    intro h
    have h2 : ∀ l : List UInt8, (bs l).toList = l := fun l => Lib.toList_data _
    rw [h2, h2] at h
    exact hne h
  unfold ev evc
  clear hW hne
  go_enter Tryz.func36, Tryz.ntmps36
  go_wp2_with fail
  go_ret
  exact ⟨rfl, by rw [← HW.out]; exact HB0.out⟩

end Go.Proofs.YtipajekehbpghaaGreatDoor

namespace Go.Proofs.YtipajekehbpghaaGreatDoor
open Go.RowKit Go.Maps Tre Pk

theorem mapLen6 {ps : List (Ent × Value)} {l : List Ent} (h : ps.map Prod.fst = l) : ps.length = l.length := by rw [← h, List.length_map]
section
variable {ps qs : List (Ent × Value)} {p : Ent → Bool} {i k : Nat}
theorem fewP_more (h : ((qs.map Prod.fst).drop k).filter p = (ps.map Prod.fst).drop i) (hi : i < ps.length) : k < qs.length := by
  have := few_more h (by rw [List.length_map]; exact hi)
  rwa [List.length_map] at this
theorem fewP_skip (h : ((qs.map Prod.fst).drop k).filter p = (ps.map Prod.fst).drop i) (hk : k < qs.length) (hp : p qs[k].1 = false) : ((qs.map Prod.fst).drop (k + 1)).filter p = (ps.map Prod.fst).drop i :=
  few_skip h (by rw [List.length_map]; exact hk) (by rw [List.getElem_map]; exact hp)
theorem fewP_take (h : ((qs.map Prod.fst).drop k).filter p = (ps.map Prod.fst).drop i) (hk : k < qs.length) (hi : i < ps.length) (hp : p qs[k].1 = true) : qs[k].1 = ps[i].1 ∧ ((qs.map Prod.fst).drop (k + 1)).filter p = (ps.map Prod.fst).drop (i + 1) := by
  have := few_take h (by rw [List.length_map]; exact hk) (by rw [List.length_map]; exact hi) (by rw [List.getElem_map]; exact hp)
  rwa [List.getElem_map, List.getElem_map] at this
theorem fewP_differ (hL : (qs.map Prod.fst).Pairwise fun a b => a.name ≠ b.name) (h : ((qs.map Prod.fst).drop k).filter p = (ps.map Prod.fst).drop i) (hk : k < qs.length) (hi : i < ps.length) (hp : p qs[k].1 = false) : qs[k].1.name ≠ ps[i].1.name := by
  have := few_differ hL h (by rw [List.length_map]; exact hk) (by rw [List.length_map]; exact hi) (by rw [List.getElem_map]; exact hp)
  rwa [List.getElem_map, List.getElem_map] at this
end
theorem gone_downQ {t u : T} (ht : Std t) {i : Nat} {a b : Pth.Bs} (ha : (gone t u)[i + 1]? = some a) (hb : (gone t u)[i]? = some b) : Pth.cmp (Pth.parts a) (Pth.parts b) < 0 := by
  obtain ⟨h1, rfl⟩ := List.getElem?_eq_some_iff.1 ha
  obtain ⟨h2, rfl⟩ := List.getElem?_eq_some_iff.1 hb
  exact gone_down ht h1
/-- slices.Contains at texts. -/
theorem hasIn_any {W : World} {B : Nat} {v : Value} {ps : List Pth.Bs} (h : HasS W B v ps) (hl : ps.length ≤ 1000000) {x : Pth.Bs} (hx : x ∈ ps) :
    Calls Tryz.prog 38 #[v, .string (bs x)] W fun e w' => e = .returned (.bool true) ∧ w' = W := by
  rcases h.ways with ⟨A, cap, rfl, rfl⟩ | ⟨b, off, cap, rfl, _, _, hb, h0, hr⟩
  · cases hx
  · have hs := Tryz.slices_Contains_string b off ps.length cap (ps.map bs) (bs x) W (by simp) (by omega) (fun j hj => by
      have hj' : j < ps.length := by simpa using hj
      rw [List.getD_eq_getElem?_getD, List.getElem?_eq_getElem hj]; simpa using hr j hj')
    refine hs.mono fun e w' ⟨he, hw⟩ => ⟨?_, hw⟩
    rw [he]
    congr 2
    rw [List.take_of_length_le (by simp), Lib.containsS_iff, List.mem_map]
    exact ⟨x, hx, rfl⟩

set_option maxRecDepth 100000 in
set_option maxHeartbeats 8000000 in
theorem sinceFew_main (va vb : Value) (n : Int) (la lb : List Deed) (w : World) (hA : DeedsIn w va la) (hB : DeedsIn w vb lb) (hm : ML w) :
    Calls Tryz.prog 6 #[va, vb, .int .i64 n] w fun e w' => e = .returned (.bool true) ∧ Below w.heap.size w w' := by
  have CF := Lib.hid (changedF_any w hm)
  have PK := Lib.hid (fun w' (hb : Below w.heap.size w w') => packed_any w' (hm.below hb))
  have PA := Lib.hid (fun w' (hb : Below w.heap.size w w') => planted_any (hA.below hb) (hm.below hb))
  have PB := Lib.hid (fun w' (hb : Below w.heap.size w w') => planted_any (hB.below hb) (hm.below hb))
  have HM := Lib.hid hm
  obtain ⟨X, cap, rfl, _⟩ := id hA
  obtain ⟨X2, cap2, rfl, _⟩ := id hB
  clear hA hB hm
  go_enter Tryz.func6, Tryz.ntmps6
  go_wp2_with fail
  refine CF.out.mono ?_
  rintro e w0 ⟨rfl, h0⟩
  have B0 := Lib.hid h0
  clear h0
  go_wp2_with fail
  refine (PK.out _ B0.out).mono ?_
  rintro e w1 ⟨rfl, h1⟩
  have B1 := Lib.hid (thenB B0.out h1)
  clear h1
  go_wp2_with fail
  refine (PA.out _ B1.out).mono ?_
  rintro e w2 ⟨h2, ⟨ha, rfl⟩ | ⟨ha, g, on, of, rfl, hT, _⟩⟩
  · have B2 := Lib.hid (thenB B1.out h2)
    clear h2
    go_wp2_with fail
    refine (PB.out _ B2.out).mono ?_
    rintro e w3 ⟨h3, ⟨hb, rfl⟩ | ⟨hb, g2, on2, of2, rfl, _, _⟩⟩
    · have B3 := Lib.hid (thenB B2.out h3)
      clear h3
      go_wp2_with fail
      go_ret
      exact ⟨rfl, B3.out⟩
    · have B3 := Lib.hid (thenB B2.out h3)
      clear h3
      go_wp2_with fail
      go_ret
      exact ⟨rfl, B3.out⟩
  have B2 := Lib.hid (thenB B1.out h2)
  have HT2 := Lib.hid hT
  clear h2 hT
  go_wp2_with fail
  refine (PB.out _ B2.out).mono ?_
  rintro e w3 ⟨h3, ⟨hb, rfl⟩ | ⟨hb, g2, on2, of2, rfl, hU, _⟩⟩
  · have B3 := Lib.hid (thenB B2.out h3)
    clear h3
    go_wp2_with fail
    go_ret
    exact ⟨rfl, B3.out⟩
  have B3 := Lib.hid (thenB B2.out h3)
  have T3 := Lib.hid (HT2.out.below h3)
  have U3 := Lib.hid hU
  have hla := bigL_len ha
  have hlb := bigL_len hb
  have hxa := plant_nx la
  have hxb := plant_nx lb
  have HS := Lib.hid (plant_std la)
  have HS2 := Lib.hid (plant_std lb)
  obtain ⟨t, ht⟩ : ∃ t, t = plant la := ⟨_, rfl⟩
  obtain ⟨u, hu⟩ : ∃ u, u = plant lb := ⟨_, rfl⟩
  rw [← ht] at T3 HS hxa
  rw [← hu] at U3 HS2 hxb
  have hnx : t.nx ≤ 60 := by omega
  have hny : u.nx ≤ 60 := by omega
  clear h3 hU ha hb ht hu PA PB hxa hxb PK CF HT2
  have LR := Lib.hid (list_right HS2.out false)
  have hlu := list_len u false
  have hun : u.names.length ≤ 60 := by rw [names_len]; exact HS2.out.cn
  have htn : t.names.length ≤ 60 := by rw [names_len]; exact HS.out.cn
  have hgl : (gone t u).length ≤ 60 := by
    unfold gone
    rw [List.length_reverse]
    exact Nat.le_trans (List.length_filter_le _ _) htn
  have LA := Lib.hid (list_apart HS2.out false)
  have GM := Lib.hid (fun s (h : s ∈ gone t u) => gone_mem h)
  have GD := Lib.hid (fun i a b (ha : (gone t u)[i + 1]? = some a) (hb : (gone t u)[i]? = some b) => gone_downQ (t := t) (u := u) HS.out ha hb)
  have GL := Lib.hid (fun s (h : s ∈ gone t u) => (show s.length ≤ 1000 from by obtain ⟨_, _, hr, _⟩ := HS.out.name (gone_mem h); have := (right_len hr).1; omega))
  have CH := Lib.hid (changed_any (HM.out.below B3.out) T3.out U3.out HS.out HS2.out (by omega) (by omega) false (fun e he => by have := (right_ent (LR.out e he)).1; omega))
  have LI := Lib.hid (fun w' (hb : Below w3.heap.size w3 w') => list_any (U3.out.below hb) HS2.out (by omega) ((HM.out.below B3.out).below hb) false)
  have NM := Lib.hid (fun w' (hb : Below w3.heap.size w3 w') => names_any (T3.out.below hb) HS.out ((HM.out.below B3.out).below hb))
  have GO := Lib.hid (fun w' (hb : Below w3.heap.size w3 w') => gone_any ((HM.out.below B3.out).below hb) (T3.out.below hb) (U3.out.below hb) HS.out HS2.out (by omega) (by omega))
  obtain ⟨p, hp⟩ : ∃ p : Ent → Bool, p = fun e => !(held t u e) := ⟨_, rfl⟩
  have hC : changed_ t u false = (list u false).filter p := by rw [hp]; rfl
  obtain ⟨L, hL⟩ : ∃ L, L = list u false := ⟨_, rfl⟩
  obtain ⟨C, hCC⟩ : ∃ C, C = changed_ t u false := ⟨_, rfl⟩
  obtain ⟨G, hG⟩ : ∃ G, G = gone t u := ⟨_, rfl⟩
  obtain ⟨N, hN⟩ : ∃ N, N = t.names := ⟨_, rfl⟩
  rw [← hL] at LR hlu LI LA hC
  rw [← hCC] at CH hC
  rw [← hG] at GM GD GL GO hgl
  rw [← hN] at GM NM htn
  have HC := Lib.hid hC
  clear hp hC hL hCC hG hN
  go_wp2_with fail
  refine CH.out.mono ?_
  rintro e w4 ⟨v4, ps, rfl, hps, hen, h4⟩
  have B4 := Lib.hid h4
  have E4 := Lib.hid hen.at_
  have HPS := Lib.hid hps
  obtain ⟨X4, c4, rfl, _⟩ := E4.out.row
  clear h4 hen hps CH
  go_wp2_with fail
  refine (LI.out _ B4.out).mono ?_
  rintro e w5 ⟨v5, qs, rfl, hqs, hen, h5⟩
  have B5 := Lib.hid (thenB B4.out h5)
  have E5 := Lib.hid (E4.out.below h5)
  have F5 := Lib.hid hen.at_
  have HQS := Lib.hid hqs
  have hql : qs.length ≤ 60 := by rw [mapLen6 hqs]; omega
  have H0 := Lib.hid (show ((qs.map Prod.fst).drop 0).filter p = (ps.map Prod.fst).drop 0 from by rw [List.drop_zero, List.drop_zero, hqs, HPS.out, HC.out])
  have hpl : ps.length ≤ 60 := by
    have := List.length_filter_le p L
    rw [← HC.out, ← mapLen6 HPS.out, ← mapLen6 hqs] at this
    omega
  have HLA := Lib.hid (show (qs.map Prod.fst).Pairwise (fun a b => a.name ≠ b.name) by rw [hqs]; exact LA.out)
  have HML := Lib.hid (fun (q : Ent × Value) (hq : q ∈ qs) => (show q.1.map.length ≤ 1000 from by
    have hin : q.1 ∈ L := by rw [← hqs]; exact List.mem_map_of_mem hq
    have := (filled_data (right_ent (LR.out _ hin)).2.2.2).2
    omega))
  obtain ⟨X5, c5, rfl, _, hr5⟩ := F5.out.row
  obtain ⟨_, _, hX, _, hr4⟩ := E5.out.row
  injection hX with hX _ _
  subst hX
  have R4 := Lib.hid hr4
  have R5 := Lib.hid hr5
  clear h5 hen hqs LI hr4 hr5
  go_wp2_with fail
  go_loopg [11, 40] (ps.length) (fun g kv iv wr => ∃ i k : Nat, kv = .int .i64 k ∧ iv = .int .i64 i ∧ i ≤ ps.length ∧ k ≤ qs.length ∧ g = ps.length - i ∧ Hid (Below w5.heap.size w5 wr) ∧ Hid (((qs.map Prod.fst).drop k).filter p = (ps.map Prod.fst).drop i))
  case atStart => exact ⟨0, 0, rfl, rfl, by omega, by omega, by omega, Lib.hid (Below.refl _ _), H0⟩
  case round =>
    obtain ⟨i, k, rfl, rfl, hi, hk, hg, HW, HF⟩ := hrel
    have HG := Lib.hid hg
    clear hg
    by_cases hil : i < ps.length
    · have hii : (i : Int) < ps.length := by omega
      rcases R4.out with h0 | ⟨b, off, rfl, hb, hrow⟩
      · rw [h0] at hil; cases hil
      have hc1 := (hrow.below HW.out hb) i hil
      have hp1 := (E5.out.below HW.out).pc ps[i] (List.getElem_mem hil)
      have lr1 : b < wr.heap.size := Nat.lt_of_lt_of_le hb HW.out.size
      have HTK := Lib.hid (fun k (hk : k < qs.length) (h : ((qs.map Prod.fst).drop k).filter p = (ps.map Prod.fst).drop i) (hp : p qs[k].1 = true) => fewP_take h hk hil hp)
      have HDI := Lib.hid (fun k (hk : k < qs.length) (h : ((qs.map Prod.fst).drop k).filter p = (ps.map Prod.fst).drop i) (hp : p qs[k].1 = false) => fewP_differ HLA.out h hk hil hp)
      have HMO := Lib.hid (fun k (h : ((qs.map Prod.fst).drop k).filter p = (ps.map Prod.fst).drop i) => fewP_more h hil)
      obtain ⟨e, m1, he⟩ : ∃ e m, ps[i] = (e, m) := ⟨_, _, rfl⟩
      rw [he] at hc1 hp1 HTK HDI
      simp only at hc1 hp1 HTK HDI
      obtain ⟨P1, q1, rfl, _⟩ := id hp1
      have EP := Lib.hid hp1
      have d0 : wr.cell? ⟨b, off + i * 15, none⟩ = some (.string (bs e.name)) := hc1 0 (by omega)
      have d1 : wr.cell? ⟨b, off + i * 15 + 1, none⟩ = some (.int .u8 e.kind) := hc1 1 (by omega)
      have d2 : wr.cell? ⟨b, off + i * 15 + 2, none⟩ = some (.int .i64 e.mode) := hc1 2 (by omega)
      have d3 : wr.cell? ⟨b, off + i * 15 + 3, none⟩ = some (.int .i64 e.uid) := hc1 3 (by omega)
      have d4 : wr.cell? ⟨b, off + i * 15 + 4, none⟩ = some (.int .i64 e.gid) := hc1 4 (by omega)
      have d5 : wr.cell? ⟨b, off + i * 15 + 5, none⟩ = some (.int .i64 e.size) := hc1 5 (by omega)
      have d6 : wr.cell? ⟨b, off + i * 15 + 6, none⟩ = some (.int .i64 e.sec) := hc1 6 (by omega)
      have d7 : wr.cell? ⟨b, off + i * 15 + 7, none⟩ = some (.int .i64 e.nano) := hc1 7 (by omega)
      have d8 : wr.cell? ⟨b, off + i * 15 + 8, none⟩ = some (.string (bs e.link)) := hc1 8 (by omega)
      have d9 : wr.cell? ⟨b, off + i * 15 + 9, none⟩ = some (.string (bs e.user)) := hc1 9 (by omega)
      have d10 : wr.cell? ⟨b, off + i * 15 + 10, none⟩ = some (.string (bs e.group)) := hc1 10 (by omega)
      have d11 : wr.cell? ⟨b, off + i * 15 + 11, none⟩ = some (.int .i64 e.major) := hc1 11 (by omega)
      have d12 : wr.cell? ⟨b, off + i * 15 + 12, none⟩ = some (.int .i64 e.minor) := hc1 12 (by omega)
      have d13 : wr.cell? ⟨b, off + i * 15 + 13, none⟩ = some (.string (bs e.data)) := hc1 13 (by omega)
      have d14 : wr.cell? ⟨b, off + i * 15 + 14, none⟩ = some (.slice P1 e.map.length q1) := hc1 14 (by omega)
      obtain ⟨we, hwe⟩ : ∃ x, x = wr.alloc (.cells #[.string (bs e.name), .int .u8 e.kind, .int .i64 e.mode, .int .i64 e.uid, .int .i64 e.gid, .int .i64 e.size, .int .i64 e.sec, .int .i64 e.nano, .string (bs e.link), .string (bs e.user), .string (bs e.group), .int .i64 e.major, .int .i64 e.minor, .string (bs e.data), (.slice P1 e.map.length q1)] 40) := ⟨_, rfl⟩
      have hba : Below wr.heap.size wr we := by rw [hwe]; exact (Below.refl _ _).alloc (Nat.le_refl _) _
      have BE := Lib.hid (thenB HW.out hba)
      have PE := Lib.hid (hp1.below hba)
      have ZB := Lib.hid (show Blk we wr.heap.size 40 #[.string (bs e.name), .int .u8 e.kind, .int .i64 e.mode, .int .i64 e.uid, .int .i64 e.gid, .int .i64 e.size, .int .i64 e.sec, .int .i64 e.nano, .string (bs e.link), .string (bs e.user), .string (bs e.group), .int .i64 e.major, .int .i64 e.minor, .string (bs e.data), (.slice P1 e.map.length q1)] by rw [hwe]; exact Blk.new wr 40 _)
      have HWE := Lib.hid hwe
      clear hc1 he hrow hp1 hba hwe EP
      go_wp2_with fail
      rw [← HWE.out]
      clear HWE
      obtain ⟨zb, hzb⟩ : ∃ zb, zb = wr.heap.size := ⟨_, rfl⟩
      rw [← hzb] at ZB ⊢
      clear hzb d0 d1 d2 d3 d4 d5 d6 d7 d8 d9 d10 d11 d12 d13 d14 lr1
      go_loopg [11] (qs.length - k) (fun g kv wr => ∃ k : Nat, kv = .int .i64 k ∧ k ≤ qs.length ∧ g = qs.length - k ∧ Hid (Below we.heap.size we wr) ∧ Hid (((qs.map Prod.fst).drop k).filter p = (ps.map Prod.fst).drop i))
      case atStart => exact ⟨k, rfl, hk, rfl, Lib.hid (Below.refl _ _), HF⟩
      case round =>
        clear HF hk
        obtain ⟨k, rfl, hk, hg2, HX, HF⟩ := hrel
        have HG2 := Lib.hid hg2
        clear hg2
        have hkl : k < qs.length := HMO.out k HF.out
        have hki : (k : Int) < qs.length := by omega
        have hkn : ((k : Int) == qs.length) = false := beq_eq_false_iff_ne.2 (by omega)
        have ht1 := fun h => HTK.out k hkl HF.out h
        have hd1 := fun h => HDI.out k hkl HF.out h
        have hs1 := fun h => fewP_skip HF.out hkl h
        have hml := HML.out qs[k] (List.getElem_mem hkl)
        rcases R5.out with h0 | ⟨b2, off2, rfl, hb2, hrow2⟩
        · rw [h0] at hkl; cases hkl
        have BX := Lib.hid (thenB BE.out HX.out)
        have hc2 := (hrow2.below BX.out hb2) k hkl
        have hp2 := (F5.out.below BX.out).pc qs[k] (List.getElem_mem hkl)
        have lr2 : b2 < wr.heap.size := Nat.lt_of_lt_of_le hb2 BX.out.size
        obtain ⟨f, m2, hf⟩ : ∃ e m, qs[k] = (e, m) := ⟨_, _, rfl⟩
        rw [hf] at hc2 hp2 ht1 hd1 hs1 hml
        simp only at hc2 hp2 ht1 hd1 hs1 hml
        obtain ⟨P2, q2, rfl, _⟩ := id hp2
        have hpe := PE.out.below HX.out
        have f0 : wr.cell? ⟨b2, off2 + k * 15, none⟩ = some (.string (bs f.name)) := hc2 0 (by omega)
        have f1 : wr.cell? ⟨b2, off2 + k * 15 + 1, none⟩ = some (.int .u8 f.kind) := hc2 1 (by omega)
        have f2 : wr.cell? ⟨b2, off2 + k * 15 + 2, none⟩ = some (.int .i64 f.mode) := hc2 2 (by omega)
        have f3 : wr.cell? ⟨b2, off2 + k * 15 + 3, none⟩ = some (.int .i64 f.uid) := hc2 3 (by omega)
        have f4 : wr.cell? ⟨b2, off2 + k * 15 + 4, none⟩ = some (.int .i64 f.gid) := hc2 4 (by omega)
        have f5 : wr.cell? ⟨b2, off2 + k * 15 + 5, none⟩ = some (.int .i64 f.size) := hc2 5 (by omega)
        have f6 : wr.cell? ⟨b2, off2 + k * 15 + 6, none⟩ = some (.int .i64 f.sec) := hc2 6 (by omega)
        have f7 : wr.cell? ⟨b2, off2 + k * 15 + 7, none⟩ = some (.int .i64 f.nano) := hc2 7 (by omega)
        have f8 : wr.cell? ⟨b2, off2 + k * 15 + 8, none⟩ = some (.string (bs f.link)) := hc2 8 (by omega)
        have f9 : wr.cell? ⟨b2, off2 + k * 15 + 9, none⟩ = some (.string (bs f.user)) := hc2 9 (by omega)
        have f10 : wr.cell? ⟨b2, off2 + k * 15 + 10, none⟩ = some (.string (bs f.group)) := hc2 10 (by omega)
        have f11 : wr.cell? ⟨b2, off2 + k * 15 + 11, none⟩ = some (.int .i64 f.major) := hc2 11 (by omega)
        have f12 : wr.cell? ⟨b2, off2 + k * 15 + 12, none⟩ = some (.int .i64 f.minor) := hc2 12 (by omega)
        have f13 : wr.cell? ⟨b2, off2 + k * 15 + 13, none⟩ = some (.string (bs f.data)) := hc2 13 (by omega)
        have f14 : wr.cell? ⟨b2, off2 + k * 15 + 14, none⟩ = some (.slice P2 f.map.length q2) := hc2 14 (by omega)
        have ZX := Lib.hid (ZB.out.below HX.out ZB.out.lt)
        have lz := ZX.out.lt
        have e0 : wr.cell? ⟨zb, 0, none⟩ = some (.string (bs e.name)) := ZX.out.cell 0
        have e1 : wr.cell? ⟨zb, 1, none⟩ = some (.int .u8 e.kind) := ZX.out.cell 1
        have e2 : wr.cell? ⟨zb, 2, none⟩ = some (.int .i64 e.mode) := ZX.out.cell 2
        have e3 : wr.cell? ⟨zb, 3, none⟩ = some (.int .i64 e.uid) := ZX.out.cell 3
        have e4 : wr.cell? ⟨zb, 4, none⟩ = some (.int .i64 e.gid) := ZX.out.cell 4
        have e5 : wr.cell? ⟨zb, 5, none⟩ = some (.int .i64 e.size) := ZX.out.cell 5
        have e6 : wr.cell? ⟨zb, 6, none⟩ = some (.int .i64 e.sec) := ZX.out.cell 6
        have e7 : wr.cell? ⟨zb, 7, none⟩ = some (.int .i64 e.nano) := ZX.out.cell 7
        have e8 : wr.cell? ⟨zb, 8, none⟩ = some (.string (bs e.link)) := ZX.out.cell 8
        have e9 : wr.cell? ⟨zb, 9, none⟩ = some (.string (bs e.user)) := ZX.out.cell 9
        have e10 : wr.cell? ⟨zb, 10, none⟩ = some (.string (bs e.group)) := ZX.out.cell 10
        have e11 : wr.cell? ⟨zb, 11, none⟩ = some (.int .i64 e.major) := ZX.out.cell 11
        have e12 : wr.cell? ⟨zb, 12, none⟩ = some (.int .i64 e.minor) := ZX.out.cell 12
        have e13 : wr.cell? ⟨zb, 13, none⟩ = some (.string (bs e.data)) := ZX.out.cell 13
        have e14 : wr.cell? ⟨zb, 14, none⟩ = some (.slice P1 e.map.length q1) := ZX.out.cell 14
        cases hpf : p f
        · have SM := Lib.hid (fun w' => sameN_any f e (.slice P2 f.map.length q2) (.slice P1 e.map.length q1) w' (hd1 hpf))
          have HN := Lib.hid (hs1 hpf)
          unfold ev evc at SM
          clear hc2 hf hrow2 hp2 hpe ht1 hd1 hs1 hml hpf
          go_wp2_with fail
          go_still_tail 10, (by kernel_rfl)
          go_wp2_with fail
          refine (SM.out _).mono ?_
          rintro r w7 ⟨rfl, h7⟩
          have B7 := Lib.hid (thenB HX.out (show Below wr.heap.size wr w7 from (Below.drew (Below.refl _ _)).trans h7))
          clear h7
          go_wp2_with fail
          go_roundg (qs.length - (k + 1))
          case measure => have := HG2.out; omega
          case rel => exact ⟨k + 1, by go_num, by omega, rfl, B7, HN⟩
        · obtain ⟨hfe, hnx⟩ := ht1 hpf
          subst hfe
          have SM := Lib.hid (fun w' (hb : Below wr.heap.size wr w') => sameE_any f (.slice P2 f.map.length q2) (.slice P1 f.map.length q1) w' (hp2.below hb) (hpe.below hb) hml)
          have HN := Lib.hid hnx
          unfold ev evc at SM
          clear hc2 hf hrow2 hp2 hpe ht1 hd1 hs1 hml hpf hnx
          go_wp2_with fail
          go_still_tail 10, (by kernel_rfl)
          go_wp2_with fail
          refine (SM.out _ (Below.drew (Below.refl _ _))).mono ?_
          rintro r w7 ⟨rfl, h7⟩
          have B7 := Lib.hid (thenB BX.out (show Below wr.heap.size wr w7 from (Below.drew (Below.refl _ _)).trans h7))
          clear h7
          go_wp2_with fail
          go_roundg (ps.length - (i + 1))
          case measure => have := HG.out; omega
          case rel => exact ⟨i + 1, k + 1, by go_num, by go_num, by omega, by omega, rfl, B7, HN⟩
    · have hii : ¬ (i : Int) < ps.length := by omega
      go_wp2_with fail
      refine (NM.out _ (thenB B5.out HW.out)).mono ?_
      rintro r w6 ⟨v6, rfl, hv6, h6⟩
      have C6 := Lib.hid (thenB B5.out (thenB HW.out h6))
      have V6 := Lib.hid hv6.has
      obtain ⟨X6, c6, rfl, _⟩ := hv6.form
      clear hv6 h6 NM HF HG
      go_wp2_with fail
      refine (GO.out _ C6.out).mono ?_
      rintro r w8 ⟨v8, rfl, hv8, h8⟩
      have C8 := Lib.hid (thenB C6.out h8)
      have V8 := Lib.hid (hasS_later V6.out h8)
      obtain ⟨X8, c8, rfl, _, hr8⟩ := hv8
      have R8 := Lib.hid hr8
      clear h8 GO V6 hr8 HW hi hk hil hii
      go_wp2_with fail
      go_loopg [16] (G.length) (fun g iv wr => ∃ i : Nat, iv = .int .i64 i ∧ i ≤ G.length ∧ g = G.length - i ∧ Hid (Below w8.heap.size w8 wr))
      case atStart => exact ⟨0, rfl, by omega, by omega, Lib.hid (Below.refl _ _)⟩
      case round =>
        obtain ⟨i, rfl, hi, hg, HW⟩ := hrel
        have HG := Lib.hid hg
        clear hg
        by_cases hil : i < G.length
        · have hii : (i : Int) < G.length := by omega
          rcases R8.out with h0 | ⟨b, off, rfl, _, hb, hrow⟩
          · rw [h0] at hil; cases hil
          have hrow2 := hrow.below HW.out hb
          have lb : b < wr.heap.size := Nat.lt_of_lt_of_le hb HW.out.size
          have d0 : wr.cell? ⟨b, off + i, none⟩ = some (.string (bs G[i])) := hrow2 i hil
          have HC := Lib.hid (fun w' (hb : Below wr.heap.size wr w') => hasIn_any (hasS_later V8.out (thenB HW.out hb)) (by omega) (GM.out G[i] (List.getElem_mem hil)))
          have hgl1 := GL.out G[i] (List.getElem_mem hil)
          have hgx : G[i]? = some G[i] := List.getElem?_eq_getElem hil
          obtain ⟨x, hx⟩ : ∃ x, x = G[i] := ⟨_, rfl⟩
          rw [← hx] at d0 HC hgl1 hgx
          clear hx
          rcases i with _ | j
          · have d00 : wr.cell? ⟨b, off, none⟩ = some (.string (bs x)) := d0
            have hii0 : (0 : Int) < G.length := hii
            clear hrow hrow2 hgx d0 hii
            go_wp2_with fail
            go_quiet ((go_at_call 38; with_reducible exact Calls.quiet_of_same (HC.out _ (below_drewN (Below.refl _ _) _))))
            go_wp2_with fail
            go_roundg (G.length - 1)
            case measure => have := HG.out; omega
            case rel => exact ⟨1, by go_num, by omega, by omega, Lib.hid (below_drewN HW.out _)⟩
          · have hj : j < G.length := by omega
            have d1 : wr.cell? ⟨b, off + j, none⟩ = some (.string (bs G[j])) := hrow2 j hj
            have hgl2 := GL.out G[j] (List.getElem_mem hj)
            have hgy : G[j]? = some G[j] := List.getElem?_eq_getElem hj
            obtain ⟨y, hy⟩ : ∃ y, y = G[j] := ⟨_, rfl⟩
            rw [← hy] at d1 hgl2 hgy
            have hz := GD.out j x y hgx hgy
            have CM := Lib.hid (fun w' (hb : Below wr.heap.size wr w') => order_any (bs x) (bs y) w' (by rw [bs_size]; omega) (by rw [bs_size]; omega) ((HM.out.below B3.out).below (thenB (thenB C8.out HW.out) hb)))
            rw [bs_list, bs_list] at CM
            obtain ⟨z, hzz⟩ : ∃ z, z = Pth.cmp (Pth.parts x) (Pth.parts y) := ⟨_, rfl⟩
            rw [← hzz] at CM hz
            have hp0 : (0 : Int) < ((j + 1 : Nat) : Int) := by omega
            have hp1 : (((j + 1 : Nat) : Int) - 1) = j := by omega
            have hp2 : ((j : Int) + 1 - 1) = j := by omega
            have hp4 : (0 : Int) ≤ (j : Int) + 1 := by omega
            have hp5 : IntKind.i64.wrap (j : Int) = j := IntWalk.i64_in _ (by omega)
            have hp6 : (j : Int) < G.length := by omega
            have hp3 : (0 : Int) < (j : Int) + 1 := by omega
            have hjI : (j : Int) ≤ 60 := by omega
            clear hrow hrow2 hgx hgy hy hzz
            go_wp2_with fail
            refine wp_region_still_tail 20 (by kernel_rfl) (by kernel_rfl) ?_
            simp only [List.take_succ_cons, List.take_zero, List.drop_succ_cons, List.drop_zero]
            repeat still_step
            still_call (HC.out _ (Below.drew (Below.refl _ _)))
            repeat still_step
            try refine wpStill_nil ?_
            go_wp2_with fail
            refine (CM.out _ (Below.drew (Below.refl _ _))).mono ?_
            rintro r w9 ⟨rfl, h9⟩
            have B9 := Lib.hid (thenB HW.out (show Below wr.heap.size wr w9 from (Below.drew (Below.refl _ _)).trans h9))
            clear h9
            go_wp2_with fail
            go_roundg (G.length - (j + 1 + 1))
            case measure => have := HG.out; omega
            case rel => exact ⟨j + 1 + 1, by go_num, by omega, by omega, B9⟩
        · have hii : ¬ (i : Int) < G.length := by omega
          go_wp2_with fail
          go_ret
          exact ⟨rfl, thenB B3.out (thenB C8.out HW.out)⟩

set_option maxRecDepth 100000 in
theorem sinceFew_walk {H : Type} {enc : TypeId × Value → H} {w : World} {d1 d2 : DataW H} {p1 p2 : List MemPlace} {base : Nat} (va : Value) (hok1 : Value.okWide Tryz.prog w .any base 22 va)
    (h1 : DataW.Trod enc Tryz.prog w 0 (fun _ => true) true 22 va d1 p1) (hz1 : ∀ n ∈ d1.weights Tryz.prog 22, n ≤ reachBytes)
    (vb : Value) (hok2 : Value.okWide Tryz.prog w .any base 22 vb)
    (h2 : DataW.Trod enc Tryz.prog w 0 (fun _ => true) true 22 vb d2 p2) (hz2 : ∀ n ∈ d2.weights Tryz.prog 22, n ≤ reachBytes) (n : Int) (_ : (Lit.int .i64 n).wf = true) (hsh : ML w) :
    Calls Tryz.prog 6 #[va, vb, .int .i64 n] w fun e w' => e = .returned (.bool true) ∧ Below w.heap.size w w' := by
  obtain ⟨la, ha⟩ := deeds_of hok1 h1 hz1
  obtain ⟨lb, hb⟩ := deeds_of hok2 h2 hz2
  exact sinceFew_main va vb n la lb w ha hb hsh

end Go.Proofs.YtipajekehbpghaaGreatDoor

namespace Go.Proofs.YtipajekehbpghaaGreatDoor.sinceFew
open Go.ChangeShapes Go.WideShapes Go.ChangeAt Go.RowKit
open Go.ChangeMaps (open_string shut_string)
set_option linter.unusedVariables false

theorem lo : laidOutB Tryz.prog = true := by kernel_rfl
theorem own : ownKnob Tryz.prog.godebug = none := by kernel_rfl

def leaf : DataW Unit → Value
  | .lit (.int k n) => .int k n
  | _ => .nilIface
def flat : DataW Unit → List Value
  | .agg ds => ds.flatMap fun | .agg es => es.map leaf | d => [leaf d]
  | d => [leaf d]
/-- a world for the witness: the settled one, the listed tables holding what they are listed with -/
noncomputable def laidWorld (os : Os) : World := { World.holding Tryz.prog os ⟨#[], #[], []⟩ with heap := (((World.holding Tryz.prog os ⟨#[], #[], []⟩).heap.modify 2 fun | .cells _ t f => .cells (flat Go.Pinned.utf8First).toArray t f | o => o).modify 3 fun | .cells _ t f => .cells (flat Rows.laid_unicode_utf8_acceptRanges).toArray t f | o => o) }
theorem door_met (os : Os) (args : Array Value) : laidMetH Tryz.prog Rows.sinceFewRow.laid ((laidWorld os).forCall (fun _ _ => 0) ⟨#[], args, []⟩).memory :=
  laidMetH_of_parts3 (fuel := 8) (laidMet_of_run' 8 (by kernel_rfl) (by kernel_rfl)) (by kernel_rfl) (by kernel_rfl)

set_option maxRecDepth 100000 in
theorem lifted (os : Os) (started : os.Started) (H : Type) (enc : TypeId × Value → H) :
    ReturnsInHanded {} Tryz.checked os 6 .any (fun w args => (Rows.sinceFewSpec.pre enc Tryz.prog Tryz.f6 Rows.sinceFewRow.domain false w args ∧ laidMetH Tryz.prog Rows.sinceFewRow.laid w) ∧ sizedMet enc Tryz.prog Tryz.f6 (OpenSpec.ofChange Rows.sinceFewSpec) false w args)
      (Rows.sinceFewSpec.post enc Tryz.prog Tryz.f6 false true false false) := by
  refine and_shaped (C := Tryz.checked) (X := fun w _ => laidMetH Tryz.prog Rows.sinceFewRow.laid w) (fun _ _ _ hh h => h.of_heap hh) own started (by kernel_rfl) Tryz.func6
    (ChangeSpec.witness_shaped (enc := enc) (C := Tryz.checked) (os := os) (X := fun w _ => laidMetH Tryz.prog Rows.sinceFewRow.laid w) false (laidWorld os) #[.slice none 0 0, .slice none 0 0, .int .i64 0] 8 rfl (World.shaped_of_RefB (by kernel_rfl) (by kernel_rfl)) (by kernel_rfl) (by kernel_rfl) (by kernel_rfl) (door_met os _)) ?_
  intro W base args ds gs before hval0 hW hcnd hsz0 hL hsh _
  have hval : ∀ (j : Nat) t v, Tryz.f6.params[j]? = some t → args[j]? = some v → Value.okWide Tryz.prog W .any base t v := hval0
  have hW' := hW
  obtain ⟨p, q, hA0, hV, rfl, hfz, hnd⟩ := hW
  have hA : DataW.TrodAll enc Tryz.prog W 0 (fun _ => true) true Tryz.f6.params.toList args.toList ds p := hA0
  have hsz : (DataW.weightsEach Tryz.prog (Tryz.f6.params.toList ++ Rows.sinceFewSpec.plain.varTypes Tryz.prog) (ds ++ gs)).all (· ≤ reachBytes) = true := hsz0
  rw [Tryz.params6] at hA hval hsz
  obtain ⟨v0, vs0, d0, ds0, p0, q0, hargs, rfl, rfl, h0, r0⟩ := trodAll_cons hA
  obtain ⟨v1, vs1, d1, ds1, p1, q1, rfl, rfl, rfl, h1, r1⟩ := trodAll_cons r0
  obtain ⟨v2, vs2, d2, ds2, p2, q2, rfl, rfl, rfl, h2, r2⟩ := trodAll_cons r1
  obtain ⟨rfl, rfl, rfl⟩ := trodAll_nil r2
  obtain rfl : args = #[v0, v1, v2] := by cases args; simp_all
  obtain ⟨rfl, rfl⟩ := trodVars_none hV
  have k0 := hval 0 22 v0 rfl rfl
  have k1 := hval 1 22 v1 rfl rfl
  obtain ⟨a2, rfl, rfl, rfl, w2⟩ := open_int Tryz.underlying3 (hval 2 3 v2 rfl rfl) h2
  have z0 : ∀ n ∈ d0.weights Tryz.prog 22, n ≤ reachBytes := fun n hn => by have := List.all_eq_true.1 hsz n (DataW.weights_mem_each (j := 0) (t := 22) rfl rfl n hn); simpa using this
  have z1 : ∀ n ∈ d1.weights Tryz.prog 22, n ≤ reachBytes := fun n hn => by have := List.all_eq_true.1 hsz n (DataW.weights_mem_each (j := 1) (t := 22) rfl rfl n hn); simpa using this
  clear hA0 hval0 hsz0
  refine (sinceFew_walk v0 k0 h0 z0 v1 k1 h1 z1 a2 w2 (ml_of_shape hsh)).mono fun e W' ⟨he, bel⟩ => ?_
  subst he
  exact ⟨_, rfl, _, _, _, [], _, [], hW', trodAll_mk1 (shut_bool Tryz.underlying4 _), (trodAll_cons_mk (Below.trod lo (by kernel_rfl) (of_decide_eq_true (by kernel_rfl)) h0 bel (fun x hx => by obtain ⟨_, hh⟩ := h0; exact DataW.trod_lt _ _ _ _ hh x hx)) (trodAll_cons_mk (Below.trod lo (by kernel_rfl) (of_decide_eq_true (by kernel_rfl)) h1 bel (fun x hx => by obtain ⟨_, hh⟩ := h1; exact DataW.trod_lt _ _ _ _ hh x hx)) (trodAll_cons_mk (shut_int Tryz.underlying3 w2) trodAll_mk0))), rfl, bel.frame _, fun h => by cases h⟩

theorem said : Rows.SinceFewSaid :=
  OpenClaim.holds_of_wide 6 Tryz.f6 rfl rfl rfl rfl rfl rfl rfl ⟨rfl, rfl, rfl, rfl, rfl⟩ rfl rfl rfl rfl rfl (by kernel_rfl) Tryz.func6 (by kernel_rfl)
    (of_decide_eq_true (by kernel_rfl)) (by unfold Func.isWrapper; first | (rw [if_pos (by decide +kernel)]; kernel_rfl) | (rw [if_neg (by decide +kernel)]; exact ⟨rfl, rfl⟩))
    (fun os started H enc _ => lifted os started H enc)

theorem plain (f : FuncId) (fn : Func) (hf : Tryz.pinned.checked.prog.funcNamed "revetment/revetmentkeep.SinceFew" = some f) (hfn : Tryz.pinned.checked.prog.funcs[f]? = some fn) :
    true = Tryz.pinned.checked.prog.looks [] ∧ ∀ (j : Nat) t, fn.params[j]? = some t → Tryz.pinned.checked.prog.wantsStandIn t = false := by
  obtain rfl : f = 6 := Option.some.inj ((show Tryz.prog.funcNamed "revetment/revetmentkeep.SinceFew" = some 6 by kernel_rfl).symm.trans hf) |>.symm
  obtain rfl : fn = Tryz.f6 := (Option.some.inj (Tryz.func6.symm.trans hfn)).symm
  refine ⟨by kernel_rfl, fun j t ht => ?_⟩
  rw [Tryz.params6] at ht
  have hm : t ∈ [22, 22, 3] := by simpa using Array.mem_of_getElem? ht
  have hall : ([22, 22, 3].all fun u => !Tryz.prog.wantsStandIn u) = true := by kernel_rfl
  have hm' : t ∈ [22, 22, 3] := hm
  exact (show Tryz.prog.wantsStandIn t = false by simpa using List.all_eq_true.1 hall t hm')

theorem card : Rows.SinceFewCardSaid :=
  Claim7.holds_tied_plain_at .later [] _ _ _ _ said (fun _ h => by cases h) (by kernel_rfl) (fun _ h => by cases h) sinceFew_row_tie rfl ⟨rfl, rfl⟩ (by kernel_rfl) rfl plain (by kernel_rfl)
#print axioms card
end Go.Proofs.YtipajekehbpghaaGreatDoor.sinceFew
