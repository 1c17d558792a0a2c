/-
  The walk of DifferAll.
-/
import Derived.Test.YtipajekehbpghaaGreatDoorZr
import Derived.Test.YtipajekehbpghaaGreatDoorZm
import Derived.Test.YtipajekehbpghaaGreatDoorZk
import Derived.Test.YtipajekehbpghaaGreatDoorZf
import Derived.Test.YtipajekehbpghaaGreatDoorCards
import Derived.Test.YtipajekehbpghaaGreatDoorTie
import Derived.ProofKit
import Derived.OpenShut
import Derived.ShutString
import Derived.ChangeOld
import Derived.Below
import Derived.SizedLaws
import Derived.Deep.DeepHandedRow
import Derived.Lib.LaidTab
import Derived.SevenTiedAt
import Derived.LaidMore
set_option linter.unusedVariables false
set_option linter.unusedSimpArgs false

namespace Go.Proofs.YtipajekehbpghaaGreatDoor
open Go.RowKit Go.Maps Tre Pk

theorem mapLen2 {ps : List (Ent × Value)} {l : List Ent} (h : ps.map Prod.fst = l) : ps.length = l.length := by rw [← h, List.length_map]
theorem len0 {α : Type} {l : List α} (h : l = []) : ((l.length : Int) == 0) = true := by rw [h]; rfl
theorem lenN {α : Type} {l : List α} (h : l ≠ []) : ((l.length : Int) == 0) = false := by
  rw [beq_eq_false_iff_ne]
  have := List.length_pos_iff.2 h
  omega

set_option maxRecDepth 100000 in
set_option maxHeartbeats 8000000 in
theorem differAll_main (va vb : Value) (la lb : List Deed) (w : World) (hA : DeedsIn w va la) (hB : DeedsIn w vb lb) (hm : ML w) :
    Calls Tryz.prog 10 #[va, vb] w fun e w' => e = .returned (.bool true) ∧ Below w.heap.size w w' := by
  have CF := Lib.hid (comparedF_any w hm)
  have PK := Lib.hid (fun w' (hb : Below w.heap.size w w') => packed_any w' (hm.below hb))
  have PA := Lib.hid (fun w' (hb : Below w.heap.size w w') => planted_any (hA.below hb) (hm.below hb))
  have PB := Lib.hid (fun w' (hb : Below w.heap.size w w') => planted_any (hB.below hb) (hm.below hb))
  have HM := Lib.hid hm
  obtain ⟨X, cap, rfl, _⟩ := id hA
  obtain ⟨X2, cap2, rfl, _⟩ := id hB
  clear hA hB hm
  go_enter Tryz.func10, Tryz.ntmps10
  go_wp2_with fail
  refine CF.out.mono ?_
  rintro e w0 ⟨rfl, h0⟩
  have B0 := Lib.hid h0
  clear h0
  go_wp2_with fail
  refine (PK.out _ B0.out).mono ?_
  rintro e w1 ⟨rfl, h1⟩
  have B1 := Lib.hid (thenB B0.out h1)
  clear h1
  go_wp2_with fail
  refine (PA.out _ B1.out).mono ?_
  rintro e w2 ⟨h2, ⟨ha, rfl⟩ | ⟨ha, g, on, of, rfl, hT, _⟩⟩
  · have B2 := Lib.hid (thenB B1.out h2)
    clear h2
    go_wp2_with fail
    refine (PB.out _ B2.out).mono ?_
    rintro e w3 ⟨h3, ⟨hb, rfl⟩ | ⟨hb, g2, on2, of2, rfl, _, _⟩⟩
    · have B3 := Lib.hid (thenB B2.out h3)
      clear h3
      go_wp2_with fail
      go_ret
      exact ⟨rfl, B3.out⟩
    · have B3 := Lib.hid (thenB B2.out h3)
      clear h3
      go_wp2_with fail
      go_ret
      exact ⟨rfl, B3.out⟩
  have B2 := Lib.hid (thenB B1.out h2)
  have HT2 := Lib.hid hT
  clear h2 hT
  go_wp2_with fail
  refine (PB.out _ B2.out).mono ?_
  rintro e w3 ⟨h3, ⟨hb, rfl⟩ | ⟨hb, g2, on2, of2, rfl, hU, _⟩⟩
  · have B3 := Lib.hid (thenB B2.out h3)
    clear h3
    go_wp2_with fail
    go_ret
    exact ⟨rfl, B3.out⟩
  have B3 := Lib.hid (thenB B2.out h3)
  have T3 := Lib.hid (HT2.out.below h3)
  have U3 := Lib.hid hU
  have hla := bigL_len ha
  have hlb := bigL_len hb
  have hxa := plant_nx la
  have hxb := plant_nx lb
  have HS := Lib.hid (plant_std la)
  have HD := Lib.hid (plant_dir1 la)
  have HS2 := Lib.hid (plant_std lb)
  have HD2 := Lib.hid (plant_dir1 lb)
  obtain ⟨t, ht⟩ : ∃ t, t = plant la := ⟨_, rfl⟩
  obtain ⟨u, hu⟩ : ∃ u, u = plant lb := ⟨_, rfl⟩
  rw [← ht] at T3 HS hxa HD
  rw [← hu] at U3 HS2 hxb HD2
  have hnx : t.nx ≤ 60 := by omega
  have hny : u.nx ≤ 60 := by omega
  clear h3 hU ha hb ht hu PA PB hxa hxb PK CF HT2
  have LAW := Lib.hid (differ_all HS.out HS2.out HD.out HD2.out false false)
  have LR := Lib.hid (list_right HS.out false)
  have LR2 := Lib.hid (list_right HS2.out false)
  have hln := list_len t false
  have hln2 : t.names.length ≤ 60 := by rw [names_len]; exact HS.out.cn
  have hlm := list_len u false
  have hlm2 : u.names.length ≤ 60 := by rw [names_len]; exact HS2.out.cn
  have SF := Lib.hid (fun w' (hb : Below w3.heap.size w3 w') (hn : ¬ Same t u) => same_any (T3.out.below hb) (U3.out.below hb) HS.out HS2.out (by omega) (by omega) false ⟨(fun e => nomatch e), fun s => (hn s).elim⟩)
  have ST := Lib.hid (fun w' (hb : Below w3.heap.size w3 w') (hn : Same t u) => same_any (T3.out.below hb) (U3.out.below hb) HS.out HS2.out (by omega) (by omega) true ⟨fun _ => hn, fun _ => rfl⟩)
  have LI := Lib.hid (list_any T3.out HS.out (by omega) (HM.out.below B3.out) false)
  have LJ := Lib.hid (fun w' (hb : Below w3.heap.size w3 w') => list_any (U3.out.below hb) HS2.out (by omega) ((HM.out.below B3.out).below hb) false)
  obtain ⟨L, hL⟩ : ∃ L, L = list t false := ⟨_, rfl⟩
  obtain ⟨M, hM⟩ : ∃ L, L = list u false := ⟨_, rfl⟩
  rw [← hL] at LAW LR hln LI
  rw [← hM] at LAW LR2 hlm LJ
  clear hL hM
  go_wp2_with fail
  refine LI.out.mono ?_
  rintro e w4 ⟨v4, ps, rfl, hps, hen, h4⟩
  have B4 := Lib.hid h4
  have E4 := Lib.hid hen.at_
  have hpl : ps.length ≤ 60 := by rw [mapLen2 hps]; omega
  have RE := Lib.hid (show ∀ p ∈ ps, rightE p.1 = true from fun p hp => LR.out p.1 (by rw [← hps]; exact List.mem_map_of_mem hp))
  have HPS := Lib.hid hps
  obtain ⟨XA, xc, rfl, _⟩ := E4.out.row
  clear h4 hen hps LI LR
  go_wp2_with fail
  refine (LJ.out _ B4.out).mono ?_
  rintro e w5 ⟨v5, qs, rfl, hqs, hen, h5⟩
  have B5 := Lib.hid (thenB B4.out h5)
  have E5 := Lib.hid hen.at_
  have E45 := Lib.hid (E4.out.below h5)
  have hql : qs.length ≤ 60 := by rw [mapLen2 hqs]; omega
  have RF := Lib.hid (show ∀ p ∈ qs, rightE p.1 = true from fun p hp => LR2.out p.1 (by rw [← hqs]; exact List.mem_map_of_mem hp))
  have HQS := Lib.hid hqs
  obtain ⟨XB, xd, rfl, _⟩ := E5.out.row
  clear h5 hen hqs LJ LR2
  have C1 := Lib.hid (differC_any (HM.out.below (thenB B3.out B5.out)) (T3.out.below B5.out) HS.out (by omega) _ qs E5.out (by omega) RF.out)
  have C2 := Lib.hid (fun w' (hb : Below w5.heap.size w5 w') => differC_any ((HM.out.below (thenB B3.out B5.out)).below hb) ((U3.out.below B5.out).below hb) HS2.out (by omega) _ ps (E45.out.below hb) (by omega) RE.out)
  have M1 := Lib.hid (fun w' (hb : Below w5.heap.size w5 w') => moreD_any ((HM.out.below (thenB B3.out B5.out)).below hb) ((T3.out.below B5.out).below hb) HS.out _ qs (E5.out.below hb) (by omega) (fun p hp => by have := (right_ent (RF.out p hp)).1; omega))
  have M2 := Lib.hid (fun w' (hb : Below w5.heap.size w5 w') => moreD_any ((HM.out.below (thenB B3.out B5.out)).below hb) ((U3.out.below B5.out).below hb) HS2.out _ ps (E45.out.below hb) (by omega) (fun p hp => by have := (right_ent (RE.out p hp)).1; omega))
  rw [HQS.out] at C1 M1
  rw [HPS.out] at C2 M2
  obtain ⟨c1, hc1⟩ : ∃ c, c = compare t M := ⟨_, rfl⟩
  obtain ⟨c2, hc2⟩ : ∃ c, c = compare u L := ⟨_, rfl⟩
  obtain ⟨m1, hm1⟩ : ∃ c, c = more t M := ⟨_, rfl⟩
  obtain ⟨m2, hm2⟩ : ∃ c, c = more u L := ⟨_, rfl⟩
  rw [← hc1] at C1 LAW
  rw [← hc2] at C2 LAW
  rw [← hm1] at M1 LAW
  rw [← hm2] at M2 LAW
  clear hc1 hc2 hm1 hm2
  go_wp2_with fail
  refine C1.out.mono ?_
  rintro e w6 ⟨v6, rfl, hv, h6⟩
  have B6 := Lib.hid h6
  have BB6 := Lib.hid (thenB B5.out h6)
  obtain ⟨X6, k6, rfl⟩ := hv.form
  clear hv h6 C1
  by_cases n1 : c1 = []
  rotate_left
  · have q := lenN n1
    have HN := Lib.hid (fun s => n1 (LAW.out.2 s).1)
    clear n1
    go_wp2_with fail; refine (SF.out _ BB6.out HN.out).mono ?_; rintro r wz ⟨rfl, hz⟩; have Bz := Lib.hid (thenB B3.out (thenB BB6.out hz)); clear hz; go_wp2_with fail; go_ret; exact ⟨rfl, Bz.out⟩
  have q1 := len0 n1
  have N1 := Lib.hid n1
  clear n1
  go_wp2_with fail
  refine (C2.out _ B6.out).mono ?_
  rintro e w7 ⟨v7, rfl, hv, h7⟩
  have B7 := Lib.hid (thenB B6.out h7)
  have BB7 := Lib.hid (thenB BB6.out h7)
  obtain ⟨X7, k7, rfl⟩ := hv.form
  clear hv h7 C2
  by_cases n2 : c2 = []
  rotate_left
  · have q := lenN n2
    have HN := Lib.hid (fun s => n2 (LAW.out.2 s).2.1)
    clear n2
    go_wp2_with fail; refine (SF.out _ BB7.out HN.out).mono ?_; rintro r wz ⟨rfl, hz⟩; have Bz := Lib.hid (thenB B3.out (thenB BB7.out hz)); clear hz; go_wp2_with fail; go_ret; exact ⟨rfl, Bz.out⟩
  have q2 := len0 n2
  have N2 := Lib.hid n2
  clear n2
  go_wp2_with fail
  refine (M1.out _ B7.out).mono ?_
  rintro e w8 ⟨v8, rfl, hv, h8⟩
  have B8 := Lib.hid (thenB B7.out h8)
  have BB8 := Lib.hid (thenB BB7.out h8)
  obtain ⟨X8, k8, rfl, _⟩ := hv.form
  clear hv h8 M1
  by_cases n3 : m1 = []
  rotate_left
  · have q := lenN n3
    have HN := Lib.hid (fun s => n3 (LAW.out.2 s).2.2.1)
    clear n3
    go_wp2_with fail; refine (SF.out _ BB8.out HN.out).mono ?_; rintro r wz ⟨rfl, hz⟩; have Bz := Lib.hid (thenB B3.out (thenB BB8.out hz)); clear hz; go_wp2_with fail; go_ret; exact ⟨rfl, Bz.out⟩
  have q3 := len0 n3
  have N3 := Lib.hid n3
  clear n3
  go_wp2_with fail
  refine (M2.out _ B8.out).mono ?_
  rintro e w9 ⟨v9, rfl, hv, h9⟩
  have BB9 := Lib.hid (thenB BB8.out h9)
  obtain ⟨X9, k9, rfl, _⟩ := hv.form
  clear hv h9 M2
  by_cases n4 : m2 = []
  rotate_left
  · have q := lenN n4
    have HN := Lib.hid (fun s => n4 (LAW.out.2 s).2.2.2)
    clear n4
    go_wp2_with fail; refine (SF.out _ BB9.out HN.out).mono ?_; rintro r wz ⟨rfl, hz⟩; have Bz := Lib.hid (thenB B3.out (thenB BB9.out hz)); clear hz; go_wp2_with fail; go_ret; exact ⟨rfl, Bz.out⟩
  have q4 := len0 n4
  have HY := Lib.hid (LAW.out.1 ⟨N1.out, N2.out, N3.out, n4⟩)
  clear n4
  go_wp2_with fail
  refine (ST.out _ BB9.out HY.out).mono ?_
  rintro r wz ⟨rfl, hz⟩
  have Bz := Lib.hid (thenB B3.out (thenB BB9.out hz))
  clear hz
  go_wp2_with fail
  go_ret
  exact ⟨rfl, Bz.out⟩

set_option maxRecDepth 100000 in
theorem differAll_walk {H : Type} {enc : TypeId × Value → H} {w : World} {d1 d2 : DataW H} {p1 p2 : List MemPlace} {base : Nat} (va : Value) (hok1 : Value.okWide Tryz.prog w .any base 22 va)
    (h1 : DataW.Trod enc Tryz.prog w 0 (fun _ => true) true 22 va d1 p1) (hz1 : ∀ n ∈ d1.weights Tryz.prog 22, n ≤ reachBytes)
    (vb : Value) (hok2 : Value.okWide Tryz.prog w .any base 22 vb)
    (h2 : DataW.Trod enc Tryz.prog w 0 (fun _ => true) true 22 vb d2 p2) (hz2 : ∀ n ∈ d2.weights Tryz.prog 22, n ≤ reachBytes) (hsh : ML w) :
    Calls Tryz.prog 10 #[va, vb] w fun e w' => e = .returned (.bool true) ∧ Below w.heap.size w w' := by
  obtain ⟨la, ha⟩ := deeds_of hok1 h1 hz1
  obtain ⟨lb, hb⟩ := deeds_of hok2 h2 hz2
  exact differAll_main va vb la lb w ha hb hsh

end Go.Proofs.YtipajekehbpghaaGreatDoor

/-
  DifferAll: the call returns true for every input, and its arguments read afterwards as before; the card.
-/
namespace Go.Proofs.YtipajekehbpghaaGreatDoor.differAll
open Go.ChangeShapes Go.WideShapes Go.ChangeAt Go.RowKit
open Go.ChangeMaps (open_string shut_string)
set_option linter.unusedVariables false

theorem lo : laidOutB Tryz.prog = true := by kernel_rfl
theorem own : ownKnob Tryz.prog.godebug = none := by kernel_rfl

def leaf : DataW Unit → Value
  | .lit (.int k n) => .int k n
  | _ => .nilIface
def flat : DataW Unit → List Value
  | .agg ds => ds.flatMap fun | .agg es => es.map leaf | d => [leaf d]
  | d => [leaf d]
/-- a world for the witness: the settled one, the listed tables holding what they are listed with -/
noncomputable def laidWorld (os : Os) : World := { World.holding Tryz.prog os ⟨#[], #[], []⟩ with heap := (((World.holding Tryz.prog os ⟨#[], #[], []⟩).heap.modify 2 fun | .cells _ t f => .cells (flat Go.Pinned.utf8First).toArray t f | o => o).modify 3 fun | .cells _ t f => .cells (flat Rows.laid_unicode_utf8_acceptRanges).toArray t f | o => o) }
theorem door_met (os : Os) (args : Array Value) : laidMetH Tryz.prog Rows.differAllRow.laid ((laidWorld os).forCall (fun _ _ => 0) ⟨#[], args, []⟩).memory :=
  laidMetH_of_parts3 (fuel := 8) (laidMet_of_run' 8 (by kernel_rfl) (by kernel_rfl)) (by kernel_rfl) (by kernel_rfl)

set_option maxRecDepth 100000 in
theorem lifted (os : Os) (started : os.Started) (H : Type) (enc : TypeId × Value → H) :
    ReturnsInHanded {} Tryz.checked os 10 .any (fun w args => (Rows.differAllSpec.pre enc Tryz.prog Tryz.f10 Rows.differAllRow.domain false w args ∧ laidMetH Tryz.prog Rows.differAllRow.laid w) ∧ sizedMet enc Tryz.prog Tryz.f10 (OpenSpec.ofChange Rows.differAllSpec) false w args)
      (Rows.differAllSpec.post enc Tryz.prog Tryz.f10 false true false false) := by
  refine and_shaped (C := Tryz.checked) (X := fun w _ => laidMetH Tryz.prog Rows.differAllRow.laid w) (fun _ _ _ hh h => h.of_heap hh) own started (by kernel_rfl) Tryz.func10
    (ChangeSpec.witness_shaped (enc := enc) (C := Tryz.checked) (os := os) (X := fun w _ => laidMetH Tryz.prog Rows.differAllRow.laid w) false (laidWorld os) #[.slice none 0 0, .slice none 0 0] 8 rfl (World.shaped_of_RefB (by kernel_rfl) (by kernel_rfl)) (by kernel_rfl) (by kernel_rfl) (by kernel_rfl) (door_met os _)) ?_
  intro W base args ds gs before hval0 hW hcnd hsz0 hL hsh _
  have hval : ∀ (j : Nat) t v, Tryz.f10.params[j]? = some t → args[j]? = some v → Value.okWide Tryz.prog W .any base t v := hval0
  have hW' := hW
  obtain ⟨p, q, hA0, hV, rfl, hfz, hnd⟩ := hW
  have hA : DataW.TrodAll enc Tryz.prog W 0 (fun _ => true) true Tryz.f10.params.toList args.toList ds p := hA0
  have hsz : (DataW.weightsEach Tryz.prog (Tryz.f10.params.toList ++ Rows.differAllSpec.plain.varTypes Tryz.prog) (ds ++ gs)).all (· ≤ reachBytes) = true := hsz0
  rw [Tryz.params10] at hA hval hsz
  obtain ⟨v0, vs0, d0, ds0, p0, q0, hargs, rfl, rfl, h0, r0⟩ := trodAll_cons hA
  obtain ⟨v1, vs1, d1, ds1, p1, q1, rfl, rfl, rfl, h1, r1⟩ := trodAll_cons r0
  obtain ⟨rfl, rfl, rfl⟩ := trodAll_nil r1
  obtain rfl : args = #[v0, v1] := by cases args; simp_all
  obtain ⟨rfl, rfl⟩ := trodVars_none hV
  have k0 := hval 0 22 v0 rfl rfl
  have k1 := hval 1 22 v1 rfl rfl
  have z0 : ∀ n ∈ d0.weights Tryz.prog 22, n ≤ reachBytes := fun n hn => by have := List.all_eq_true.1 hsz n (DataW.weights_mem_each (j := 0) (t := 22) rfl rfl n hn); simpa using this
  have z1 : ∀ n ∈ d1.weights Tryz.prog 22, n ≤ reachBytes := fun n hn => by have := List.all_eq_true.1 hsz n (DataW.weights_mem_each (j := 1) (t := 22) rfl rfl n hn); simpa using this
  clear hA0 hval0 hsz0
  refine (differAll_walk v0 k0 h0 z0 v1 k1 h1 z1 (ml_of_shape hsh)).mono fun e W' ⟨he, bel⟩ => ?_
  subst he
  exact ⟨_, rfl, _, _, _, [], _, [], hW', trodAll_mk1 (shut_bool Tryz.underlying4 _), (trodAll_cons_mk (Below.trod lo (by kernel_rfl) (of_decide_eq_true (by kernel_rfl)) h0 bel (fun x hx => by obtain ⟨_, hh⟩ := h0; exact DataW.trod_lt _ _ _ _ hh x hx)) (trodAll_cons_mk (Below.trod lo (by kernel_rfl) (of_decide_eq_true (by kernel_rfl)) h1 bel (fun x hx => by obtain ⟨_, hh⟩ := h1; exact DataW.trod_lt _ _ _ _ hh x hx)) trodAll_mk0)), rfl, bel.frame _, fun h => by cases h⟩

theorem said : Rows.DifferAllSaid :=
  OpenClaim.holds_of_wide 10 Tryz.f10 rfl rfl rfl rfl rfl rfl rfl ⟨rfl, rfl, rfl, rfl, rfl⟩ rfl rfl rfl rfl rfl (by kernel_rfl) Tryz.func10 (by kernel_rfl)
    (of_decide_eq_true (by kernel_rfl)) (by unfold Func.isWrapper; first | (rw [if_pos (by decide +kernel)]; kernel_rfl) | (rw [if_neg (by decide +kernel)]; exact ⟨rfl, rfl⟩))
    (fun os started H enc _ => lifted os started H enc)

theorem plain (f : FuncId) (fn : Func) (hf : Tryz.pinned.checked.prog.funcNamed "revetment/revetmentkeep.DifferAll" = some f) (hfn : Tryz.pinned.checked.prog.funcs[f]? = some fn) :
    true = Tryz.pinned.checked.prog.looks [] ∧ ∀ (j : Nat) t, fn.params[j]? = some t → Tryz.pinned.checked.prog.wantsStandIn t = false := by
  obtain rfl : f = 10 := Option.some.inj ((show Tryz.prog.funcNamed "revetment/revetmentkeep.DifferAll" = some 10 by kernel_rfl).symm.trans hf) |>.symm
  obtain rfl : fn = Tryz.f10 := (Option.some.inj (Tryz.func10.symm.trans hfn)).symm
  refine ⟨by kernel_rfl, fun j t ht => ?_⟩
  rw [Tryz.params10] at ht
  have hm : t ∈ [22, 22] := by simpa using Array.mem_of_getElem? ht
  have hall : ([22, 22].all fun u => !Tryz.prog.wantsStandIn u) = true := by kernel_rfl
  have hm' : t ∈ [22, 22] := hm
  exact (show Tryz.prog.wantsStandIn t = false by simpa using List.all_eq_true.1 hall t hm')

theorem card : Rows.DifferAllCardSaid :=
  Claim7.holds_tied_plain_at .later [] _ _ _ _ said (fun _ h => by cases h) (by kernel_rfl) (fun _ h => by cases h) differAll_row_tie rfl ⟨rfl, rfl⟩ (by kernel_rfl) rfl plain (by kernel_rfl)
#print axioms card
end Go.Proofs.YtipajekehbpghaaGreatDoor.differAll
