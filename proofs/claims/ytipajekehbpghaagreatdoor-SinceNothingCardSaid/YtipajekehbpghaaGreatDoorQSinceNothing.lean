/-
  The walk of SinceNothing.
-/
import Derived.Test.YtipajekehbpghaaGreatDoorZx
import Derived.Test.YtipajekehbpghaaGreatDoorZw
import Derived.Test.YtipajekehbpghaaGreatDoorZm
import Derived.Test.YtipajekehbpghaaGreatDoorZf
import Derived.Test.YtipajekehbpghaaGreatDoorCards
import Derived.Test.YtipajekehbpghaaGreatDoorTie
import Derived.ProofKit
import Derived.OpenShut
import Derived.ShutString
import Derived.ChangeOld
import Derived.Below
import Derived.SizedLaws
import Derived.Deep.DeepHandedRow
import Derived.Lib.LaidTab
import Derived.SevenTiedAt
import Derived.LaidMore
set_option linter.unusedVariables false
set_option linter.unusedSimpArgs false

namespace Go.Proofs.YtipajekehbpghaaGreatDoor
open Go.RowKit Go.Maps Tre Pk

theorem mapLen5 {ps : List (Ent × Value)} {l : List Ent} (h : ps.map Prod.fst = l) : ps.length = l.length := by rw [← h, List.length_map]

set_option maxRecDepth 100000 in
set_option maxHeartbeats 8000000 in
theorem sinceNothing_main (v : Value) (l : List Deed) (holes : Bool) (w : World) (hD : DeedsIn w v l) (hm : ML w) :
    Calls Tryz.prog 7 #[v, .bool holes] w fun e w' => e = .returned (.bool true) ∧ Below w.heap.size w w' := by
  have CF := Lib.hid (changedF_any w hm)
  have PK := Lib.hid (fun w' (hb : Below w.heap.size w w') => packed_any w' (hm.below hb))
  have PL := Lib.hid (fun w' (hb : Below w.heap.size w w') => planted_any (hD.below hb) (hm.below hb))
  have HM := Lib.hid hm
  obtain ⟨X, cap, rfl, _⟩ := id hD
  clear hD hm
  go_enter Tryz.func7, Tryz.ntmps7
  go_wp2_with fail
  refine CF.out.mono ?_
  rintro e w0 ⟨rfl, h0⟩
  have B0 := Lib.hid h0
  clear h0
  go_wp2_with fail
  refine (PK.out _ B0.out).mono ?_
  rintro e w1 ⟨rfl, h1⟩
  have B1 := Lib.hid (thenB B0.out h1)
  clear h1
  go_wp2_with fail
  refine (PL.out _ B1.out).mono ?_
  rintro e w2 ⟨h2, ⟨hb, rfl⟩ | ⟨hb, g, on, of, rfl, hT, _⟩⟩
  · have B2 := Lib.hid (thenB B1.out h2)
    clear h2
    go_wp2_with fail
    go_ret
    exact ⟨rfl, B2.out⟩
  have B2 := Lib.hid (thenB B1.out h2)
  have hl60 := bigL_len hb
  have hnx0 := plant_nx l
  have HS := Lib.hid (plant_std l)
  obtain ⟨t, ht⟩ : ∃ t, t = plant l := ⟨_, rfl⟩
  rw [← ht] at hT HS hnx0
  have hnx : t.nx ≤ 60 := by omega
  obtain ⟨wa, hwa⟩ : ∃ wa, wa = w2.alloc (.cells #[.map none, .map none, .int .i64 0] 71) := ⟨_, rfl⟩
  have h2a : Below w2.heap.size w2 wa := by rw [hwa]; exact (Below.refl _ _).alloc (Nat.le_refl _) _
  have Ba := Lib.hid (thenB B2.out h2a)
  have Ta := Lib.hid (hT.below h2a)
  have Ua := Lib.hid (show TreeAt wa w2.heap.size none none none_ by rw [hwa]; exact empty_tree w2)
  have HWA := Lib.hid hwa
  clear h2 hb hT ht PL hnx0 PK CF h2a hwa
  have LR := Lib.hid (list_right HS.out holes)
  have hln := list_len t holes
  have hln2 : t.names.length ≤ 60 := by rw [names_len]; exact HS.out.cn
  have NM := Lib.hid (names_any Ta.out HS.out (HM.out.below Ba.out))
  have C1 := Lib.hid (fun w' (hb : Below wa.heap.size wa w') => changedN_any ((HM.out.below Ba.out).below hb) (Ua.out.below hb) (Ta.out.below hb) Std.none_ HS.out (by omega) holes (fun e _ => rfl) (fun e he => by have := (right_ent (LR.out e he)).1; omega))
  have LI := Lib.hid (fun w' (hb : Below wa.heap.size wa w') => list_any (Ta.out.below hb) HS.out (by omega) ((HM.out.below Ba.out).below hb) holes)
  have G1 := Lib.hid (fun w' (hb : Below wa.heap.size wa w') => goneN_any ((HM.out.below Ba.out).below hb) (Ua.out.below hb) (Ta.out.below hb) Std.none_ HS.out (fun s hs => by rw [names_none] at hs; cases hs))
  rw [names_none] at G1
  have G2 := Lib.hid (fun w' (hb : Below wa.heap.size wa w') => goneN_any ((HM.out.below Ba.out).below hb) (Ta.out.below hb) (Ua.out.below hb) HS.out Std.none_ (fun s _ => links_nil rfl s))
  have C2 := Lib.hid (fun w' (hb : Below wa.heap.size wa w') => changedN_any ((HM.out.below Ba.out).below hb) (Ta.out.below hb) (Ua.out.below hb) HS.out Std.none_ (by show 0 ≤ 100000; omega) holes (fun e he => by rw [list_none] at he; cases he) (fun e he => by rw [list_none] at he; cases he))
  rw [list_none] at C2
  obtain ⟨N, hN⟩ : ∃ N, N = t.names := ⟨_, rfl⟩
  rw [← hN] at NM G2 hln hln2
  obtain ⟨L, hL⟩ : ∃ L, L = list t holes := ⟨_, rfl⟩
  rw [← hL] at C1 LI LR hln
  clear hN hL
  go_wp2_with fail
  rw [← HWA.out]
  clear HWA
  go_wp2_with fail
  refine NM.out.mono ?_
  rintro e w3 ⟨v3, rfl, hv3, h3⟩
  have B3 := Lib.hid h3
  have RV := Lib.hid (reverse_any hv3 (by omega))
  obtain ⟨YA, yc, rfl, _⟩ := hv3.form
  clear hv3 h3 NM
  go_wp2_with fail
  refine RV.out.mono ?_
  rintro e w4 ⟨rfl, hv4, h4⟩
  have B4 := Lib.hid (show Below wa.heap.size wa w4 from B3.out.trans h4)
  have V4 := Lib.hid hv4
  clear hv4 h4 RV
  go_wp2_with fail
  refine (C1.out _ B4.out).mono ?_
  rintro e w5 ⟨v5, ps, rfl, hps, hen, h5⟩
  have B5 := Lib.hid (thenB B4.out h5)
  have V5 := Lib.hid (hasS_later V4.out h5)
  have E5 := Lib.hid hen.at_
  have HPS := Lib.hid hps
  have hpl : ps.length ≤ 60 := by rw [mapLen5 hps]; omega
  obtain ⟨XA, xc, rfl, _⟩ := E5.out.row
  clear h5 hen hps C1 V4
  go_wp2_with fail
  refine (LI.out _ B5.out).mono ?_
  rintro e w6 ⟨v6, qs, rfl, hqs, hen, h6⟩
  have B6 := Lib.hid (thenB B5.out h6)
  have V6 := Lib.hid (hasS_later V5.out h6)
  have E6 := Lib.hid (E5.out.below h6)
  have F6 := Lib.hid hen.at_
  have AL := Lib.hid (allE_any E6.out F6.out (by rw [HPS.out, hqs]) (by omega) (fun p hp => by
    have hin : p.1 ∈ L := by rw [← HPS.out]; exact List.mem_map_of_mem hp
    have := (filled_data (right_ent (LR.out _ hin)).2.2.2).2
    omega))
  obtain ⟨XB, xd, rfl, _⟩ := F6.out.row
  clear h6 hen hqs LI V5
  go_wp2_with fail
  refine AL.out.mono ?_
  rintro e w7 ⟨rfl, h7⟩
  have B7 := Lib.hid (thenB B6.out h7)
  have V7 := Lib.hid (hasS_later V6.out h7)
  clear h7 AL V6
  go_wp2_with fail
  refine (G1.out _ B7.out).mono ?_
  rintro e w8 ⟨v8, rfl, hv8, h8⟩
  have B8 := Lib.hid (thenB B7.out h8)
  have V8 := Lib.hid (hasS_later V7.out h8)
  obtain ⟨X8, c8, rfl, _⟩ := hv8
  clear h8 G1 V7
  go_wp2_with fail
  refine (G2.out _ B8.out).mono ?_
  rintro e w9 ⟨v9, rfl, hv9, h9⟩
  have B9 := Lib.hid (thenB B8.out h9)
  have V9 := Lib.hid (hasS_later V8.out h9)
  have EQ := Lib.hid (eq_any hv9 V9.out (by rw [List.length_reverse]; omega) (by rw [List.length_reverse]; omega))
  obtain ⟨X9, c9, rfl, _⟩ := hv9
  clear h9 G2 V8
  rw [List.length_reverse] at EQ ⊢
  go_wp2_with fail
  refine EQ.out.mono ?_
  rintro e wx ⟨rfl, hx⟩
  have Bx := Lib.hid (thenB B9.out hx)
  rw [decide_eq_true (show True from trivial)]
  clear hx EQ
  go_wp2_with fail
  refine (C2.out _ Bx.out).mono ?_
  rintro e wy ⟨vy, qy, rfl, hqy, hen, hy⟩
  have By := Lib.hid (thenB Ba.out (thenB Bx.out hy))
  have hq0 : qy = [] := by simpa using hqy
  have EY := hen.at_
  subst hq0
  obtain ⟨Xy, cy, rfl, _⟩ := EY.row
  clear hy hen hqy C2 EY
  go_wp2_with fail
  go_ret
  exact ⟨rfl, By.out⟩

set_option maxRecDepth 100000 in
theorem sinceNothing_walk {H : Type} {enc : TypeId × Value → H} {w : World} {d : DataW H} {ps : List MemPlace} {base : Nat} (v : Value) (hok : Value.okWide Tryz.prog w .any base 22 v)
    (h : DataW.Trod enc Tryz.prog w 0 (fun _ => true) true 22 v d ps) (hz : ∀ n ∈ d.weights Tryz.prog 22, n ≤ reachBytes) (holes : Bool) (hsh : ML w) :
    Calls Tryz.prog 7 #[v, .bool holes] w fun e w' => e = .returned (.bool true) ∧ Below w.heap.size w w' := by
  obtain ⟨l, hl⟩ := deeds_of hok h hz
  exact sinceNothing_main v l holes w hl hsh

end Go.Proofs.YtipajekehbpghaaGreatDoor

/-
  SinceNothing: the call returns true for every input, and its arguments read afterwards as before; the card.
-/
namespace Go.Proofs.YtipajekehbpghaaGreatDoor.sinceNothing
open Go.ChangeShapes Go.WideShapes Go.ChangeAt Go.RowKit
open Go.ChangeMaps (open_string shut_string)
set_option linter.unusedVariables false

theorem lo : laidOutB Tryz.prog = true := by kernel_rfl
theorem own : ownKnob Tryz.prog.godebug = none := by kernel_rfl

def leaf : DataW Unit → Value
  | .lit (.int k n) => .int k n
  | _ => .nilIface
def flat : DataW Unit → List Value
  | .agg ds => ds.flatMap fun | .agg es => es.map leaf | d => [leaf d]
  | d => [leaf d]
/-- a world for the witness: the settled one, the listed tables holding what they are listed with -/
noncomputable def laidWorld (os : Os) : World := { World.holding Tryz.prog os ⟨#[], #[], []⟩ with heap := (((World.holding Tryz.prog os ⟨#[], #[], []⟩).heap.modify 2 fun | .cells _ t f => .cells (flat Go.Pinned.utf8First).toArray t f | o => o).modify 3 fun | .cells _ t f => .cells (flat Rows.laid_unicode_utf8_acceptRanges).toArray t f | o => o) }
theorem door_met (os : Os) (args : Array Value) : laidMetH Tryz.prog Rows.sinceNothingRow.laid ((laidWorld os).forCall (fun _ _ => 0) ⟨#[], args, []⟩).memory :=
  laidMetH_of_parts3 (fuel := 8) (laidMet_of_run' 8 (by kernel_rfl) (by kernel_rfl)) (by kernel_rfl) (by kernel_rfl)

set_option maxRecDepth 100000 in
theorem lifted (os : Os) (started : os.Started) (H : Type) (enc : TypeId × Value → H) :
    ReturnsInHanded {} Tryz.checked os 7 .any (fun w args => (Rows.sinceNothingSpec.pre enc Tryz.prog Tryz.f7 Rows.sinceNothingRow.domain false w args ∧ laidMetH Tryz.prog Rows.sinceNothingRow.laid w) ∧ sizedMet enc Tryz.prog Tryz.f7 (OpenSpec.ofChange Rows.sinceNothingSpec) false w args)
      (Rows.sinceNothingSpec.post enc Tryz.prog Tryz.f7 false true false false) := by
  refine and_shaped (C := Tryz.checked) (X := fun w _ => laidMetH Tryz.prog Rows.sinceNothingRow.laid w) (fun _ _ _ hh h => h.of_heap hh) own started (by kernel_rfl) Tryz.func7
    (ChangeSpec.witness_shaped (enc := enc) (C := Tryz.checked) (os := os) (X := fun w _ => laidMetH Tryz.prog Rows.sinceNothingRow.laid w) false (laidWorld os) #[.slice none 0 0, .bool false] 8 rfl (World.shaped_of_RefB (by kernel_rfl) (by kernel_rfl)) (by kernel_rfl) (by kernel_rfl) (by kernel_rfl) (door_met os _)) ?_
  intro W base args ds gs before hval0 hW hcnd hsz0 hL hsh _
  have hval : ∀ (j : Nat) t v, Tryz.f7.params[j]? = some t → args[j]? = some v → Value.okWide Tryz.prog W .any base t v := hval0
  have hW' := hW
  obtain ⟨p, q, hA0, hV, rfl, hfz, hnd⟩ := hW
  have hA : DataW.TrodAll enc Tryz.prog W 0 (fun _ => true) true Tryz.f7.params.toList args.toList ds p := hA0
  have hsz : (DataW.weightsEach Tryz.prog (Tryz.f7.params.toList ++ Rows.sinceNothingSpec.plain.varTypes Tryz.prog) (ds ++ gs)).all (· ≤ reachBytes) = true := hsz0
  rw [Tryz.params7] at hA hval hsz
  obtain ⟨v0, vs0, d0, ds0, p0, q0, hargs, rfl, rfl, h0, r0⟩ := trodAll_cons hA
  obtain ⟨v1, vs1, d1, ds1, p1, q1, rfl, rfl, rfl, h1, r1⟩ := trodAll_cons r0
  obtain ⟨rfl, rfl, rfl⟩ := trodAll_nil r1
  obtain rfl : args = #[v0, v1] := by cases args; simp_all
  obtain ⟨rfl, rfl⟩ := trodVars_none hV
  have k0 := hval 0 22 v0 rfl rfl
  obtain ⟨a1, rfl, rfl, rfl⟩ := open_bool Tryz.underlying4 (hval 1 4 v1 rfl rfl) h1
  have z0 : ∀ n ∈ d0.weights Tryz.prog 22, n ≤ reachBytes := fun n hn => by have := List.all_eq_true.1 hsz n (DataW.weights_mem_each (j := 0) (t := 22) rfl rfl n hn); simpa using this
  clear hA0 hval0 hsz0
  refine (sinceNothing_walk v0 k0 h0 z0 a1 (ml_of_shape hsh)).mono fun e W' ⟨he, bel⟩ => ?_
  subst he
  exact ⟨_, rfl, _, _, _, [], _, [], hW', trodAll_mk1 (shut_bool Tryz.underlying4 _), (trodAll_cons_mk (Below.trod lo (by kernel_rfl) (of_decide_eq_true (by kernel_rfl)) h0 bel (fun x hx => by obtain ⟨_, hh⟩ := h0; exact DataW.trod_lt _ _ _ _ hh x hx)) (trodAll_cons_mk (shut_bool Tryz.underlying4 a1) trodAll_mk0)), rfl, bel.frame _, fun h => by cases h⟩

theorem said : Rows.SinceNothingSaid :=
  OpenClaim.holds_of_wide 7 Tryz.f7 rfl rfl rfl rfl rfl rfl rfl ⟨rfl, rfl, rfl, rfl, rfl⟩ rfl rfl rfl rfl rfl (by kernel_rfl) Tryz.func7 (by kernel_rfl)
    (of_decide_eq_true (by kernel_rfl)) (by unfold Func.isWrapper; first | (rw [if_pos (by decide +kernel)]; kernel_rfl) | (rw [if_neg (by decide +kernel)]; exact ⟨rfl, rfl⟩))
    (fun os started H enc _ => lifted os started H enc)

theorem plain (f : FuncId) (fn : Func) (hf : Tryz.pinned.checked.prog.funcNamed "revetment/revetmentkeep.SinceNothing" = some f) (hfn : Tryz.pinned.checked.prog.funcs[f]? = some fn) :
    true = Tryz.pinned.checked.prog.looks [] ∧ ∀ (j : Nat) t, fn.params[j]? = some t → Tryz.pinned.checked.prog.wantsStandIn t = false := by
  obtain rfl : f = 7 := Option.some.inj ((show Tryz.prog.funcNamed "revetment/revetmentkeep.SinceNothing" = some 7 by kernel_rfl).symm.trans hf) |>.symm
  obtain rfl : fn = Tryz.f7 := (Option.some.inj (Tryz.func7.symm.trans hfn)).symm
  refine ⟨by kernel_rfl, fun j t ht => ?_⟩
  rw [Tryz.params7] at ht
  have hm : t ∈ [22, 4] := by simpa using Array.mem_of_getElem? ht
  have hall : ([22, 4].all fun u => !Tryz.prog.wantsStandIn u) = true := by kernel_rfl
  have hm' : t ∈ [22, 4] := hm
  exact (show Tryz.prog.wantsStandIn t = false by simpa using List.all_eq_true.1 hall t hm')

theorem card : Rows.SinceNothingCardSaid :=
  Claim7.holds_tied_plain_at .later [] _ _ _ _ said (fun _ h => by cases h) (by kernel_rfl) (fun _ h => by cases h) sinceNothing_row_tie rfl ⟨rfl, rfl⟩ (by kernel_rfl) rfl plain (by kernel_rfl)
#print axioms card
end Go.Proofs.YtipajekehbpghaaGreatDoor.sinceNothing
