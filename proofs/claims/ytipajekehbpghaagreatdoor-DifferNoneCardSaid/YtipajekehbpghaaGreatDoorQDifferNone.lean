/-
  The walk of DifferNone.
-/
import Derived.Test.YtipajekehbpghaaGreatDoorZr
import Derived.Test.YtipajekehbpghaaGreatDoorZm
import Derived.Test.YtipajekehbpghaaGreatDoorZf
import Derived.Test.YtipajekehbpghaaGreatDoorCards
import Derived.Test.YtipajekehbpghaaGreatDoorTie
import Derived.ProofKit
import Derived.OpenShut
import Derived.ShutString
import Derived.ChangeOld
import Derived.Below
import Derived.SizedLaws
import Derived.Deep.DeepHandedRow
import Derived.Lib.LaidTab
import Derived.SevenTiedAt
import Derived.LaidMore
set_option linter.unusedVariables false
set_option linter.unusedSimpArgs false

namespace Go.Proofs.YtipajekehbpghaaGreatDoor
open Go.RowKit Go.Maps Tre Pk

theorem mapLen {ps : List (Ent × Value)} {l : List Ent} (h : ps.map Prod.fst = l) : ps.length = l.length := by rw [← h, List.length_map]

set_option maxRecDepth 100000 in
set_option maxHeartbeats 8000000 in
theorem differNone_main (v : Value) (l : List Deed) (holes : Bool) (w : World) (hD : DeedsIn w v l) (hm : ML w) :
    Calls Tryz.prog 8 #[v, .bool holes] w fun e w' => e = .returned (.bool true) ∧ Below w.heap.size w w' := by
  have CF := Lib.hid (comparedF_any w hm)
  have PK := Lib.hid (fun w' (hb : Below w.heap.size w w') => packed_any w' (hm.below hb))
  have PL := Lib.hid (fun w' (hb : Below w.heap.size w w') => planted_any (hD.below hb) (hm.below hb))
  have HM := Lib.hid hm
  obtain ⟨X, cap, rfl, _⟩ := id hD
  clear hD hm
  go_enter Tryz.func8, Tryz.ntmps8
  go_wp2_with fail
  refine CF.out.mono ?_
  rintro e w0 ⟨rfl, h0⟩
  have B0 := Lib.hid h0
  clear h0
  go_wp2_with fail
  refine (PK.out _ B0.out).mono ?_
  rintro e w1 ⟨rfl, h1⟩
  have B1 := Lib.hid (thenB B0.out h1)
  clear h1
  go_wp2_with fail
  refine (PL.out _ B1.out).mono ?_
  rintro e w2 ⟨h2, ⟨hb, rfl⟩ | ⟨hb, g, on, of, rfl, hT, hO⟩⟩
  · have B2 := Lib.hid (thenB B1.out h2)
    clear h2
    go_wp2_with fail
    go_ret
    exact ⟨rfl, B2.out⟩
  have B2 := Lib.hid (thenB B1.out h2)
  have hl60 := bigL_len hb
  have hnx0 := plant_nx l
  have HS := Lib.hid (plant_std l)
  have HD := Lib.hid (plant_dir1 l)
  have HT := Lib.hid hT
  obtain ⟨t, ht⟩ : ∃ t, t = plant l := ⟨_, rfl⟩
  rw [← ht] at HT HS hnx0 HD
  have hnx : t.nx ≤ 60 := by omega
  clear h2 hb hT hO ht PL hnx0 PK CF
  have NA := Lib.hid (differ_none HS.out HD.out holes)
  have LR := Lib.hid (list_right HS.out holes)
  have hln := list_len t holes
  have hln2 : t.names.length ≤ 60 := by rw [names_len]; exact HS.out.cn
  have LI := Lib.hid (list_any HT.out HS.out (by omega) (HM.out.below B2.out) holes)
  obtain ⟨L, hL⟩ : ∃ L, L = list t holes := ⟨_, rfl⟩
  rw [← hL] at NA LR hln LI
  clear hL
  go_wp2_with fail
  refine LI.out.mono ?_
  rintro e w3 ⟨v3, ps, rfl, hps, hen, h3⟩
  have B3 := Lib.hid (thenB B2.out h3)
  have T3 := Lib.hid (HT.out.below h3)
  have E3 := Lib.hid hen.at_
  have hpl : ps.length ≤ 60 := by rw [mapLen hps]; omega
  have RE := Lib.hid (show ∀ p ∈ ps, rightE p.1 = true from fun p hp => LR.out p.1 (by rw [← hps]; exact List.mem_map_of_mem hp))
  have CM := Lib.hid (differC_any (HM.out.below B3.out) T3.out HS.out (by omega) v3 ps E3.out (by omega) RE.out)
  have MO := Lib.hid (fun w' (hb : Below w3.heap.size w3 w') => moreD_any ((HM.out.below B3.out).below hb) (T3.out.below hb) HS.out v3 ps (E3.out.below hb) (by omega) (fun p hp => by have := (right_ent (RE.out p hp)).1; omega))
  rw [hps, NA.out.1] at CM
  rw [hps, NA.out.2] at MO
  obtain ⟨XA, xc, rfl, _⟩ := E3.out.row
  clear h3 hen hps LI LR NA
  go_wp2_with fail
  refine CM.out.mono ?_
  rintro e w4 ⟨v4, rfl, hv4, h4⟩
  have B4 := Lib.hid h4
  obtain ⟨X4, c4, rfl⟩ := hv4.form
  clear hv4 h4 CM
  go_wp2_with fail
  refine (MO.out _ B4.out).mono ?_
  rintro e w5 ⟨v5, rfl, hv5, h5⟩
  have B5 := Lib.hid (thenB B3.out (thenB B4.out h5))
  obtain ⟨X5, c5, rfl, _⟩ := hv5.form
  clear hv5 h5 MO
  go_wp2_with fail
  go_ret
  exact ⟨rfl, B5.out⟩

set_option maxRecDepth 100000 in
theorem differNone_walk {H : Type} {enc : TypeId × Value → H} {w : World} {d : DataW H} {ps : List MemPlace} {base : Nat} (v : Value) (hok : Value.okWide Tryz.prog w .any base 22 v)
    (h : DataW.Trod enc Tryz.prog w 0 (fun _ => true) true 22 v d ps) (hz : ∀ n ∈ d.weights Tryz.prog 22, n ≤ reachBytes) (holes : Bool) (hsh : ML w) :
    Calls Tryz.prog 8 #[v, .bool holes] w fun e w' => e = .returned (.bool true) ∧ Below w.heap.size w w' := by
  obtain ⟨l, hl⟩ := deeds_of hok h hz
  exact differNone_main v l holes w hl hsh

end Go.Proofs.YtipajekehbpghaaGreatDoor

/-
  DifferNone: the call returns true for every input, and its arguments read afterwards as before; the card.
-/
namespace Go.Proofs.YtipajekehbpghaaGreatDoor.differNone
open Go.ChangeShapes Go.WideShapes Go.ChangeAt Go.RowKit
open Go.ChangeMaps (open_string shut_string)
set_option linter.unusedVariables false

theorem lo : laidOutB Tryz.prog = true := by kernel_rfl
theorem own : ownKnob Tryz.prog.godebug = none := by kernel_rfl

def leaf : DataW Unit → Value
  | .lit (.int k n) => .int k n
  | _ => .nilIface
def flat : DataW Unit → List Value
  | .agg ds => ds.flatMap fun | .agg es => es.map leaf | d => [leaf d]
  | d => [leaf d]
/-- a world for the witness: the settled one, the listed tables holding what they are listed with -/
noncomputable def laidWorld (os : Os) : World := { World.holding Tryz.prog os ⟨#[], #[], []⟩ with heap := (((World.holding Tryz.prog os ⟨#[], #[], []⟩).heap.modify 2 fun | .cells _ t f => .cells (flat Go.Pinned.utf8First).toArray t f | o => o).modify 3 fun | .cells _ t f => .cells (flat Rows.laid_unicode_utf8_acceptRanges).toArray t f | o => o) }
theorem door_met (os : Os) (args : Array Value) : laidMetH Tryz.prog Rows.differNoneRow.laid ((laidWorld os).forCall (fun _ _ => 0) ⟨#[], args, []⟩).memory :=
  laidMetH_of_parts3 (fuel := 8) (laidMet_of_run' 8 (by kernel_rfl) (by kernel_rfl)) (by kernel_rfl) (by kernel_rfl)

set_option maxRecDepth 100000 in
theorem lifted (os : Os) (started : os.Started) (H : Type) (enc : TypeId × Value → H) :
    ReturnsInHanded {} Tryz.checked os 8 .any (fun w args => (Rows.differNoneSpec.pre enc Tryz.prog Tryz.f8 Rows.differNoneRow.domain false w args ∧ laidMetH Tryz.prog Rows.differNoneRow.laid w) ∧ sizedMet enc Tryz.prog Tryz.f8 (OpenSpec.ofChange Rows.differNoneSpec) false w args)
      (Rows.differNoneSpec.post enc Tryz.prog Tryz.f8 false true false false) := by
  refine and_shaped (C := Tryz.checked) (X := fun w _ => laidMetH Tryz.prog Rows.differNoneRow.laid w) (fun _ _ _ hh h => h.of_heap hh) own started (by kernel_rfl) Tryz.func8
    (ChangeSpec.witness_shaped (enc := enc) (C := Tryz.checked) (os := os) (X := fun w _ => laidMetH Tryz.prog Rows.differNoneRow.laid w) false (laidWorld os) #[.slice none 0 0, .bool false] 8 rfl (World.shaped_of_RefB (by kernel_rfl) (by kernel_rfl)) (by kernel_rfl) (by kernel_rfl) (by kernel_rfl) (door_met os _)) ?_
  intro W base args ds gs before hval0 hW hcnd hsz0 hL hsh _
  have hval : ∀ (j : Nat) t v, Tryz.f8.params[j]? = some t → args[j]? = some v → Value.okWide Tryz.prog W .any base t v := hval0
  have hW' := hW
  obtain ⟨p, q, hA0, hV, rfl, hfz, hnd⟩ := hW
  have hA : DataW.TrodAll enc Tryz.prog W 0 (fun _ => true) true Tryz.f8.params.toList args.toList ds p := hA0
  have hsz : (DataW.weightsEach Tryz.prog (Tryz.f8.params.toList ++ Rows.differNoneSpec.plain.varTypes Tryz.prog) (ds ++ gs)).all (· ≤ reachBytes) = true := hsz0
  rw [Tryz.params8] at hA hval hsz
  obtain ⟨v0, vs0, d0, ds0, p0, q0, hargs, rfl, rfl, h0, r0⟩ := trodAll_cons hA
  obtain ⟨v1, vs1, d1, ds1, p1, q1, rfl, rfl, rfl, h1, r1⟩ := trodAll_cons r0
  obtain ⟨rfl, rfl, rfl⟩ := trodAll_nil r1
  obtain rfl : args = #[v0, v1] := by cases args; simp_all
  obtain ⟨rfl, rfl⟩ := trodVars_none hV
  have k0 := hval 0 22 v0 rfl rfl
  obtain ⟨a1, rfl, rfl, rfl⟩ := open_bool Tryz.underlying4 (hval 1 4 v1 rfl rfl) h1
  have z0 : ∀ n ∈ d0.weights Tryz.prog 22, n ≤ reachBytes := fun n hn => by have := List.all_eq_true.1 hsz n (DataW.weights_mem_each (j := 0) (t := 22) rfl rfl n hn); simpa using this
  clear hA0 hval0 hsz0
  refine (differNone_walk v0 k0 h0 z0 a1 (ml_of_shape hsh)).mono fun e W' ⟨he, bel⟩ => ?_
  subst he
  exact ⟨_, rfl, _, _, _, [], _, [], hW', trodAll_mk1 (shut_bool Tryz.underlying4 _), (trodAll_cons_mk (Below.trod lo (by kernel_rfl) (of_decide_eq_true (by kernel_rfl)) h0 bel (fun x hx => by obtain ⟨_, hh⟩ := h0; exact DataW.trod_lt _ _ _ _ hh x hx)) (trodAll_cons_mk (shut_bool Tryz.underlying4 a1) trodAll_mk0)), rfl, bel.frame _, fun h => by cases h⟩

theorem said : Rows.DifferNoneSaid :=
  OpenClaim.holds_of_wide 8 Tryz.f8 rfl rfl rfl rfl rfl rfl rfl ⟨rfl, rfl, rfl, rfl, rfl⟩ rfl rfl rfl rfl rfl (by kernel_rfl) Tryz.func8 (by kernel_rfl)
    (of_decide_eq_true (by kernel_rfl)) (by unfold Func.isWrapper; first | (rw [if_pos (by decide +kernel)]; kernel_rfl) | (rw [if_neg (by decide +kernel)]; exact ⟨rfl, rfl⟩))
    (fun os started H enc _ => lifted os started H enc)

theorem plain (f : FuncId) (fn : Func) (hf : Tryz.pinned.checked.prog.funcNamed "revetment/revetmentkeep.DifferNone" = some f) (hfn : Tryz.pinned.checked.prog.funcs[f]? = some fn) :
    true = Tryz.pinned.checked.prog.looks [] ∧ ∀ (j : Nat) t, fn.params[j]? = some t → Tryz.pinned.checked.prog.wantsStandIn t = false := by
  obtain rfl : f = 8 := Option.some.inj ((show Tryz.prog.funcNamed "revetment/revetmentkeep.DifferNone" = some 8 by kernel_rfl).symm.trans hf) |>.symm
  obtain rfl : fn = Tryz.f8 := (Option.some.inj (Tryz.func8.symm.trans hfn)).symm
  refine ⟨by kernel_rfl, fun j t ht => ?_⟩
  rw [Tryz.params8] at ht
  have hm : t ∈ [22, 4] := by simpa using Array.mem_of_getElem? ht
  have hall : ([22, 4].all fun u => !Tryz.prog.wantsStandIn u) = true := by kernel_rfl
  have hm' : t ∈ [22, 4] := hm
  exact (show Tryz.prog.wantsStandIn t = false by simpa using List.all_eq_true.1 hall t hm')

theorem card : Rows.DifferNoneCardSaid :=
  Claim7.holds_tied_plain_at .later [] _ _ _ _ said (fun _ h => by cases h) (by kernel_rfl) (fun _ h => by cases h) differNone_row_tie rfl ⟨rfl, rfl⟩ (by kernel_rfl) rfl plain (by kernel_rfl)
#print axioms card
end Go.Proofs.YtipajekehbpghaaGreatDoor.differNone
