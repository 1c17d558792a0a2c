/-
  The walk of PackHoles.
-/
import Derived.Test.YtipajekehbpghaaGreatDoorZm
import Derived.Test.YtipajekehbpghaaGreatDoorZk
import Derived.Test.YtipajekehbpghaaGreatDoorZf
import Derived.Test.YtipajekehbpghaaGreatDoorCards
import Derived.Test.YtipajekehbpghaaGreatDoorTie
import Derived.ProofKit
import Derived.OpenShut
import Derived.ShutString
import Derived.ChangeOld
import Derived.Below
import Derived.SizedLaws
import Derived.Deep.DeepHandedRow
import Derived.Lib.LaidTab
import Derived.SevenTiedAt
import Derived.LaidMore
set_option linter.unusedVariables false
set_option linter.unusedSimpArgs false

namespace Go.Proofs.YtipajekehbpghaaGreatDoor
open Go.RowKit Go.Maps Tre Pk

theorem own_new (g : Nat) : own g none none = [g] := rfl
theorem len_map {ps : List (Ent × Value)} {l : List Ent} (h : ps.map Prod.fst = l) : ps.length = l.length := by rw [← h, List.length_map]

set_option maxRecDepth 100000 in
set_option maxHeartbeats 8000000 in
theorem packHoles_main (v : Value) (l : List Deed) (w : World) (hD : DeedsIn w v l) (hm : ML w) :
    Calls Tryz.prog 11 #[v] w fun e w' => e = .returned (.bool true) ∧ Below w.heap.size w w' := by
  have PK := Lib.hid (packed_any w hm)
  have PL := Lib.hid (fun w' (hb : Below w.heap.size w w') => planted_any (hD.below hb) (hm.below hb))
  have HM := Lib.hid hm
  obtain ⟨X, cap, rfl, _⟩ := id hD
  clear hD hm
  go_enter Tryz.func11, Tryz.ntmps11
  go_wp2_with fail
  refine PK.out.mono ?_
  rintro e w1 ⟨rfl, h1⟩
  have B1 := Lib.hid h1
  clear h1
  go_wp2_with fail
  refine (PL.out _ B1.out).mono ?_
  rintro e w2 ⟨h2, ⟨hb, rfl⟩ | ⟨hb, g, on, of, rfl, hT, hO⟩⟩
  · have B2 := Lib.hid (thenB B1.out h2)
    clear h2
    go_wp2_with fail
    go_ret
    exact ⟨rfl, B2.out⟩
  have B2 := Lib.hid (thenB B1.out h2)
  have hl60 := bigL_len hb
  have hnx0 := plant_nx l
  have HS := Lib.hid (plant_std l)
  have HD := Lib.hid (plant_dir1 l)
  have HT := Lib.hid hT
  have HO := Lib.hid (fun b hb => Nat.le_trans B1.out.size (hO b hb))
  obtain ⟨t, ht⟩ : ∃ t, t = plant l := ⟨_, rfl⟩
  rw [← ht] at HT HS hnx0 HD
  have hnx : t.nx ≤ 60 := by omega
  clear h2 hb hT hO ht PL hnx0 PK
  have NA := Lib.hid (fun (holes : Bool) => back_twice HS.out HD.out holes)
  obtain ⟨u, _, a1, s1, _, _⟩ := NA.out true
  obtain ⟨x, _, a2, s2, _, _⟩ := NA.out false
  have LR1 := Lib.hid (list_right HS.out true)
  have LR2 := Lib.hid (list_right HS.out false)
  have hln1 := list_len t true
  have hln2 := list_len t false
  have hln3 : t.names.length ≤ 60 := by rw [names_len]; exact HS.out.cn
  have hnu := all_nx none_ (list t true)
  have hnx2 := all_nx none_ (list t false)
  have SU := Lib.hid (all_std Std.none_ (list t true))
  have SX := Lib.hid (all_std Std.none_ (list t false))
  rw [a1] at SU hnu
  rw [a2] at SX hnx2
  simp only at SU SX hnu hnx2
  have n0 : none_.nx = 0 := rfl
  have hnu2 : u.nx ≤ 8000 := by omega
  have hnx3 : x.nx ≤ 8000 := by omega
  have hl1 : (list t true).length ≤ 60 := by omega
  have hl2 : (list t false).length ≤ 60 := by omega
  have SAME := Lib.hid (Pk.Same.trans s1 (Pk.Same.symm SX.out.nd HS.out.nd s2))
  have LI1 := Lib.hid (fun w' (hb : Below w2.heap.size w2 w') => list_any (HT.out.below hb) HS.out (by omega) ((HM.out.below B2.out).below hb) true)
  have LI2 := Lib.hid (fun w' (hb : Below w2.heap.size w2 w') => list_any (HT.out.below hb) HS.out (by omega) ((HM.out.below B2.out).below hb) false)
  obtain ⟨L1, hL1⟩ : ∃ L, L = list t true := ⟨_, rfl⟩
  obtain ⟨L2, hL2⟩ : ∃ L, L = list t false := ⟨_, rfl⟩
  rw [← hL1] at LI1 a1 LR1 hl1
  rw [← hL2] at LI2 a2 LR2 hl2
  have A1 := Lib.hid a1
  have A2 := Lib.hid a2
  clear a1 a2 s1 s2 hln1 hln2 hln3 hnu hnx2 n0 hL1 hL2 NA
  obtain ⟨wa, hwa⟩ : ∃ wa, wa = w2.alloc (.cells #[.map none, .map none, .int .i64 0] 71) := ⟨_, rfl⟩
  obtain ⟨wb, hwb⟩ : ∃ wb, wb = wa.alloc (.cells #[.map none, .map none, .int .i64 0] 71) := ⟨_, rfl⟩
  have Ta := Lib.hid (show TreeAt wa w2.heap.size none none none_ by rw [hwa]; exact empty_tree w2)
  have Ba := Lib.hid (show Below w2.heap.size w2 wa by rw [hwa]; exact (Below.refl _ _).alloc (Nat.le_refl _) _)
  have hwaz : wa.heap.size = w2.heap.size + 1 := by rw [hwa]; simp
  have Tb := Lib.hid (show TreeAt wb wa.heap.size none none none_ by rw [hwb]; exact empty_tree wa)
  have Bb := Lib.hid (show Below wa.heap.size wa wb by rw [hwb]; exact (Below.refl _ _).alloc (Nat.le_refl _) _)
  have Tab := Lib.hid (Ta.out.below Bb.out)
  have B2b := Lib.hid (thenB Ba.out Bb.out)
  have HWB := Lib.hid (show wb = (w2.alloc (.cells #[.map none, .map none, .int .i64 0] 71)).alloc (.cells #[.map none, .map none, .int .i64 0] 71) by rw [hwb, hwa])
  have Tb1 : Hid (TreeAt wb (w2.heap.size + 1) none none none_) := Lib.hid (by rw [← hwaz]; exact Tb.out)
  have hbz := Tb1.out.blk.lt
  clear hwa hwb hwaz
  go_wp2_with fail
  rw [← HWB.out]
  refine (LI1.out _ B2b.out).mono ?_
  rintro e w3 ⟨v3, ps, rfl, hps, hen, h3⟩
  have B23 := Lib.hid (thenB B2b.out h3)
  have U3 := Lib.hid (Tab.out.below h3)
  have X3 := Lib.hid (Tb1.out.below h3)
  have E3 := Lib.hid hen.at_
  have hpl : ps.length ≤ 60 := by rw [len_map hps]; exact hl1
  have EO := Lib.hid (show ∀ p ∈ ps, EntOk p.1 from fun p hp => EntOk.of_right (LR1.out p.1 (by rw [← hps]; exact List.mem_map_of_mem hp)))
  have HPS := Lib.hid hps
  have hz3 := B23.out.size
  have OU := Lib.hid (show ∀ b ∈ own w2.heap.size none none, w2.heap.size ≤ b from fun b hb => by rw [own_new] at hb; rw [List.mem_singleton.1 hb]; exact Nat.le_refl _)
  clear h3 hen hps LI1 LR1
  obtain ⟨XA, xc, rfl, _⟩ := E3.out.row
  have AL1 := Lib.hid (all_any HM.out (thenB B2.out B23.out) (fun b hb => Nat.le_trans B2.out.size (OU.out b hb)) U3.out Std.none_ (by simp [none_]) _ ps E3.out (by omega) EO.out (.inr (by rw [HPS.out, A1.out])))
  rw [HPS.out, A1.out] at AL1
  go_wp2_with fail
  refine AL1.out.mono ?_
  rintro e w5 ⟨r5, rfl, hd5, n5, f5, k1, k2, k3⟩
  have B5 := Lib.hid (show Below w2.heap.size w2 w5 from B23.out.trans (k3.down OU.out hz3))
  have U5 : Hid (TreeAt w5 w2.heap.size n5 f5 u) := Lib.hid k1
  have X5 := Lib.hid (X3.out.kept k3.size (fun b hb => k3.block b (X3.out.lt b hb) (fun hm => by rw [own_new] at hb hm; rw [List.mem_singleton.1 hb] at hm; have := List.mem_singleton.1 hm; omega)))
  have O5 := Lib.hid (show ∀ b ∈ own w2.heap.size n5 f5, b = w2.heap.size ∨ w3.heap.size ≤ b from fun b hb => (k2 b hb).imp (fun h => by rw [own_new] at h; exact List.mem_singleton.1 h) id)
  have hx5 := X3.out.blk.lt
  obtain ⟨Z5, z5, rfl⟩ := hd5.form
  have h35 := k3.size
  clear k1 k2 k3 hd5 AL1
  go_wp2_with fail
  refine (LI2.out _ B5.out).mono ?_
  rintro e w6 ⟨v6, qs, rfl, hqs, hen6, h6⟩
  have B6 := Lib.hid (thenB B5.out h6)
  have U6 := Lib.hid (U5.out.below h6)
  have X6 := Lib.hid (X5.out.below h6)
  have E6 := Lib.hid hen6.at_
  have hql : qs.length ≤ 60 := by rw [len_map hqs]; exact hl2
  have EO6 := Lib.hid (show ∀ p ∈ qs, EntOk p.1 from fun p hp => EntOk.of_right (LR2.out p.1 (by rw [← hqs]; exact List.mem_map_of_mem hp)))
  have HQS := Lib.hid hqs
  have OX := Lib.hid (show ∀ b ∈ own (w2.heap.size + 1) none none, w2.heap.size ≤ b from fun b hb => by rw [own_new] at hb; rw [List.mem_singleton.1 hb]; omega)
  clear h6 hen6 hqs LI2 LR2
  obtain ⟨XB, xd, rfl, _⟩ := E6.out.row
  have AL2 := Lib.hid (all_any HM.out (thenB B2.out B6.out) (fun b hb => Nat.le_trans B2.out.size (OX.out b hb)) X6.out Std.none_ (by simp [none_]) _ qs E6.out (by omega) EO6.out (.inr (by rw [HQS.out, A2.out])))
  rw [HQS.out, A2.out] at AL2
  go_wp2_with fail
  refine AL2.out.mono ?_
  rintro e w7 ⟨r7, rfl, hd7, n7, f7, k1, k2, k3⟩
  have B7 := Lib.hid (show Below w2.heap.size w2 w7 from B6.out.trans (k3.down OX.out B6.out.size))
  have X7 : Hid (TreeAt w7 (w2.heap.size + 1) n7 f7 x) := Lib.hid k1
  have U7 := Lib.hid (U6.out.kept k3.size (fun b hb => k3.block b (U6.out.lt b hb) (fun hm => by rw [own_new] at hm; have h1 := List.mem_singleton.1 hm; have := O5.out b hb; omega)))
  obtain ⟨Z7, z7, rfl⟩ := hd7.form
  have SM := Lib.hid (same_any U7.out X7.out SU.out SX.out (by omega) (by omega) true ⟨fun _ => SAME.out, fun _ => rfl⟩)
  clear k1 k2 k3 hd7 AL2
  go_wp2_with fail
  refine SM.out.mono ?_
  rintro e w8 ⟨rfl, h8⟩
  go_wp2_with fail
  go_ret
  exact ⟨rfl, thenB (thenB B2.out B7.out) h8⟩

set_option maxRecDepth 100000 in
theorem packHoles_walk {H : Type} {enc : TypeId × Value → H} {w : World} {d : DataW H} {ps : List MemPlace} {base : Nat} (v : Value) (hok : Value.okWide Tryz.prog w .any base 22 v)
    (h : DataW.Trod enc Tryz.prog w 0 (fun _ => true) true 22 v d ps) (hz : ∀ n ∈ d.weights Tryz.prog 22, n ≤ reachBytes) (hsh : ML w) :
    Calls Tryz.prog 11 #[v] w fun e w' => e = .returned (.bool true) ∧ Below w.heap.size w w' := by
  obtain ⟨l, hl⟩ := deeds_of hok h hz
  exact packHoles_main v l w hl hsh

end Go.Proofs.YtipajekehbpghaaGreatDoor

/-
  PackHoles: the call returns true for every input, and its arguments read afterwards as before; the card.
-/
namespace Go.Proofs.YtipajekehbpghaaGreatDoor.packHoles
open Go.ChangeShapes Go.WideShapes Go.ChangeAt Go.RowKit
open Go.ChangeMaps (open_string shut_string)
set_option linter.unusedVariables false

theorem lo : laidOutB Tryz.prog = true := by kernel_rfl
theorem own : ownKnob Tryz.prog.godebug = none := by kernel_rfl

def leaf : DataW Unit → Value
  | .lit (.int k n) => .int k n
  | _ => .nilIface
def flat : DataW Unit → List Value
  | .agg ds => ds.flatMap fun | .agg es => es.map leaf | d => [leaf d]
  | d => [leaf d]
/-- a world for the witness: the settled one, the listed tables holding what they are listed with -/
noncomputable def laidWorld (os : Os) : World := { World.holding Tryz.prog os ⟨#[], #[], []⟩ with heap := ((((World.holding Tryz.prog os ⟨#[], #[], []⟩).heap.modify 2 fun | .cells _ t f => .cells (flat Go.Pinned.utf8First).toArray t f | o => o).modify 3 fun | .cells _ t f => .cells (flat Rows.laid_unicode_utf8_acceptRanges).toArray t f | o => o).modify 0 fun | .cells _ t f => .cells #[.iface 200 (.agg #[.pointer (some ⟨4, 35, none⟩)])] t f | o => o) }
theorem door_met (os : Os) (args : Array Value) : laidMetH Tryz.prog Rows.packHolesRow.laid ((laidWorld os).forCall (fun _ _ => 0) ⟨#[], args, []⟩).memory :=
  laidMetH_of_parts3 (fuel := 8) (laidMet_of_run' 8 (by kernel_rfl) (by kernel_rfl)) (by kernel_rfl) (by kernel_rfl)

set_option maxRecDepth 100000 in
theorem lifted (os : Os) (started : os.Started) (H : Type) (enc : TypeId × Value → H) :
    ReturnsInHanded {} Tryz.checked os 11 .any (fun w args => (Rows.packHolesSpec.pre enc Tryz.prog Tryz.f11 Rows.packHolesRow.domain false w args ∧ laidMetH Tryz.prog Rows.packHolesRow.laid w) ∧ sizedMet enc Tryz.prog Tryz.f11 (OpenSpec.ofChange Rows.packHolesSpec) false w args)
      (Rows.packHolesSpec.post enc Tryz.prog Tryz.f11 false true false false) := by
  refine and_shaped (C := Tryz.checked) (X := fun w _ => laidMetH Tryz.prog Rows.packHolesRow.laid w) (fun _ _ _ hh h => h.of_heap hh) own started (by kernel_rfl) Tryz.func11
    (ChangeSpec.witness_shaped (enc := enc) (C := Tryz.checked) (os := os) (X := fun w _ => laidMetH Tryz.prog Rows.packHolesRow.laid w) false (laidWorld os) #[.slice none 0 0] 8 rfl (World.shaped_of_RefB (by kernel_rfl) (by kernel_rfl)) (by kernel_rfl) (by kernel_rfl) (by kernel_rfl) (door_met os _)) ?_
  intro W base args ds gs before hval0 hW hcnd hsz0 hL hsh _
  have hval : ∀ (j : Nat) t v, Tryz.f11.params[j]? = some t → args[j]? = some v → Value.okWide Tryz.prog W .any base t v := hval0
  have hW' := hW
  obtain ⟨p, q, hA0, hV, rfl, hfz, hnd⟩ := hW
  have hA : DataW.TrodAll enc Tryz.prog W 0 (fun _ => true) true Tryz.f11.params.toList args.toList ds p := hA0
  have hsz : (DataW.weightsEach Tryz.prog (Tryz.f11.params.toList ++ Rows.packHolesSpec.plain.varTypes Tryz.prog) (ds ++ gs)).all (· ≤ reachBytes) = true := hsz0
  rw [Tryz.params11] at hA hval hsz
  obtain ⟨v0, vs0, d0, ds0, p0, q0, hargs, rfl, rfl, h0, r0⟩ := trodAll_cons hA
  obtain ⟨rfl, rfl, rfl⟩ := trodAll_nil r0
  obtain rfl : args = #[v0] := by cases args; simp_all
  obtain ⟨rfl, rfl⟩ := trodVars_none hV
  have k0 := hval 0 22 v0 rfl rfl
  have z0 : ∀ n ∈ d0.weights Tryz.prog 22, n ≤ reachBytes := fun n hn => by have := List.all_eq_true.1 hsz n (DataW.weights_mem_each (j := 0) (t := 22) rfl rfl n hn); simpa using this
  clear hA0 hval0 hsz0
  refine (packHoles_walk v0 k0 h0 z0 (ml_of_shape hsh)).mono fun e W' ⟨he, bel⟩ => ?_
  subst he
  exact ⟨_, rfl, _, _, _, [], _, [], hW', trodAll_mk1 (shut_bool Tryz.underlying4 _), (trodAll_cons_mk (Below.trod lo (by kernel_rfl) (of_decide_eq_true (by kernel_rfl)) h0 bel (fun x hx => by obtain ⟨_, hh⟩ := h0; exact DataW.trod_lt _ _ _ _ hh x hx)) trodAll_mk0), rfl, bel.frame _, fun h => by cases h⟩

theorem said : Rows.PackHolesSaid :=
  OpenClaim.holds_of_wide 11 Tryz.f11 rfl rfl rfl rfl rfl rfl rfl ⟨rfl, rfl, rfl, rfl, rfl⟩ rfl rfl rfl rfl rfl (by kernel_rfl) Tryz.func11 (by kernel_rfl)
    (of_decide_eq_true (by kernel_rfl)) (by unfold Func.isWrapper; first | (rw [if_pos (by decide +kernel)]; kernel_rfl) | (rw [if_neg (by decide +kernel)]; exact ⟨rfl, rfl⟩))
    (fun os started H enc _ => lifted os started H enc)

theorem plain (f : FuncId) (fn : Func) (hf : Tryz.pinned.checked.prog.funcNamed "revetment/revetmentkeep.PackHoles" = some f) (hfn : Tryz.pinned.checked.prog.funcs[f]? = some fn) :
    true = Tryz.pinned.checked.prog.looks [] ∧ ∀ (j : Nat) t, fn.params[j]? = some t → Tryz.pinned.checked.prog.wantsStandIn t = false := by
  obtain rfl : f = 11 := Option.some.inj ((show Tryz.prog.funcNamed "revetment/revetmentkeep.PackHoles" = some 11 by kernel_rfl).symm.trans hf) |>.symm
  obtain rfl : fn = Tryz.f11 := (Option.some.inj (Tryz.func11.symm.trans hfn)).symm
  refine ⟨by kernel_rfl, fun j t ht => ?_⟩
  rw [Tryz.params11] at ht
  have hm : t ∈ [22] := by simpa using Array.mem_of_getElem? ht
  have hall : ([22].all fun u => !Tryz.prog.wantsStandIn u) = true := by kernel_rfl
  have hm' : t ∈ [22] := hm
  exact (show Tryz.prog.wantsStandIn t = false by simpa using List.all_eq_true.1 hall t hm')

theorem card : Rows.PackHolesCardSaid :=
  Claim7.holds_tied_plain_at .later [] _ _ _ _ said (fun _ h => by cases h) (by kernel_rfl) (fun _ h => by cases h) packHoles_row_tie rfl ⟨rfl, rfl⟩ (by kernel_rfl) rfl plain (by kernel_rfl)
#print axioms card
end Go.Proofs.YtipajekehbpghaaGreatDoor.packHoles
