/-
  Copy: a tree of its own with the same contents.
-/
import Derived.Test.YtehooifcgfkngaaDoorTreeR
import Derived.Test.YtehooifcgfkngaaDoorCloneLay
import Derived.Shelf.SlMaps.Clone
import Derived.Deep.RegionHeld3
import Derived.BigRegion
namespace Go.Proofs.YtehooifcgfkngaaDoor
open Go.RowKit Go.Maps Tre Go.Shelf

theorem clone_any {ρ : Ren} (L : SlLaysW.n5 Tryd.prog ρ) {K : TypeId} {o : Option Nat} {f : Lit → Option Value} {n : Nat} (w : World) (h : MapO w Tryd.prog K o f n) :
    Calls Tryd.prog (ρ.f 5) #[.map o] w fun e w' => ∃ o', e = .returned (.map o') ∧ MapO w' Tryd.prog K o' f n ∧ (∀ b, o' = some b → w.heap.size ≤ b) ∧ (o' = none ↔ o = none) ∧ Below w.heap.size w w' := by
  cases o with
  | none =>
    refine (AnyW.maps_Clone_nil L w).mono fun e w' ⟨he, hw⟩ => ?_
    subst hw
    exact ⟨none, he, h, fun b hb => (by cases hb), Iff.rfl, Below.refl _ _⟩
  | some b =>
    obtain ⟨D, hown, hs, hf⟩ := h
    refine (AnyW.maps_Clone_owns L K rawE b n D w hown).mono fun e w' ⟨he, h1, _, h3⟩ => ?_
    exact ⟨some w.heap.size, he, ⟨D, h1, hs, hf⟩, fun b hb => (by cases hb; exact Nat.le_refl _), by simp, h3⟩

/-- A new tree block over the maps of a copy. -/
theorem copied {w wn wf W : World} {g : Nat} {on of o1 o2 : Option Nat} {t : T} (h : TreeAt w g on of t) {nf : Nat} (hnf : nf ≤ t.nx)
    (N : MapO wn Tryd.prog 9 o1 (namesF t.ents) t.ents.length) (F : MapO wf Tryd.prog 3 o2 (filesF t.fl) nf)
    (hN : Below wn.heap.size wn W) (hF : Below wf.heap.size wf W) (h1 : o1 = none ↔ on = none) (h2 : o2 = none ↔ of = none) (hd : ∀ b, o1 = some b → o2 ≠ some b) :
    TreeAt (W.alloc (.cells #[.map o1, .map o2, .int .i64 t.nx] 58)) W.heap.size o1 o2 t := by
  have hb : Below W.heap.size W (W.alloc (.cells #[.map o1, .map o2, .int .i64 t.nx] 58)) := (Below.refl _ _).alloc (Nat.le_refl _) _
  have hN' := thenB hN hb
  have hF' := thenB hF hb
  exact ⟨Blk.new W 58 _, N.kept hN'.size (fun b e => hN'.block b (N.lt b e)), ⟨nf, F.kept hF'.size (fun b e => hF'.block b (F.lt b e)), hnf⟩, by rw [h1, h2]; exact h.both, hd⟩

theorem below_allocB {a w : World} (h : Below a.heap.size a w) (o : Obj) : Below a.heap.size a (w.alloc o) := h.alloc h.size o
theorem keepT {w w' : World} {g : Nat} {cs : Array Value} {a b c : Value} (hb : Blk w g 58 cs) (h0 : cs[0]? = some a) (h1 : cs[1]? = some b) (h2 : cs[2]? = some c) (h : Below w.heap.size w w') :
    w'.cell? ⟨g, 0, none⟩ = some a ∧ w'.cell? ⟨g, 1, none⟩ = some b ∧ w'.cell? ⟨g, 2, none⟩ = some c ∧ Below w.heap.size w w' := by
  have k := hb.below h hb.lt
  exact ⟨(k.cell 0).trans h0, (k.cell 1).trans h1, (k.cell 2).trans h2, h⟩

set_option maxRecDepth 100000 in
set_option maxHeartbeats 8000000 in
theorem copy_any {w : World} {g : Nat} {on of : Option Nat} {t : T} (h : TreeAt w g on of t) :
    Calls Tryd.prog 18 #[.pointer (some ⟨g, 0, none⟩)] w fun e w' => ∃ g' o1 o2, e = .returned (.pointer (some ⟨g', 0, none⟩)) ∧ TreeAt w' g' o1 o2 t ∧ (∀ b ∈ own g' o1 o2, w.heap.size ≤ b) ∧ Below w.heap.size w w' := by
  have hg := h.blk.lt
  have c0 := h.blk.cell 0
  have c1 := h.blk.cell 1
  have c2 := h.blk.cell 2
  simp only [List.getElem?_toArray, List.getElem?_cons_zero, List.getElem?_cons_succ] at c0 c1 c2
  obtain ⟨nf, hf, hnf⟩ := h.fl
  have HB := Lib.hid h.blk
  have HT := Lib.hid h
  have CN := Lib.hid (fun w' (hb : Below w.heap.size w w') => clone_any Tryd.maps_CloneN w' (h.nm.kept hb.size fun b e => hb.block b (h.nm.lt b e)))
  have CF := Lib.hid (fun w' (hb : Below w.heap.size w w') => clone_any Tryd.maps_CloneF w' (hf.kept hb.size fun b e => hb.block b (hf.lt b e)))
  have HW : Below w.heap.size w w := Below.refl _ _
  clear hf
  go_enter Tryd.func18, Tryd.ntmps18
  go_wp2_with fail
  refine (of_any g w HB.out).mono ?_
  rintro e w' ⟨rfl, hw⟩
  subst w'
  go_wp2_with fail
  go_region_held3 (fun w' => w'.cell? ⟨g, 0, none⟩ = some (.map on) ∧ w'.cell? ⟨g, 1, none⟩ = some (.map of) ∧ w'.cell? ⟨g, 2, none⟩ = some (.int .i64 t.nx) ∧ Below w.heap.size w w')
    (first | (refine keepT HB.out rfl rfl rfl ?_; (repeat' (first
      | with_reducible assumption
      | with_reducible refine Below.drew ?_
      | with_reducible refine below_allocB ?_ _)); done))
    (first
      | (go_at_call 35; go_split_ands; refine (CN.out _ (by with_reducible assumption)).mono ?_; rintro e wn ⟨o1, rfl, hn, hfn, hin, tn⟩; have NB : Below w.heap.size w wn := (by with_reducible exact thenB (by assumption) tn); have N1 := Lib.hid hn; have N2 := Lib.hid hfn; have N3 := Lib.hid hin; have N4 := Lib.hid tn; clear hn hfn hin tn)
      | (go_at_call 36; go_split_ands; refine (CF.out _ (by with_reducible assumption)).mono ?_; rintro e wf ⟨o2, rfl, hn, hfn, hin, tn⟩; have FB : Below w.heap.size w wf := (by with_reducible exact thenB (by assumption) tn); have F1 := Lib.hid hn; have F2 := Lib.hid hfn; have F3 := Lib.hid hin; have F4 := Lib.hid tn; clear hn hfn hin tn)
      | fail)
  all_goals go_wp2_with fail
  all_goals go_ret
  all_goals refine ⟨_, o1, o2, rfl, copied HT.out hnf N1.out F1.out F4.out (Below.refl _ _) N3.out F3.out (fun b e e' => Nat.lt_irrefl _ (Nat.lt_of_lt_of_le (N1.out.lt b e) (F2.out b e'))), fun b hb => ?_, FB.alloc FB.size _⟩
  all_goals
    rcases List.mem_cons.1 hb with rfl | hb
    · exact FB.size
    · rcases List.mem_append.1 hb with hb | hb
      · exact N2.out b (by simpa [eq_comm] using hb)
      · exact Nat.le_trans NB.size (F2.out b (by simpa [eq_comm] using hb))

end Go.Proofs.YtehooifcgfkngaaDoor
