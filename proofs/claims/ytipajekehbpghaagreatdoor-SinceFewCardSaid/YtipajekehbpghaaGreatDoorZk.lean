/-
  Copy: a tree of its own with the same contents.
-/
import Derived.Test.YtipajekehbpghaaGreatDoorZf
import Derived.Test.YtipajekehbpghaaGreatDoorZs
import Derived.Shelf.SlMaps.Clone
import Derived.Deep.RegionHeld3
import Derived.BigRegion
import Derived.Test.YtipajekehbpghaaGreatDoorZb
import Derived.Carry
set_option linter.unusedVariables false
set_option linter.unusedSimpArgs false

namespace Go.Proofs.YtipajekehbpghaaGreatDoor
open Go.RowKit Go.Maps Tre Go.Shelf

theorem clone_any {ρ : Ren} (L : SlLaysW.n5 Tryz.prog ρ) {K : TypeId} {o : Option Nat} {f : Lit → Option Value} {n : Nat} (w : World) (h : MapO w Tryz.prog K o f n) :
    Calls Tryz.prog (ρ.f 5) #[.map o] w fun e w' => ∃ o', e = .returned (.map o') ∧ MapO w' Tryz.prog K o' f n ∧ (∀ b, o' = some b → w.heap.size ≤ b) ∧ (o' = none ↔ o = none) ∧ Below w.heap.size w w' := by
  cases o with
  | none =>
    refine (AnyW.maps_Clone_nil L w).mono fun e w' ⟨he, hw⟩ => ?_
    subst hw
    exact ⟨none, he, h, fun b hb => (by cases hb), Iff.rfl, Below.refl _ _⟩
  | some b =>
    obtain ⟨D, hown, hs, hf⟩ := h
    refine (AnyW.maps_Clone_owns L K rawE b n D w hown).mono fun e w' ⟨he, h1, _, h3⟩ => ?_
    exact ⟨some w.heap.size, he, ⟨D, h1, hs, hf⟩, fun b hb => (by cases hb; exact Nat.le_refl _), by simp, h3⟩

/-- A new tree block over the maps of a copy. -/
theorem copied {w wn wf W : World} {g : Nat} {on of o1 o2 : Option Nat} {t : T} (h : TreeAt w g on of t) {nf : Nat} (hnf : nf ≤ t.nx)
    (N : MapO wn Tryz.prog 9 o1 (namesF t.ents) t.ents.length) (F : MapO wf Tryz.prog 3 o2 (filesF t.fl) nf)
    (hN : Below wn.heap.size wn W) (hF : Below wf.heap.size wf W) (h1 : o1 = none ↔ on = none) (h2 : o2 = none ↔ of = none) (hd : ∀ b, o1 = some b → o2 ≠ some b) :
    TreeAt (W.alloc (.cells #[.map o1, .map o2, .int .i64 t.nx] 71)) W.heap.size o1 o2 t := by
  have hb : Below W.heap.size W (W.alloc (.cells #[.map o1, .map o2, .int .i64 t.nx] 71)) := (Below.refl _ _).alloc (Nat.le_refl _) _
  have hN' := thenB hN hb
  have hF' := thenB hF hb
  exact ⟨Blk.new W 71 _, N.kept hN'.size (fun b e => hN'.block b (N.lt b e)), ⟨nf, F.kept hF'.size (fun b e => hF'.block b (F.lt b e)), hnf⟩, by rw [h1, h2]; exact h.both, hd⟩

theorem below_allocB {a w : World} (h : Below a.heap.size a w) (o : Obj) : Below a.heap.size a (w.alloc o) := h.alloc h.size o
theorem keepT {w w' : World} {g : Nat} {cs : Array Value} {a b c : Value} (hb : Blk w g 71 cs) (h0 : cs[0]? = some a) (h1 : cs[1]? = some b) (h2 : cs[2]? = some c) (h : Below w.heap.size w w') :
    w'.cell? ⟨g, 0, none⟩ = some a ∧ w'.cell? ⟨g, 1, none⟩ = some b ∧ w'.cell? ⟨g, 2, none⟩ = some c ∧ Below w.heap.size w w' := by
  have k := hb.below h hb.lt
  exact ⟨(k.cell 0).trans h0, (k.cell 1).trans h1, (k.cell 2).trans h2, h⟩

set_option maxRecDepth 100000 in
set_option maxHeartbeats 8000000 in
theorem copy_any {w : World} {g : Nat} {on of : Option Nat} {t : T} (h : TreeAt w g on of t) :
    Calls Tryz.prog 23 #[.pointer (some ⟨g, 0, none⟩)] w fun e w' => ∃ g' o1 o2, e = .returned (.pointer (some ⟨g', 0, none⟩)) ∧ TreeAt w' g' o1 o2 t ∧ (∀ b ∈ own g' o1 o2, w.heap.size ≤ b) ∧ Below w.heap.size w w' := by
  have hg := h.blk.lt
  have c0 := h.blk.cell 0
  have c1 := h.blk.cell 1
  have c2 := h.blk.cell 2
  simp only [List.getElem?_toArray, List.getElem?_cons_zero, List.getElem?_cons_succ] at c0 c1 c2
  obtain ⟨nf, hf, hnf⟩ := h.fl
  have HB := Lib.hid h.blk
  have HT := Lib.hid h
  have CN := Lib.hid (fun w' (hb : Below w.heap.size w w') => clone_any Tryz.maps_CloneN w' (h.nm.kept hb.size fun b e => hb.block b (h.nm.lt b e)))
  have CF := Lib.hid (fun w' (hb : Below w.heap.size w w') => clone_any Tryz.maps_CloneF w' (hf.kept hb.size fun b e => hb.block b (hf.lt b e)))
  have HW : Below w.heap.size w w := Below.refl _ _
  clear hf
  go_enter Tryz.func23, Tryz.ntmps23
  go_wp2_with fail
  refine (of_any g w HB.out).mono ?_
  rintro e w' ⟨rfl, hw⟩
  subst w'
  go_wp2_with fail
  go_region_held3 (fun w' => w'.cell? ⟨g, 0, none⟩ = some (.map on) ∧ w'.cell? ⟨g, 1, none⟩ = some (.map of) ∧ w'.cell? ⟨g, 2, none⟩ = some (.int .i64 t.nx) ∧ Below w.heap.size w w')
    (first | (refine keepT HB.out rfl rfl rfl ?_; (repeat' (first
      | with_reducible assumption
      | with_reducible refine Below.drew ?_
      | with_reducible refine below_allocB ?_ _)); done))
    (first
      | (go_at_call 65; go_split_ands; refine (CN.out _ (by with_reducible assumption)).mono ?_; rintro e wn ⟨o1, rfl, hn, hfn, hin, tn⟩; have NB : Below w.heap.size w wn := (by with_reducible exact thenB (by assumption) tn); have N1 := Lib.hid hn; have N2 := Lib.hid hfn; have N3 := Lib.hid hin; have N4 := Lib.hid tn; clear hn hfn hin tn)
      | (go_at_call 66; go_split_ands; refine (CF.out _ (by with_reducible assumption)).mono ?_; rintro e wf ⟨o2, rfl, hn, hfn, hin, tn⟩; have FB : Below w.heap.size w wf := (by with_reducible exact thenB (by assumption) tn); have F1 := Lib.hid hn; have F2 := Lib.hid hfn; have F3 := Lib.hid hin; have F4 := Lib.hid tn; clear hn hfn hin tn)
      | fail)
  all_goals go_wp2_with fail
  all_goals go_ret
  all_goals refine ⟨_, o1, o2, rfl, copied HT.out hnf N1.out F1.out F4.out (Below.refl _ _) N3.out F3.out (fun b e e' => Nat.lt_irrefl _ (Nat.lt_of_lt_of_le (N1.out.lt b e) (F2.out b e'))), fun b hb => ?_, FB.alloc FB.size _⟩
  all_goals
    rcases List.mem_cons.1 hb with rfl | hb
    · exact FB.size
    · rcases List.mem_append.1 hb with hb | hb
      · exact N2.out b (by simpa [eq_comm] using hb)
      · exact Nat.le_trans NB.size (F2.out b (by simpa [eq_comm] using hb))

end Go.Proofs.YtipajekehbpghaaGreatDoor

namespace Go.Proofs.YtipajekehbpghaaGreatDoor
open Go.RowKit Go.Maps Tre

set_option maxRecDepth 100000 in
theorem node_neq (w : World) (a b : Nd) : (Op.equalIn 10000 33 (.agg (ndc a)) (.agg (ndc b))).run Tryz.prog w = .ok (nodeB a b) w := by
  have h := node_eql w a b
  unfold ndv at h
  rw [run_eql_struct] at h
  cases e : (Op.equalIn 10000 33 (.agg (ndc a)) (.agg (ndc b))).run Tryz.prog w with
  | ok v w' =>
    rw [e] at h
    simp only [Result.andThen] at h
    injection h with h1 h2
    injection h1 with h1
    rw [h1, h2]
  | _ => rw [e] at h; cases h

def idsF (f : Nat → Option Nat) : Lit → Option Value := intF fun i => if 0 ≤ i then (f i.toNat).map fun (k : Nat) => Value.int .i64 (k : Int) else none
theorem idsF_at (f : Nat → Option Nat) (k : Nat) : idsF f (.int .i64 k) = (f k).map fun (k : Nat) => Value.int .i64 (k : Int) := by
  show (if (0 : Int) ≤ (k : Int) then (f (k : Int).toNat).map (fun (k : Nat) => Value.int .i64 (k : Int)) else none) = _
  rw [if_pos (by omega)]; rfl
theorem idsF_set (f : Nat → Option Nat) (i k : Nat) : setF (idsF f) (.int .i64 (i : Int)) (.int .i64 (k : Int)) = idsF (setN f i k) := by
  unfold idsF
  rw [intF_set]
  congr 1
  funext x
  unfold setN
  by_cases e : x = (i : Int)
  · subst e
    rw [if_pos rfl, if_pos (by omega), if_pos (by omega)]; rfl
  · rw [if_neg e]
    by_cases e2 : 0 ≤ x
    · rw [if_pos e2, if_pos e2, if_neg (by omega)]
    · rw [if_neg e2, if_neg e2]
theorem idsF_none : idsF (fun _ => none) = fun _ => none := by
  funext x
  unfold idsF intF
  split
  · simp
  · rfl

theorem encE_inj {p q : Pth.Bs × Nat} (h : encE p = encE q) : p = q := by
  obtain ⟨a, b⟩ := p
  obtain ⟨c, d⟩ := q
  unfold encE at h
  simp only [Prod.mk.injEq, Lit.string.injEq, Value.int.injEq] at h
  obtain ⟨h1, _, h2⟩ := h
  have h3 : b = d := by omega
  rw [h1, h3]
theorem rangeO_grown {w w' : World} {on : Option Nat} {m r n cnt : Nat} {F : Lit → Option Value} {ds : List (Lit × Value)} (h : RangeO w Tryz.prog 9 on r F n ds cnt) (hg : w.grownBy w' (some m)) (hr : r ≠ m) (ho : ∀ b, on = some b → b ≠ m) : RangeO w' Tryz.prog 9 on r F n ds cnt :=
  h.kept hg.size ⟨hg.os, hg.tape, hg.output⟩ fun b e => hg.block b (by
    rcases e with e | rfl
    · exact h.mapO.lt b e
    · exact h.lt) (by
    rcases e with e | rfl
    · simpa using ho b e
    · simpa using hr)
/-- What stands behind the names L. -/
structure Smid (wr : World) (on : Option Nat) (t u : T) (m1 m2 r : Nat) (w : World) (L : List (Pth.Bs × Nat)) (f h : Nat → Option Nat) (na nb gg : Nat) : Prop where
  rg : RangeO wr Tryz.prog 9 on r (namesF t.ents) t.ents.length (L.map encE) gg
  mf : MapF wr Tryz.prog 3 m1 (idsF f) na
  mh : MapF wr Tryz.prog 3 m2 (idsF h) nb
  ca : na ≤ L.length
  cb : nb ≤ L.length
  iv : Inv t u L f h
  bl : Below w.heap.size w wr
  cn : L.length + gg ≤ 60

set_option maxRecDepth 100000 in
set_option maxHeartbeats 8000000 in
theorem same_any {w : World} {g : Nat} {on of : Option Nat} {t : T} {g2 : Nat} {on2 of2 : Option Nat} {u : T} (h : TreeAt w g on of t) (h2 : TreeAt w g2 on2 of2 u) (ht : Std t) (hu : Std u) (hx : t.nx ≤ 100000) (hy : u.nx ≤ 100000) (b0 : Bool) (hb0 : b0 = true ↔ Same t u) :
    Calls Tryz.prog 25 #[.pointer (some ⟨g, 0, none⟩), .pointer (some ⟨g2, 0, none⟩)] w fun e w' => e = .returned (.bool b0) ∧ Below w.heap.size w w' := by
  have NO : Hid (¬ Same t u → b0 = false) := Lib.hid (fun hn => by
    cases b0 with
    | false => rfl
    | true => exact (hn (hb0.1 rfl)).elim)
  have YES : Hid (Same t u → b0 = true) := Lib.hid hb0.2
  clear hb0
  have c0 := h.blk.cell 0
  have d0 := h2.blk.cell 0
  simp only [List.getElem?_toArray, List.getElem?_cons_zero] at c0 d0
  have HT := Lib.hid h
  have HU := Lib.hid h2
  have ST := Lib.hid ht
  have SU := Lib.hid hu
  have hc60 := ht.cn
  have hl1 := h.nm.drew.len Tryz.underlying68 3
  have hl2 := h2.nm.drew.len Tryz.underlying68 3
  obtain ⟨n1, hn1⟩ : ∃ n1, n1 = t.ents.length := ⟨_, rfl⟩
  obtain ⟨n2, hn2⟩ : ∃ n2, n2 = u.ents.length := ⟨_, rfl⟩
  rw [← hn1] at hl1 hc60
  rw [← hn2] at hl2
  have HN1 := Lib.hid hn1
  have HN2 := Lib.hid hn2
  clear h h2 ht hu hn1 hn2
  go_enter Tryz.func25, Tryz.ntmps25
  go_wp2_with fail
  refine (of_any g w HT.out.blk).mono ?_
  rintro e w' ⟨rfl, hw⟩
  subst w'
  go_wp2_with fail
  refine (of_any g2 w HU.out.blk).mono ?_
  rintro e w' ⟨rfl, hw⟩
  subst w'
  by_cases hnn : n1 = n2
  rotate_left
  · have hne : ((n1 : Int) != (n2 : Int)) = true := by rw [bne_iff_ne]; omega
    repeat' ((fail_if_success (with_reducible refine halt_at 2 ?_)); first | go_values | go_skip | go_guarded | go_step | go_upon | go_back | (simp only [Int.not_lt, Int.not_le] at *; go_simp) | (go_values <;> (try go_simp)) | (go_ite <;> go_prune <;> (try go_simp)) | (split <;> (first | (rename_i hx; exact (hx _ rfl).elim) | go_prune)))
    go_region
    go_wp2_with fail
    go_ret
    exact ⟨by rw [NO.out fun s => (hnn (by rw [HN1.out, HN2.out]; exact s.1))]; rfl, (Below.refl _ _).drew⟩
  have hne : ((n1 : Int) != (n2 : Int)) = false := by rw [bne_eq_false_iff_eq]; omega
  repeat' ((fail_if_success (with_reducible refine halt_at 2 ?_)); first | go_values | go_skip | go_guarded | go_step | go_upon | go_back | (simp only [Int.not_lt, Int.not_le] at *; go_simp) | (go_values <;> (try go_simp)) | (go_ite <;> go_prune <;> (try go_simp)) | (split <;> (first | (rename_i hx; exact (hx _ rfl).elim) | go_prune)))
  go_region
  obtain ⟨w1, hw1⟩ : ∃ w1, w1 = w.drew := ⟨_, rfl⟩
  have B1 : Below w.heap.size w w1 := by rw [hw1]; exact (Below.refl _ _).drew
  have M1 := MapF.made w1 Tryz.prog 3
  have M2 := MapF.made (w1.alloc (.map #[] 0)) Tryz.prog 3
  have M1' := M1.alloc (.map #[] 0)
  have BB := (B1.alloc B1.size (.map #[] 0)).alloc (B1.alloc B1.size (.map #[] 0)).size (.map #[] 0)
  have hs1 : (w1.alloc (.map #[] 0)).heap.size = w1.heap.size + 1 := by simp
  have hs2 : ((w1.alloc (.map #[] 0)).alloc (.map #[] 0)).heap.size = w1.heap.size + 2 := by simp
  rw [← idsF_none] at M1' M2
  have NB := Lib.hid ((HT.out.below BB).nm)
  have c2 := (HT.out.below BB).blk.cell 0
  simp only [List.getElem?_toArray, List.getElem?_cons_zero] at c2
  have MA := Lib.hid M1'
  have MB := Lib.hid M2
  have BC := Lib.hid BB
  have BC0 := Lib.hid B1
  have H1 := Lib.hid hs1
  have H2 := Lib.hid hs2
  rw [← hw1]
  have hmm := @run_makeMap Tryz.prog
  clear M1 M2 M1' BB hs1 hs2 hl1 hl2 hw1 c0 d0 B1
  go_wp2_with (first
    | (refine wpList_o_range rfl (.tmp 35) 68 rfl 3 strL Tryz.underlying68 NB.out rfl ?_; intro w0 hr0 hb0 hs0; have HR0 := Lib.hid hr0; have HB0 := Lib.hid hb0; have HS0 := Lib.hid hs0; clear hr0 hb0 hs0))
  obtain ⟨m1, hm1⟩ : ∃ m, m = w1.heap.size := ⟨_, rfl⟩
  obtain ⟨m2, hm2⟩ : ∃ m, m = w1.heap.size + 1 := ⟨_, rfl⟩
  obtain ⟨r, hr⟩ : ∃ r, r = ((w1.alloc (.map #[] 0)).alloc (.map #[] 0)).heap.size := ⟨_, rfl⟩
  have e12 : m1 ≠ m2 := by omega
  have e1r : m1 ≠ r := by have := H2.out; omega
  have e2r : m2 ≠ r := by have := H2.out; omega
  have ew1 : w.heap.size ≤ m1 := by rw [hm1]; exact BC0.out.size
  have ew2 : w.heap.size ≤ m2 := by omega
  have ewr : w.heap.size ≤ r := by have := H2.out; omega
  have M0 : Smid w0 on t u m1 m2 r w [] (fun _ => none) (fun _ => none) 0 0 n1 := by
    rw [hm1, hm2, hr]
    exact ⟨by have := HR0.out; rw [← HN1.out] at this ⊢; exact this, MA.out.below HB0.out, by have := MB.out.below HB0.out; rw [H1.out] at this; exact this, Nat.le_refl _, Nat.le_refl _, .nil t u, thenB BC.out HB0.out, by simpa using hc60⟩
  have HM0 := Lib.hid M0
  clear M0 MA MB BC HB0 HR0 HS0 H1 H2 NB c2
  rw [← hr, ← hm2, ← hm1]
  clear hm1 hm2 hr
  go_frame
  go_loopg [] n1 (fun gg wr => ∃ L f h na nb, Hid (Smid wr on t u m1 m2 r w L f h na nb gg))
  case atStart => exact ⟨_, _, _, _, _, HM0⟩
  case round =>
    obtain ⟨L, f, h, na, nb, HM⟩ := hrel
    repeat' ((fail_if_success (with_reducible refine halt_at 6 ?_)); first | go_values | go_skip | go_guarded | go_step | go_upon | go_back | (simp only [Int.not_lt, Int.not_le] at *; go_simp) | (go_values <;> (try go_simp)) | (go_ite <;> go_prune <;> (try go_simp)) | (split <;> (first | (rename_i hx; exact (hx _ rfl).elim) | go_prune)))
    go_wp2_with (first
      | (refine wpList_o_next rfl (.tmp 36) rfl strL HM.out.rg rfl (fun hc hwh => ?_) (fun key v kl w2 cnt2 hkey hfk hnin hrg hlt hgr hsz hen => ?_); rotate_left; obtain ⟨x, k, rfl, rfl, hlk, rfl⟩ := names_key hkey hfk; have hp : (x.data.toList, k) ∈ t.ents := look_mem hlk; have hsh := ST.out.short hlk; have hxs : x.size ≤ 1000000 := (by have := hsh.1; rw [list_size] at this; omega); have hkx := strK x (by unfold maxLen; omega); have hkk := natK k (by omega); have hB2 : Below w.heap.size w w2 := HM.out.bl.trans (below_of_only (Below.refl _ _) hgr HM.out.bl.size ewr); have T2 := HT.out.below hB2; have U2 := HU.out.below hB2; have c0 := T2.blk.cell 0; have c1 := T2.blk.cell 1; have d0 := U2.blk.cell 0; have d1 := U2.blk.cell 1; simp only [List.getElem?_toArray, List.getElem?_cons_zero, List.getElem?_cons_succ] at c0 c1 d0 d1; have F2 := Lib.hid (HM.out.mf.kept hgr (by simpa using e1r)); have H2 := Lib.hid (HM.out.mh.kept hgr (by simpa using e2r)); have R2 : Hid (RangeO w2 Tryz.prog 9 on r (namesF t.ents) t.ents.length ((L ++ [(x.data.toList, k)]).map encE) cnt2) := Lib.hid (by rw [List.map_append]; exact hrg); have NU := Lib.hid U2.nm; obtain ⟨nf, hf2, _⟩ := T2.fl; obtain ⟨ng, hg2, _⟩ := U2.fl; have B2 := Lib.hid hB2; have HP := Lib.hid hp; have HLT := Lib.hid hlt; have eu := namesF_at u.ents x.data.toList; have nax : na ≤ 60 := (by have := HM.out.ca; have := HM.out.cn; omega); have nbx : nb ≤ 60 := (by have := HM.out.cb; have := HM.out.cn; omega); rcases hj : Tre.look u.ents x.data.toList with _ | j <;> (rw [hj] at eu; have EU := Lib.hid eu; clear eu))
      | (refine wpList_o_look_ok rfl (.tmp 46) (.tmp 47) 68 rfl 3 strL Tryz.underlying68 intZero NU.out rfl (.string x) (.string x.data.toList) rfl hkx _ EU.out ?_))
    · have HJ0 := hj
      clear hB2 T2 U2 hp hrg hgr hlt hf2 hg2 hlk hfk hkey hnin hsz HJ0
      go_region
      go_wp2_with fail
      go_ret
      exact ⟨by rw [NO.out fun s => (Inv.lacks HP.out hj s)]; rfl, B2.out.drew⟩
    · skip
      have hkj := natK j (by have := (SU.out.short hj).2; omega)
      have hA := hf2.drew.look intL Tryz.underlying69 ndZero hkk rfl
      have hBv := hg2.drew.look intL Tryz.underlying69 ndZero hkj rfl
      rw [files_get] at hA hBv
      have hNE := fun w => node_neq w (t.file k) (u.file j)
      unfold ndv at hA hBv
      obtain ⟨A, hA0⟩ : ∃ A, A = ndc (t.file k) := ⟨_, rfl⟩
      obtain ⟨A2, hA2⟩ : ∃ A, A = ndc (u.file j) := ⟨_, rfl⟩
      rw [← hA0] at hA hNE
      rw [← hA2] at hBv hNE
      obtain ⟨q, hq⟩ : ∃ q, q = nodeB (t.file k) (u.file j) := ⟨_, rfl⟩
      rw [← hq] at hNE
      have HJ := Lib.hid hj
      have HQ := Lib.hid hq
      clear hB2 T2 U2 hp hrg hgr hlt hf2 hg2 hlk hfk hkey hnin hsz hA0 hA2 hj hq
      cases q with
      | false =>
        skip
        go_big_region
        go_wp2_with fail
        go_ret
        exact ⟨by rw [NO.out fun s => (Inv.unlike HP.out HJ.out (fun e => by have := HQ.out; rw [(nodeB_iff _ _).2 e] at this; cases this) s)]; rfl, B2.out.drew⟩
      | true =>
        have HFF := Lib.hid ((nodeB_iff _ _).1 HQ.out.symm)
        skip
        go_big_region
        obtain ⟨w3, hw3⟩ : ∃ w3, w3 = w2.drew := ⟨_, rfl⟩
        have F3 : Hid (MapF w3 Tryz.prog 3 m1 (idsF f) na) := Lib.hid (by rw [hw3]; exact F2.out.drew)
        have H3 : Hid (MapF w3 Tryz.prog 3 m2 (idsF h) nb) := Lib.hid (by rw [hw3]; exact H2.out.drew)
        have R3 := R2.out.below (Below.refl w2.heap.size w2).drew
        have B3 : Hid (Below w.heap.size w w3) := Lib.hid (by rw [hw3]; exact B2.out.drew)
        rw [← hw3] at R3 ⊢
        have R3' := Lib.hid R3
        clear R3 hA hBv hNE c0 c1 d0 d1 hw3 R2 F2 H2 B2
        have efk := idsF_at f k
        have ehj := idsF_at h j
        by_cases qf : ∃ k', f k = some k' ∧ k' ≠ j
        · obtain ⟨k', e1, e2⟩ := qf
          rw [e1] at efk
          have EF := Lib.hid efk
          have hne : ((k' : Int) != (j : Int)) = true := by rw [bne_iff_ne]; omega
          have E1 := Lib.hid e1
          have E2 := Lib.hid e2
          clear efk ehj e1 e2
          go_wp2_with (first | (refine wpList_f_look_ok rfl (.tmp 69) (.tmp 70) 98 rfl 3 intL Tryz.underlying98 intZero F3.out rfl (.int .i64 k) (.int .i64 k) rfl hkk _ EF.out ?_))
          go_ret
          exact ⟨by rw [NO.out fun s => (Inv.clashF (p := (x.data.toList, k)) HM.out.iv HP.out HJ.out E1.out E2.out s)]; rfl, B3.out⟩
        have hfo : ∀ k', f k = some k' → k' = j := fun k' e => Decidable.byContradiction fun hn => qf ⟨k', e, hn⟩
        by_cases qh : ∃ i, h j = some i ∧ i ≠ k
        · obtain ⟨i, e1, e2⟩ := qh
          rw [e1] at ehj
          have EH := Lib.hid ehj
          have hne : ((i : Int) != (k : Int)) = true := by rw [bne_iff_ne]; omega
          have E1 := Lib.hid e1
          have E2 := Lib.hid e2
          clear ehj e1 e2 qf
          rcases hk : f k with _ | k'
          · rw [hk] at efk
            have EF := Lib.hid efk
            clear efk hk hfo
            go_wp2_with (first | (refine wpList_f_look_ok rfl (.tmp 69) (.tmp 70) 98 rfl 3 intL Tryz.underlying98 intZero F3.out rfl (.int .i64 k) (.int .i64 k) rfl hkk _ EF.out ?_) | (refine wpList_f_look_ok rfl (.tmp 81) (.tmp 82) 98 rfl 3 intL Tryz.underlying98 intZero H3.out rfl (.int .i64 j) (.int .i64 j) rfl hkj _ EH.out ?_))
            go_ret
            exact ⟨by rw [NO.out fun s => (Inv.clashH (p := (x.data.toList, k)) HM.out.iv HP.out HJ.out E1.out E2.out s)]; rfl, B3.out⟩
          · obtain rfl := (hfo k' hk).symm
            rw [hk] at efk
            have EF := Lib.hid efk
            clear efk hk hfo
            go_wp2_with (first | (refine wpList_f_look_ok rfl (.tmp 69) (.tmp 70) 98 rfl 3 intL Tryz.underlying98 intZero F3.out rfl (.int .i64 k) (.int .i64 k) rfl hkk _ EF.out ?_) | (refine wpList_f_look_ok rfl (.tmp 81) (.tmp 82) 98 rfl 3 intL Tryz.underlying98 intZero H3.out rfl (.int .i64 j) (.int .i64 j) rfl hkj _ EH.out ?_))
            go_ret
            exact ⟨by rw [NO.out fun s => (Inv.clashH (p := (x.data.toList, k)) HM.out.iv HP.out HJ.out E1.out E2.out s)]; rfl, B3.out⟩
        have hho : ∀ i, h j = some i → i = k := fun i e => Decidable.byContradiction fun hn => qh ⟨i, e, hn⟩
        have NEXT := Lib.hid (HM.out.iv.more HP.out HJ.out HFF.out hfo hho)
        clear qf qh
        have fin : ∀ (wa wb : World), MapF wa Tryz.prog 3 m1 (setF (idsF f) (.int .i64 (k : Int)) (.int .i64 (j : Int))) (na + (if (idsF f (.int .i64 (k : Int))).isSome then 0 else 1)) → w3.grownBy wa (some m1) →
            MapF wb Tryz.prog 3 m2 (setF (idsF h) (.int .i64 (j : Int)) (.int .i64 (k : Int))) (nb + (if (idsF h (.int .i64 (j : Int))).isSome then 0 else 1)) → wa.grownBy wb (some m2) →
            Smid wb on t u m1 m2 r w (L ++ [(x.data.toList, k)]) (setN f k j) (setN h j k) (na + (if (idsF f (.int .i64 (k : Int))).isSome then 0 else 1)) (nb + (if (idsF h (.int .i64 (j : Int))).isSome then 0 else 1)) cnt2 := by
          intro wa wb ma ga mb gb
          rw [idsF_set] at ma mb
          have ho : ∀ b, on = some b → b < w.heap.size := fun b e => HT.out.nm.lt b e
          have hl1 : (L ++ [(x.data.toList, k)]).length = L.length + 1 := by simp
          refine ⟨rangeO_grown (rangeO_grown R3'.out ga (Ne.symm e1r) (fun b e => by have := ho b e; omega)) gb (Ne.symm e2r) (fun b e => by have := ho b e; omega), ma.kept gb (by simpa using e12), mb, ?_, ?_, NEXT.out, (below_of_only (below_of_only B3.out ga B3.out.size ew1) gb (Nat.le_trans B3.out.size ga.size) ew2), ?_⟩
          · have := HM.out.ca; split <;> omega
          · have := HM.out.cb; split <;> omega
          · have := HM.out.cn; have := HLT.out; omega
        have FIN := Lib.hid fin
        clear fin
        rcases hk : f k with _ | k'
        · rw [hk] at efk
          rcases hi : h j with _ | i
          · rw [hi] at ehj
            have EF := Lib.hid efk
            have EH := Lib.hid ehj
            clear efk ehj hk hi hfo hho
            go_wp2_with (first | (refine wpList_f_look_ok rfl (.tmp 69) (.tmp 70) 98 rfl 3 intL Tryz.underlying98 intZero F3.out rfl (.int .i64 k) (.int .i64 k) rfl hkk _ EF.out ?_) | (refine wpList_f_look_ok rfl (.tmp 81) (.tmp 82) 98 rfl 3 intL Tryz.underlying98 intZero H3.out rfl (.int .i64 j) (.int .i64 j) rfl hkj _ EH.out ?_) | (refine wpList_f_store rfl (.tmp 92) (.tmp 93) (.tmp 96) 98 rfl 3 intL Tryz.underlying98 F3.out (by unfold maxLen; omega) rfl (.int .i64 k) (.int .i64 j) (.int .i64 k) rfl rfl hkk ?_; intro wa ma ga sa; have MA := Lib.hid ma; have GA := Lib.hid ga; have HA := Lib.hid (H3.out.kept ga (by simpa using e12.symm)); clear ma ga sa) | (refine wpList_f_store rfl (.tmp 94) (.tmp 95) (.tmp 97) 98 rfl 3 intL Tryz.underlying98 HA.out (by unfold maxLen; omega) rfl (.int .i64 j) (.int .i64 k) (.int .i64 j) rfl rfl hkj ?_; intro wb mb gb sb; have MB := Lib.hid mb; have GB := Lib.hid gb; clear mb gb sb))
            go_roundg cnt2
            case measure => exact HLT.out
            case rel => exact ⟨_, _, _, _, _, Lib.hid (FIN.out _ _ MA.out GA.out MB.out GB.out)⟩
          · obtain rfl := (hho i hi).symm
            rw [hi] at ehj
            have EF := Lib.hid efk
            have EH := Lib.hid ehj
            clear efk ehj hk hi hfo hho
            go_wp2_with (first | (refine wpList_f_look_ok rfl (.tmp 69) (.tmp 70) 98 rfl 3 intL Tryz.underlying98 intZero F3.out rfl (.int .i64 k) (.int .i64 k) rfl hkk _ EF.out ?_) | (refine wpList_f_look_ok rfl (.tmp 81) (.tmp 82) 98 rfl 3 intL Tryz.underlying98 intZero H3.out rfl (.int .i64 j) (.int .i64 j) rfl hkj _ EH.out ?_) | (refine wpList_f_store rfl (.tmp 92) (.tmp 93) (.tmp 96) 98 rfl 3 intL Tryz.underlying98 F3.out (by unfold maxLen; omega) rfl (.int .i64 k) (.int .i64 j) (.int .i64 k) rfl rfl hkk ?_; intro wa ma ga sa; have MA := Lib.hid ma; have GA := Lib.hid ga; have HA := Lib.hid (H3.out.kept ga (by simpa using e12.symm)); clear ma ga sa) | (refine wpList_f_store rfl (.tmp 94) (.tmp 95) (.tmp 97) 98 rfl 3 intL Tryz.underlying98 HA.out (by unfold maxLen; omega) rfl (.int .i64 j) (.int .i64 k) (.int .i64 j) rfl rfl hkj ?_; intro wb mb gb sb; have MB := Lib.hid mb; have GB := Lib.hid gb; clear mb gb sb))
            go_roundg cnt2
            case measure => exact HLT.out
            case rel => exact ⟨_, _, _, _, _, Lib.hid (FIN.out _ _ MA.out GA.out MB.out GB.out)⟩
        · obtain rfl := (hfo k' hk).symm
          rw [hk] at efk
          rcases hi : h j with _ | i
          · rw [hi] at ehj
            have EF := Lib.hid efk
            have EH := Lib.hid ehj
            clear efk ehj hk hi hfo hho
            go_wp2_with (first | (refine wpList_f_look_ok rfl (.tmp 69) (.tmp 70) 98 rfl 3 intL Tryz.underlying98 intZero F3.out rfl (.int .i64 k) (.int .i64 k) rfl hkk _ EF.out ?_) | (refine wpList_f_look_ok rfl (.tmp 81) (.tmp 82) 98 rfl 3 intL Tryz.underlying98 intZero H3.out rfl (.int .i64 j) (.int .i64 j) rfl hkj _ EH.out ?_) | (refine wpList_f_store rfl (.tmp 92) (.tmp 93) (.tmp 96) 98 rfl 3 intL Tryz.underlying98 F3.out (by unfold maxLen; omega) rfl (.int .i64 k) (.int .i64 j) (.int .i64 k) rfl rfl hkk ?_; intro wa ma ga sa; have MA := Lib.hid ma; have GA := Lib.hid ga; have HA := Lib.hid (H3.out.kept ga (by simpa using e12.symm)); clear ma ga sa) | (refine wpList_f_store rfl (.tmp 94) (.tmp 95) (.tmp 97) 98 rfl 3 intL Tryz.underlying98 HA.out (by unfold maxLen; omega) rfl (.int .i64 j) (.int .i64 k) (.int .i64 j) rfl rfl hkj ?_; intro wb mb gb sb; have MB := Lib.hid mb; have GB := Lib.hid gb; clear mb gb sb))
            go_roundg cnt2
            case measure => exact HLT.out
            case rel => exact ⟨_, _, _, _, _, Lib.hid (FIN.out _ _ MA.out GA.out MB.out GB.out)⟩
          · obtain rfl := (hho i hi).symm
            rw [hi] at ehj
            have EF := Lib.hid efk
            have EH := Lib.hid ehj
            clear efk ehj hk hi hfo hho
            go_wp2_with (first | (refine wpList_f_look_ok rfl (.tmp 69) (.tmp 70) 98 rfl 3 intL Tryz.underlying98 intZero F3.out rfl (.int .i64 k) (.int .i64 k) rfl hkk _ EF.out ?_) | (refine wpList_f_look_ok rfl (.tmp 81) (.tmp 82) 98 rfl 3 intL Tryz.underlying98 intZero H3.out rfl (.int .i64 j) (.int .i64 j) rfl hkj _ EH.out ?_) | (refine wpList_f_store rfl (.tmp 92) (.tmp 93) (.tmp 96) 98 rfl 3 intL Tryz.underlying98 F3.out (by unfold maxLen; omega) rfl (.int .i64 k) (.int .i64 j) (.int .i64 k) rfl rfl hkk ?_; intro wa ma ga sa; have MA := Lib.hid ma; have GA := Lib.hid ga; have HA := Lib.hid (H3.out.kept ga (by simpa using e12.symm)); clear ma ga sa) | (refine wpList_f_store rfl (.tmp 94) (.tmp 95) (.tmp 97) 98 rfl 3 intL Tryz.underlying98 HA.out (by unfold maxLen; omega) rfl (.int .i64 j) (.int .i64 k) (.int .i64 j) rfl rfl hkj ?_; intro wb mb gb sb; have MB := Lib.hid mb; have GB := Lib.hid gb; clear mb gb sb))
            go_roundg cnt2
            case measure => exact HLT.out
            case rel => exact ⟨_, _, _, _, _, Lib.hid (FIN.out _ _ MA.out GA.out MB.out GB.out)⟩
    · go_ret
      have hsame := HM.out.iv.same (fun p hp => by
        have hm := (whole_perm ST.out.nd hwh).mem_iff.2 (List.mem_map.2 ⟨p, hp, rfl⟩)
        obtain ⟨q, hq, e⟩ := List.mem_map.1 hm
        have e2 := encE_inj e
        exact e2 ▸ hq) (by rw [← HN1.out, ← HN2.out]; exact hnn)
      exact ⟨by rw [YES.out hsame]; rfl, HM.out.bl⟩

end Go.Proofs.YtipajekehbpghaaGreatDoor
