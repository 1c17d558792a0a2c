/-
  slices.SortFunc of records by their keys.
-/
import Derived.Test.YtjafjhhmjfpmoaaDoorMergePlain
import Derived.Test.YtjafjhhmjfpmoaaDoorPaxL
import Derived.Test.YtjafjhhmjfpmoaaDoorPaxLay
import Derived.Shelf.SlSortCmp.NoneTotal
namespace Go.Proofs.YtjafjhhmjfpmoaaDoor
open Go.RowKit Go.Sort

theorem cmpb_lt : ∀ a b : List UInt8, Lib.compareBytes a b < 0 ↔ a < b
  | [], [] => by simp [Lib.compareBytes]
  | [], _ :: _ => by simp [Lib.compareBytes]
  | _ :: _, [] => by simp [Lib.compareBytes]
  | a :: p, b :: q => by
    have ih := cmpb_lt p q
    simp only [Lib.compareBytes]
    rw [List.cons_lt_cons_iff]
    by_cases h : a < b
    · simp [h]
    · by_cases h2 : b < a
      · have : a ≠ b := fun e => by subst e; exact h h2
        simp [h, h2, this]
      · have : a = b := by
          have h1 : ¬ a.toNat < b.toNat := fun x => h (UInt8.lt_iff_toNat_lt.2 x)
          have h3 : ¬ b.toNat < a.toNat := fun x => h2 (UInt8.lt_iff_toNat_lt.2 x)
          exact UInt8.toNat_inj.1 (by omega)
        subst this
        simp [h, ih]
/-- Records by their keys. -/
def cfR (x y : Px.Rec) : Int := Lib.compareBytes x.1 y.1
theorem ltR (x y : Px.Rec) : ltOf cfR x y = decide (x.1 < y.1) := by
  unfold ltOf cfR
  exact decide_eq_decide.2 (cmpb_lt _ _)
theorem swoR : SWO (ltOf cfR) := by
  refine ⟨fun x => ?_, fun x y z h1 h2 => ?_, fun x y z h1 h2 => ?_⟩
  · rw [ltR]; exact decide_eq_false (List.lt_irrefl _)
  · rw [ltR] at *
    exact decide_eq_true (List.lt_trans (of_decide_eq_true h1) (of_decide_eq_true h2))
  · rw [ltR] at *
    have a := of_decide_eq_false h1
    have b := of_decide_eq_false h2
    exact decide_eq_false fun h => b (by
      rcases List.le_total x.1 y.1 with h3 | h3
      · exact Decidable.byContradiction fun h4 => by
          have e1 := List.le_antisymm a h3
          have e2 : z.1 ≤ y.1 := h4
          have := List.le_trans e2 a
          exact this h
      · exact Decidable.byContradiction fun h4 => by
          have e2 : z.1 ≤ y.1 := h4
          have := List.le_trans e2 h3
          exact this h)

/-- A record's cells. -/
def rcEnc (r : Px.Rec) : List Value := [.string (bs r.1), .string (bs r.2)]
theorem flat_rc (l : List Px.Rec) : (flatK rcEnc 2 l.toArray).toList = rcCells l := by
  apply List.ext_getElem?
  intro i
  by_cases hi : i < l.length * 2
  · have hj : i / 2 < l.length := by omega
    obtain ⟨g1, g2⟩ := rcCells_get l (i / 2) hj
    have hs : i < (flatK rcEnc 2 l.toArray).size := by rw [size_flatK]; simpa using hi
    rw [Array.getElem?_toList, Array.getElem?_eq_getElem hs]
    have hg := get_flatK rcEnc 2 l.toArray i (by simpa using hi)
    rw [getElem!_pos (flatK rcEnc 2 l.toArray) i hs] at hg
    rw [hg, getElem!_pos l.toArray (i / 2) (by simpa using hj)]
    rcases (by omega : i % 2 = 0 ∧ i = i / 2 * 2 ∨ i % 2 = 1 ∧ i = i / 2 * 2 + 1) with ⟨e, e'⟩ | ⟨e, e'⟩
    · rw [e, show (rcCells l)[i]? = (rcCells l)[i / 2 * 2]? from by rw [← e'], g1]; rfl
    · rw [e, show (rcCells l)[i]? = (rcCells l)[i / 2 * 2 + 1]? from by rw [← e'], g2]; rfl
  · rw [List.getElem?_eq_none (by simp; omega), List.getElem?_eq_none (by rw [rcCells_len]; omega)]

theorem cmp_any (x y : Px.Rec) (w : World) : Calls Tryd.prog 39 #[.agg #[.string (bs x.1), .string (bs x.2)], .agg #[.string (bs y.1), .string (bs y.2)]] w fun e w' => e = .returned (.int .i64 (cfR x y)) ∧ w' = grow (w.drewN 0) #[.cells #[.string (bs x.1), .string (bs x.2)] 32, .cells #[.string (bs y.1), .string (bs y.2)] 32] := by
  have e1 : ∀ w : World, ∀ o1 o2 : Obj, (w.alloc o1).alloc o2 = grow (w.drewN 0) #[o1, o2] := fun w o1 o2 => by
    rw [alloc_eq_grow, alloc_eq_grow, grow_grow]; rfl
  have H := Lib.hid (fun w => Tryd.strings_Compare (bs x.1) (bs y.1) w)
  have E1 := Lib.hid e1
  clear e1
  go_enter Tryd.func39, Tryd.ntmps39
  go_wp2_with fail
  refine (H.out _).mono ?_
  rintro e w1 ⟨rfl, hw⟩
  subst hw
  go_wp2_with fail
  go_ret
  exact ⟨rfl, E1.out _ _ _⟩

theorem heap_sortedK {w : World} {g n : Nat} {os : Array Obj} {cur : Array Value} {e : TypeId} {fr : Nat × Nat} (F : Array Value) (hb : w.heap[g]? = some (.cells cur e fr)) :
    (grow (putRow id (Sort.ahead w n) g 0 F) os).heap[g]? = some (.cells (putCells id 0 F cur) e fr) := by
  have hg : g < w.heap.size := (Array.getElem?_eq_some_iff.1 hb).1
  rw [heap_grow_old _ _ (by simpa using hg)]
  simp [putRow, mapBlock, Sort.ahead, Array.getElem?_modify, hb, onCells]
theorem grownBy_sortedK {w : World} {g n : Nat} {os : Array Obj} (F : Array Value) : w.grownBy (grow (putRow id (Sort.ahead w n) g 0 F) os) (some g) := by
  refine ⟨rfl, rfl, rfl, by simp, fun k hk hne => ?_⟩
  rw [heap_grow_old _ _ (by simpa using hk)]
  have : g ≠ k := fun e => hne (by rw [e])
  simp [putRow, mapBlock, Sort.ahead, Array.getElem?_modify, this]
theorem take_putCellsK (cur F : Array Value) (h : F.size ≤ cur.size) : (putCells id 0 F cur).toList.take F.size = F.toList := by
  apply List.ext_getElem?
  intro j
  by_cases hj : j < F.size
  · rw [List.getElem?_take_of_lt hj, Array.getElem?_toList, Array.getElem?_toList]
    simp [putCells, hj, show j < cur.size by omega]
  · rw [List.getElem?_take_eq_none (by omega), List.getElem?_eq_none (by simp; omega)]

/-- slices.SortFunc at records of the call's own. -/
theorem sort_any {w : World} {B : Nat} {v : Value} {l : List Px.Rec} (h : HasR w B v l) (hl : l.length ≤ 1000000) :
    Calls Tryd.prog 38 #[v, .func (.func 39) #[] #[]] w fun e w' => e = .returned (.tuple #[]) ∧ ∃ M : List Px.Rec, M.Perm l ∧ (M.Pairwise fun p q => ¬ q.1 < p.1) ∧ HasR w' B v M ∧ w.grownBy w' v.ownBlock := by
  obtain ⟨h1, hw⟩ := h
  rcases hw with ⟨rfl, h0⟩ | ⟨g, cap, cur, rfl, hB, hg, hc, hcm, hcs, ht⟩
  · obtain rfl := List.length_eq_zero_iff.1 h0
    exact (AnyF.slices_SortFunc_none Tryd.sortP none 0 _ w).mono fun e w' ⟨he, hw⟩ => ⟨he, [], List.Perm.refl _, List.Pairwise.nil, (by subst hw; exact World.ownsRow_nil _ _ _ _), by subst hw; exact only_refl _ _⟩
  · have hgl : g < w.heap.size := (Array.getElem?_eq_some_iff.1 hg).1
    have hH : HoldsK rcEnc 2 w g 0 l.toArray := by
      intro j hj
      rw [size_flatK] at hj
      have hj' : j < l.length * 2 := by simpa using hj
      refine ⟨?_, by simp [World.frozen?, hg]⟩
      have hs : j < (flatK rcEnc 2 l.toArray).size := by rw [size_flatK]; exact hj
      have e1 : (cur.toList.take (l.length * 2))[j]? = (flatK rcEnc 2 l.toArray).toList[j]? := by rw [ht, flat_rc]
      rw [List.getElem?_take_of_lt hj', Array.getElem?_toList, Array.getElem?_toList, Array.getElem?_eq_getElem hs] at e1
      rw [cell_of_row w g _ cur _ (0, 0) hg, Nat.zero_add, e1, getElem!_pos (flatK rcEnc 2 l.toArray) j hs]
      rfl
    have hcmp : CmpLays Tryd.prog 39 #[] rcEnc 2 cfR g 0 l.toArray.size w := fun m os dk _ x y =>
      (cmp_any x y _).mono fun e w' ⟨he, hw⟩ => ⟨he, 0, _, hw⟩
    have hs := AnyQ.slices_SortFunc Tryd.sortP 2 Tryd.isAgg32 Tryd.sizeOf32 rcEnc (fun _ => rfl) (fun x u hu => by simp [rcEnc] at hu; rcases hu with rfl | rfl <;> rfl) cfR swoR 39 #[] g 0 cap l.toArray w (fun args w => by go_simp) hcmp hH hgl (by simp; omega)
    have hz : l.toArray.size = l.length := by simp
    rw [hz] at hs
    refine hs.mono fun e w' ⟨he, d', n, os, hp, hso, hw⟩ => ⟨he, d'.toList, ?_, ?_, ?_, ?_⟩
    · have := hp.2.2
      have hd : d'.size = l.length := by rw [hp.1]; simp
      rw [show d'.extract 0 l.length = d' from by rw [← hd]; simp, show l.toArray.extract 0 l.length = l.toArray from by simp] at this
      simpa using this
    · rw [List.pairwise_iff_getElem]
      intro i j hi hj hij
      have hd : d'.size = l.length := by rw [hp.1]; simp
      have hi' : i < d'.size := by simpa using hi
      have hj' : j < d'.size := by simpa using hj
      have := hso i j (Nat.zero_le _) hij (by omega)
      rw [getElem!_pos d' j hj', getElem!_pos d' i hi', ltR] at this
      simpa using of_decide_eq_false this
    · have hd : d'.size = l.length := by rw [hp.1]; simp
      have hdl : d'.toList.length = l.length := by simpa using hd
      have hfl : (flatK rcEnc 2 d').size = l.length * 2 := by rw [size_flatK, hd]
      have hfe : (flatK rcEnc 2 d').toList = rcCells d'.toList := by have := flat_rc d'.toList; simpa using this
      rw [hw]
      refine ⟨rcCells_len _, .inr ⟨g, cap, _, by rw [hdl], hB, heap_sortedK (flatK rcEnc 2 d') hg, by rw [hdl]; exact hc, hcm, by simp [putCells, hcs], ?_⟩⟩
      rw [hdl, ← hfl, ← hfe]
      exact take_putCellsK cur _ (by rw [hfl, hcs]; exact Nat.mul_le_mul_right 2 hc)
    · rw [hw]
      exact grownBy_sortedK _

end Go.Proofs.YtjafjhhmjfpmoaaDoor
