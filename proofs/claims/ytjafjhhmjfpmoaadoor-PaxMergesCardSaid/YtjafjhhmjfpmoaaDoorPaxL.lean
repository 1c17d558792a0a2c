/-
  slices.DeleteFunc of records, in a row of the call's own.
-/
import Derived.Test.YtjafjhhmjfpmoaaDoorPaxK
namespace Go.Proofs.YtjafjhhmjfpmoaaDoor
open Go.RowKit

theorem run_clear_row {P : Program} (w : World) (t e ty : TypeId) (z : Value) (ht : P.underlying t = some (.slice e)) (hv : ∀ w, (zeroValue e).run P w = .ok z w) (h1 : ∀ u ∈ z.cells.toList, u.oneCell' = true)
    (g o n c : Nat) (cur : Array Value) (T : TypeId) (hb : w.heap[g]? = some (.cells cur T (0, 0))) (hn : 0 < n) (hfit : o + n * z.cells.size ≤ cur.size) :
    ∃ cur' : Array Value, cur'.size = cur.size ∧ (∀ i, i < o → cur'[i]? = cur[i]?) ∧ (Builtin.clear_ #[t] ty #[.slice (some ⟨g, o, none⟩) n c]).run P w = .ok (.tuple #[]) (w.setRow g cur') := by
  have hzs := size_zeroCells z.cells n
  have hz1 : ∀ v ∈ (Builtin.zeroCells z.cells n).toList, v.oneCell' = true := fun v hv => by
    unfold Builtin.zeroCells at hv
    simp only [Array.toList_map, Array.toList_range, List.mem_map, List.mem_range] at hv
    obtain ⟨i, hi, rfl⟩ := hv
    have hp : 0 < z.cells.size := by
      rcases Nat.eq_zero_or_pos z.cells.size with h | h
      · rw [h] at hi; simp at hi
      · exact h
    have hlt : i % z.cells.size < z.cells.size := Nat.mod_lt _ hp
    refine h1 _ ?_
    rw [getElem!_pos z.cells _ hlt]
    simp
  have hst := run_storeCells_at P g o T (Builtin.zeroCells z.cells n).toList 0 cur w hb (by simp [hzs]; omega) hz1
  refine ⟨(cur.toList.take o ++ (Builtin.zeroCells z.cells n).toList ++ cur.toList.drop (o + (Builtin.zeroCells z.cells n).toList.length)).toArray, ?_, ?_, ?_⟩
  rotate_left 2
  · obtain ⟨m, rfl⟩ : ∃ m, n = m + 1 := ⟨n - 1, by omega⟩
    simp only [Nat.add_zero] at hst
    simp [Builtin.clear_, run_underlying ht, hv, hst]
  · simp [hzs]; omega
  · intro i hi
    have : i < cur.size := by omega
    simp [List.getElem?_append, List.getElem?_take, hi, Nat.min_eq_left, this]
    omega

/-- What the row holds on the way. -/
structure DInv (p : Px.Rec → Bool) (l : List Px.Rec) (cr : Array Value) (n j : Nat) : Prop where
  size : cr.size = n
  fits : l.length * 2 ≤ n
  low : ∀ (m : Nat) (hm : m < ((l.take j).filter fun r => !p r).length), cr[m * 2]? = some (.string (bs (((l.take j).filter fun r => !p r)[m]).1)) ∧ cr[m * 2 + 1]? = some (.string (bs (((l.take j).filter fun r => !p r)[m]).2))
  high : ∀ (m : Nat) (hm : m < l.length), j ≤ m → cr[m * 2]? = some (.string (bs l[m].1)) ∧ cr[m * 2 + 1]? = some (.string (bs l[m].2))
theorem kept_snoc (p : Px.Rec → Bool) (l : List Px.Rec) (j : Nat) (hj : j < l.length) : (l.take (j + 1)).filter (fun r => !p r) = (l.take j).filter (fun r => !p r) ++ (if p l[j] then [] else [l[j]]) := by
  rw [List.take_succ_eq_append_getElem hj, List.filter_append]
  congr 1
  cases h : p l[j] <;> simp [List.filter_cons, h]
theorem kept_le (p : Px.Rec → Bool) (l : List Px.Rec) (j : Nat) : ((l.take j).filter fun r => !p r).length ≤ j := by
  have := List.length_filter_le (fun r => !p r) (l.take j)
  rw [List.length_take] at this
  omega
theorem DInv.skip {p : Px.Rec → Bool} {l : List Px.Rec} {cr : Array Value} {n j : Nat} (h : DInv p l cr n j) (hj : j < l.length) (hp : p l[j] = true) : DInv p l cr n (j + 1) := by
  have e : (l.take (j + 1)).filter (fun r => !p r) = (l.take j).filter (fun r => !p r) := by rw [kept_snoc p l j hj, hp]; simp
  refine ⟨h.size, h.fits, ?_, fun m hm h2 => h.high m hm (by omega)⟩
  rw [e]
  exact h.low
theorem DInv.keep {p : Px.Rec → Bool} {l : List Px.Rec} {cr : Array Value} {n j : Nat} (h : DInv p l cr n j) (hj : j < l.length) (hp : p l[j] = false) {i : Nat} (hi : i = ((l.take j).filter fun r => !p r).length) :
    DInv p l ((cr.setIfInBounds (i * 2) (.string (bs l[j].1))).setIfInBounds (i * 2 + 1) (.string (bs l[j].2))) n (j + 1) := by
  have hle := kept_le p l j
  have hs := h.size
  have hf := h.fits
  have e : (l.take (j + 1)).filter (fun r => !p r) = (l.take j).filter (fun r => !p r) ++ [l[j]] := by rw [kept_snoc p l j hj, hp]; simp
  refine ⟨by simpa using h.size, h.fits, ?_, fun m hm h2 => ?_⟩
  · rw [e]
    intro m hm
    rw [List.length_append, List.length_singleton] at hm
    by_cases hmi : m < i
    · have hm2 : m < ((l.take j).filter fun r => !p r).length := by omega
      obtain ⟨a, b⟩ := h.low m hm2
      rw [List.getElem_append_left hm2]
      rw [← a, ← b]
      simp only [Array.getElem?_setIfInBounds]
      constructor
      · rw [if_neg (by omega), if_neg (by omega)]
      · rw [if_neg (by omega), if_neg (by omega)]
    · obtain rfl : m = i := by omega
      have e2 : ((l.take j).filter (fun r => !p r) ++ [l[j]])[m]'(by rw [List.length_append, List.length_singleton]; omega) = l[j] := by
        rw [List.getElem_append_right (by omega)]; simp
      rw [e2]
      simp only [Array.getElem?_setIfInBounds, Array.size_setIfInBounds]
      constructor
      · rw [if_neg (by omega), if_pos trivial, if_pos (by omega)]
      · rw [if_pos trivial, if_pos (by omega)]
  · obtain ⟨a, b⟩ := h.high m hm (by omega)
    rw [← a, ← b]
    simp only [Array.getElem?_setIfInBounds]
    constructor
    · rw [if_neg (by omega), if_neg (by omega)]
    · rw [if_neg (by omega), if_neg (by omega)]
theorem DInv.done {p : Px.Rec → Bool} {l : List Px.Rec} {cr cr' : Array Value} {n j : Nat} (h : DInv p l cr n j) (hj : l.length ≤ j) (hcr : ∀ i, i < (l.filter fun r => !p r).length * 2 → cr'[i]? = cr[i]?) :
    ∀ (m : Nat) (hm : m < (l.filter fun r => !p r).length), cr'[m * 2]? = some (.string (bs ((l.filter fun r => !p r)[m]).1)) ∧ cr'[m * 2 + 1]? = some (.string (bs ((l.filter fun r => !p r)[m]).2)) := by
  have e : l.take j = l := List.take_of_length_le hj
  have hl := h.low
  rw [e] at hl
  intro m hm
  rw [hcr _ (by omega), hcr _ (by omega)]
  exact hl m hm
theorem DInv.start {p : Px.Rec → Bool} {l : List Px.Rec} {cr : Array Value} {i : Nat} (hc : ∀ (m : Nat) (hm : m < l.length), cr[m * 2]? = some (.string (bs l[m].1)) ∧ cr[m * 2 + 1]? = some (.string (bs l[m].2))) (hf : l.length * 2 ≤ cr.size)
    (hi : i < l.length) (hp : p l[i] = true) (ha : ∀ x ∈ l.take i, p x = false) : DInv p l cr cr.size (i + 1) ∧ ((l.take (i + 1)).filter fun r => !p r).length = i := by
  have e0 : (l.take i).filter (fun r => !p r) = l.take i := List.filter_eq_self.2 fun x hx => by rw [ha x hx]; rfl
  have e : (l.take (i + 1)).filter (fun r => !p r) = l.take i := by rw [kept_snoc p l i hi, hp, e0]; simp
  refine ⟨⟨rfl, hf, ?_, fun m hm _ => hc m hm⟩, ?_⟩
  · rw [e]
    intro m hm
    rw [List.length_take] at hm
    rw [List.getElem_take]
    exact hc m (by omega)
  · rw [e, List.length_take]; omega

set_option maxRecDepth 100000 in
set_option maxHeartbeats 4000000 in
theorem delete_rows (l : List Px.Rec) (b c : Nat) (T : TypeId) (cur : Array Value) (p : Px.Rec → Bool) (g : Nat) (lb : Array Value) (eg : ∀ args w, (callFunc g args).run Tryd.prog w = .ok (.enter g args) w) (w : World)
    (hblk : Blk w b T cur) (hrow : RowR w b 0 l) (hf : l.length * 2 ≤ cur.size) (hl : l.length ≤ 1000000) (hlc : l.length ≤ c) (hc : c ≤ 9223372036854775807)
    (hp : ∀ r ∈ l, ∀ w', w.grownBy w' (some b) → Calls Tryd.prog g (#[prv (bs r.1) (bs r.2)] ++ lb) w' fun e w'' => e = .returned (.bool (p r)) ∧ Below w'.heap.size w' w'') :
    Calls Tryd.prog 32 #[.slice (some ⟨b, 0, none⟩) l.length c, .func (.func g) #[] lb] w fun e w' => e = .returned (.slice (some ⟨b, 0, none⟩) (l.filter fun r => !p r).length c) ∧ (∃ cur', Blk w' b T cur' ∧ cur'.size = cur.size) ∧ RowR w' b 0 (l.filter fun r => !p r) ∧ w.grownBy w' (some b) := by
  have hblt := hblk.lt
  have hix := index_rows l b 0 c p g lb eg w hblt hrow hl (fun r hr w' h => hp r hr w' (only_of_below h _))
  have HIX := Lib.hid hix
  have hli : (l.length : Int) ≤ 1000000 := by omega
  have hcI : (c : Int) ≤ 9223372036854775807 := by omega
  have hlcI : (l.length : Int) ≤ c := by omega
  rcases idxP_ways p l with ⟨e1, hall⟩ | ⟨i0, hi0, e1, ht, hall⟩
  · have HB := Lib.hid hblk
    have HR := Lib.hid hrow
    have hfil : (l.filter fun r => !p r) = l := List.filter_eq_self.2 fun x hx => by rw [hall x hx]; rfl
    rw [hfil]
    rw [e1] at HIX
    clear hix hblk hrow hp hall e1 hfil
    go_enter Tryd.func32, Tryd.ntmps32
    go_wp2_with fail
    refine HIX.out.mono ?_
    rintro e w1 ⟨rfl, h1⟩
    have B1 := Lib.hid h1
    clear h1
    go_wp2_with fail
    go_ret
    exact ⟨rfl, ⟨cur, HB.out.below B1.out hblt, rfl⟩, HR.out.below B1.out hblt, only_of_below B1.out _⟩
  · rw [e1] at HIX
    have hcells : ∀ (m : Nat) (hm : m < l.length), cur[m * 2]? = some (.string (bs l[m].1)) ∧ cur[m * 2 + 1]? = some (.string (bs l[m].2)) := fun m hm => by
      obtain ⟨c0, c1⟩ := hrow m hm
      rw [Nat.zero_add] at c0 c1
      rw [hblk.cell] at c0 c1
      exact ⟨c0, c1⟩
    obtain ⟨hD, hDl⟩ := DInv.start hcells hf hi0 ht hall
    have HD := Lib.hid hD
    have HDL := Lib.hid hDl
    have HB := Lib.hid hblk
    have HP := Lib.hid hp
    have hi0I : (i0 : Int) < l.length := by omega
    have hne1 : ((i0 : Int) == -1) = false := beq_eq_false_iff_ne.2 (by omega)
    have HF := Lib.hid hf
    have hz : ∀ w, (zeroValue 32).run Tryd.prog w = .ok (.agg #[.string ⟨#[]⟩, .string ⟨#[]⟩]) w := fun w => by kernel_rfl
    have HZ := Lib.hid hz
    clear hix hblk hrow hp hall e1 hcells hD hDl ht hf hz
    go_enter Tryd.func32, Tryd.ntmps32
    go_wp2_with fail
    refine HIX.out.mono ?_
    rintro e w1 ⟨rfl, h1⟩
    have G1 := Lib.hid (only_of_below h1 (some b))
    have K1 := Lib.hid (HB.out.below h1 hblt)
    clear h1
    go_wp2_with fail
    go_loopg [5, 6, 7] (l.length - (i0 + 1)) (fun gg iv jv _ wr => ∃ (i j : Nat) (cr : Array Value), iv = .int .i64 i ∧ jv = .int .i64 j ∧ j ≤ l.length ∧ i < j ∧ gg = l.length - j ∧ w.grownBy wr (some b) ∧ Blk wr b T cr ∧ Hid (DInv p l cr cur.size j) ∧ Hid (i = ((l.take j).filter fun r => !p r).length))
    case atStart => exact ⟨i0, i0 + 1, cur, rfl, by go_num, by omega, by omega, rfl, G1.out, K1.out, HD, Lib.hid HDL.out.symm⟩
    case round =>
      obtain ⟨i, j, cr, rfl, rfl, hj, hij, hgg, hgw, hbl, HI, HL⟩ := hrel
      have HG := Lib.hid hgg
      have HW := Lib.hid hgw
      have HK := Lib.hid hbl
      have hwz := hgw.size
      clear hgg hgw hbl
      have hiI : (i : Int) < j := by omega
      have hjI : (j : Int) ≤ 1000000 := by omega
      by_cases hlt : j < l.length
      · have hltI : (j : Int) < l.length := by omega
        obtain ⟨k0, k1⟩ := HI.out.high j hlt (Nat.le_refl _)
        have hsz := HI.out.size
        have hft := HI.out.fits
        have d0 : wr.cell? ⟨b, j * 2, none⟩ = some (.string (bs l[j].1)) := (HK.out.cell _).trans k0
        have d1 : wr.cell? ⟨b, j * 2 + 1, none⟩ = some (.string (bs l[j].2)) := (HK.out.cell _).trans k1
        have hpp := HP.out l[j] (List.getElem_mem hlt) (wr.alloc (.cells #[.string (bs l[j].1), .string (bs l[j].2)] 32)) (only_alloc HW.out _)
        have HSK := Lib.hid (fun (h : p l[j] = true) => HI.out.skip hlt h)
        have HKE := Lib.hid (fun (h : p l[j] = false) => HI.out.keep hlt h HL.out)
        have HKS := Lib.hid (kept_snoc p l j hlt)
        obtain ⟨r, hrd⟩ : ∃ r, r = l[j] := ⟨_, rfl⟩
        rw [← hrd] at d0 d1 hpp HSK HKE HKS
        obtain ⟨q, hq⟩ : ∃ q, q = p r := ⟨_, rfl⟩
        rw [← hq] at hpp
        unfold prv at hpp
        have PP := Lib.hid hpp
        have HQ := Lib.hid hq
        have x0 : ∃ v0, cr[i * 2]? = some v0 := ⟨_, Array.getElem?_eq_getElem (by omega)⟩
        have x1 : ∃ v1, cr[i * 2 + 1]? = some v1 := ⟨_, Array.getElem?_eq_getElem (by omega)⟩
        obtain ⟨v0, x0⟩ := x0
        obtain ⟨v1, x1⟩ := x1
        have X0 := Lib.hid x0
        have X1 := Lib.hid x1
        have hbw := HK.out.lt
        clear k0 k1 hrd hpp hq x0 x1 hsz hft
        cases q
        · go_wp2_with fail
          refine PP.out.mono ?_
          rintro e w2 ⟨rfl, hb2⟩
          have hb2s : wr.heap.size + 1 ≤ w2.heap.size := by simpa using hb2.size
          have z2 := (Blk.new wr 32 #[.string (bs r.1), .string (bs r.2)]).below hb2 (by simp)
          have y0 : w2.cell? ⟨wr.heap.size, 0, none⟩ = some (.string (bs r.1)) := z2.cell 0
          have y1 : w2.cell? ⟨wr.heap.size, 1, none⟩ = some (.string (bs r.2)) := z2.cell 1
          have KK := (HK.out.alloc (.cells #[.string (bs r.1), .string (bs r.2)] 32)).below hb2 (by simp; omega)
          have G2 := Lib.hid (only_trans (only_alloc HW.out (.cells #[.string (bs r.1), .string (bs r.2)] 32)) (only_of_below hb2 (some b)))
          have s0 : w2.cell? ⟨b, i * 2, none⟩ = some v0 := (KK.cell _).trans X0.out
          have s1 : w2.cell? ⟨b, i * 2 + 1, none⟩ = some v1 := (KK.cell _).trans X1.out
          have f0 := KK.frozen (i * 2)
          have f1 := KK.frozen (i * 2 + 1)
          have K2 := Lib.hid KK
          clear hb2 z2 KK
          go_wp2_with fail
          trace_state
          go_roundg (l.length - (j + 1))
          case measure => have := HG.out; omega
          case rel =>
            refine ⟨i + 1, j + 1, _, by go_num, by go_num, by omega, by omega, rfl, only_setCell (only_setCell G2.out (.inl rfl) _) (.inl rfl) _, (K2.out.set_ (i * 2) _).set_ (i * 2 + 1) _, Lib.hid (HKE.out HQ.out.symm), Lib.hid ?_⟩
            rw [HKS.out, ← HQ.out, HL.out]
            simp
        · go_wp2_with fail
          refine PP.out.mono ?_
          rintro e w2 ⟨rfl, hb2⟩
          have hb2s : wr.heap.size + 1 ≤ w2.heap.size := by simpa using hb2.size
          have KK := (HK.out.alloc (.cells #[.string (bs r.1), .string (bs r.2)] 32)).below hb2 (by simp; omega)
          have G2 := Lib.hid (only_trans (only_alloc HW.out (.cells #[.string (bs r.1), .string (bs r.2)] 32)) (only_of_below hb2 (some b)))
          have K2 := Lib.hid KK
          clear hb2 KK
          go_wp2_with fail
          go_roundg (l.length - (j + 1))
          case measure => have := HG.out; omega
          case rel =>
            refine ⟨i, j + 1, cr, rfl, by go_num, by omega, by omega, rfl, G2.out, K2.out, Lib.hid (HSK.out HQ.out.symm), Lib.hid ?_⟩
            rw [HKS.out, ← HQ.out, HL.out]
            simp
      · obtain rfl : j = l.length := by omega
        have hltI : ¬ (l.length : Int) < (l.length : Int) := by omega
        have hsz := HI.out.size
        have hft := HI.out.fits
        obtain ⟨cr', hs', hlow, hclr⟩ := run_clear_row (P := Tryd.prog) wr 23 32 0 _ Tryd.underlying23 HZ.out (by intro u hu; simp [Value.cells] at hu; rcases hu with rfl | rfl <;> rfl) b (i * 2) (l.length - i) (c - i) cr T HK.out (by omega) (by rw [show (Value.agg #[.string ⟨#[]⟩, .string ⟨#[]⟩] : Value).cells.size = 2 from rfl]; omega)
        have HLW := Lib.hid hlow
        have HS' := Lib.hid hs'
        have HSZ := Lib.hid hsz
        clear hsz hft hlow hs'
        go_wp2_with fail
        go_ret
        have hL := HL.out
        rw [List.take_length] at hL
        have hblk' : Blk (wr.setRow b cr') b T cr' := HK.out.row cr'
        refine ⟨by rw [hL]; rfl, ⟨cr', hblk', by rw [HS'.out, HSZ.out]⟩, fun m hm => ?_, only_setRow HW.out (.inl rfl) _⟩
        have := HI.out.done (Nat.le_refl _) (cr' := cr') (fun i' h => HLW.out i' (by omega)) m hm
        rw [Nat.zero_add, hblk'.cell, hblk'.cell]
        exact this

theorem index_nil (x y : Nat) (fv : Value) (w : World) :
    Calls Tryd.prog 36 #[.slice none 0 y, fv] w fun e w' => e = .returned (.int .i64 (-1)) ∧ Below w.heap.size w w' := by
  go_enter Tryd.func36, Tryd.ntmps36
  go_wp2_with fail
  refine wp_loop_rounds 1 ?_
  rw [rounds_succ]
  go_wp2_with fail
  go_ret
  exact ⟨rfl, Below.refl _ _⟩
theorem delete_nil (g : Nat) (lb : Array Value) (w : World) :
    Calls Tryd.prog 32 #[.slice none 0 0, .func (.func g) #[] lb] w fun e w' => e = .returned (.slice none 0 0) ∧ Below w.heap.size w w' := by
  go_enter Tryd.func32, Tryd.ntmps32
  go_wp2_with fail
  refine (index_nil 0 _ _ _).mono ?_
  rintro e w1 ⟨rfl, h1⟩
  have B1 := Lib.hid h1
  clear h1
  go_wp2_with fail
  go_ret
  exact ⟨rfl, B1.out⟩

/-- slices.DeleteFunc at a slice of the call's own. -/
theorem delete_any {w : World} {B : Nat} {v : Value} {l : List Px.Rec} (h : HasR w B v l) (p : Px.Rec → Bool) (g : Nat) (lb : Array Value) (eg : ∀ args w, (callFunc g args).run Tryd.prog w = .ok (.enter g args) w) (hl : l.length ≤ 1000000)
    (hp : ∀ r ∈ l, ∀ w', w.grownBy w' v.ownBlock → Calls Tryd.prog g (#[prv (bs r.1) (bs r.2)] ++ lb) w' fun e w'' => e = .returned (.bool (p r)) ∧ Below w'.heap.size w' w'') :
    Calls Tryd.prog 32 #[v, .func (.func g) #[] lb] w fun e w' => ∃ v', e = .returned v' ∧ HasR w' B v' (l.filter fun r => !p r) ∧ w.grownBy w' v.ownBlock := by
  obtain ⟨h1, hw⟩ := h
  rcases hw with ⟨rfl, h0⟩ | ⟨b, c, cur, rfl, hB, hg, hc, hcm, hcs, ht⟩
  · obtain rfl := List.length_eq_zero_iff.1 h0
    exact (delete_nil _ _ w).mono fun e w' ⟨he, hw⟩ => ⟨_, he, (show HasR w' B (.slice none 0 0) [] from World.ownsRow_nil _ _ _ _), only_of_below hw _⟩
  · have hrow : RowR w b 0 l := by
      rcases HasR.ways (⟨h1, .inr ⟨b, c, cur, rfl, hB, hg, hc, hcm, hcs, ht⟩⟩ : HasR w B _ l) with ⟨h0, _⟩ | ⟨g', c', e', _, _, _, hr⟩
      · cases h0
      · cases e'; exact hr
    refine (delete_rows l b c _ cur p g lb eg w hg hrow (by omega) hl hc (by unfold maxLen at hcm; exact hcm) hp).mono fun e w' ⟨he, ⟨cur', hb', hs'⟩, hr', hg'⟩ => ⟨_, he, ?_, hg'⟩
    have hle : (l.filter fun r => !p r).length ≤ l.length := List.length_filter_le _ _
    refine ⟨rcCells_len _, .inr ⟨b, c, cur', rfl, hB, hb', by omega, hcm, by rw [hs', hcs], ?_⟩⟩
    apply List.ext_getElem?
    intro i
    by_cases hi : i < (l.filter fun r => !p r).length * 2
    · rw [List.getElem?_take, if_pos hi, Array.getElem?_toList, ← hb'.cell]
      have hj : i / 2 < (l.filter fun r => !p r).length := by omega
      obtain ⟨g1, g2⟩ := rcCells_get _ (i / 2) hj
      obtain ⟨c1, c2⟩ := hr' (i / 2) hj
      rw [Nat.zero_add] at c1 c2
      rcases (by omega : i = i / 2 * 2 ∨ i = i / 2 * 2 + 1) with e | e
      · rw [e, g1, c1]
      · rw [e, g2, c2]
    · rw [List.getElem?_eq_none (by rw [List.length_take]; omega), List.getElem?_eq_none (by rw [rcCells_len]; omega)]

end Go.Proofs.YtjafjhhmjfpmoaaDoor
