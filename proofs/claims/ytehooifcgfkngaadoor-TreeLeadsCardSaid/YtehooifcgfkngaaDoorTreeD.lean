/-
  slices.SortFunc of names; (*Tree).Names.
-/
import Derived.Test.YtehooifcgfkngaaDoorTreeC
namespace Go.Proofs.YtehooifcgfkngaaDoor
open Go.RowKit Go.Maps Tre Go.Sort

/-- Names that are short enough. -/
abbrev Nm := { x : Pth.Bs // x.length ≤ 1000 }
instance : Inhabited Nm := ⟨⟨[], Nat.zero_le _⟩⟩
def cfN (x y : Nm) : Int := Pth.cmp (Pth.parts x.1) (Pth.parts y.1)
def encN (x : Nm) : Value := .string (bs x.1)
theorem ltN (x y : Nm) : ltOf cfN x y = decide (Pth.cmp (Pth.parts x.1) (Pth.parts y.1) < 0) := rfl
theorem swoN : SWO (ltOf cfN) := by
  refine ⟨fun x => ?_, fun x y z h1 h2 => ?_, fun x y z h1 h2 => ?_⟩
  · rw [ltN]; exact decide_eq_false (by rw [(Pth.cmp_zero _ _).2 rfl]; omega)
  · rw [ltN] at *
    exact decide_eq_true (Pth.cmp_trans _ _ _ (of_decide_eq_true h1) (of_decide_eq_true h2))
  · rw [ltN] at *
    have a := of_decide_eq_false h1
    have b := of_decide_eq_false h2
    have a' : Pth.cmp (Pth.parts y.1) (Pth.parts x.1) ≤ 0 := by
      rcases Int.lt_or_le 0 (Pth.cmp (Pth.parts y.1) (Pth.parts x.1)) with h | h
      · exact absurd ((Pth.cmp_anti _ _).2 h) a
      · exact h
    have b' : Pth.cmp (Pth.parts z.1) (Pth.parts y.1) ≤ 0 := by
      rcases Int.lt_or_le 0 (Pth.cmp (Pth.parts z.1) (Pth.parts y.1)) with h | h
      · exact absurd ((Pth.cmp_anti _ _).2 h) b
      · exact h
    have c := cmp_le_trans _ _ _ b' a'
    exact decide_eq_false fun h => by have := (Pth.cmp_anti _ _).1 h; omega

theorem heap_sorted1 {α : Type} [Inhabited α] {enc : α → Value} {w : World} {g n : Nat} {os : Array Obj} {cur : Array Value} {e : TypeId} {fr : Nat × Nat} (d : Array α) (hb : w.heap[g]? = some (.cells cur e fr)) :
    (grow (putRow enc (Sort.ahead w n) g 0 d) os).heap[g]? = some (.cells (putCells enc 0 d cur) e fr) := by
  have hg : g < w.heap.size := (Array.getElem?_eq_some_iff.1 hb).1
  rw [heap_grow_old _ _ (by simpa using hg)]
  simp [putRow, mapBlock, Sort.ahead, Array.getElem?_modify, hb, onCells]
theorem grownBy_sorted1 {α : Type} [Inhabited α] {enc : α → Value} {w : World} {g n : Nat} {os : Array Obj} (d : Array α) : w.grownBy (grow (putRow enc (Sort.ahead w n) g 0 d) os) (some g) := by
  refine ⟨rfl, rfl, rfl, by simp, fun k hk hne => ?_⟩
  rw [heap_grow_old _ _ (by simpa using hk)]
  have : g ≠ k := fun e => hne (by rw [e])
  simp [putRow, mapBlock, Sort.ahead, Array.getElem?_modify, this]
theorem take_putCells1 {α : Type} [Inhabited α] (enc : α → Value) (cur : Array Value) (d : Array α) (h : d.size ≤ cur.size) : (putCells enc 0 d cur).toList.take d.size = d.toList.map enc := by
  apply List.ext_getElem?
  intro j
  by_cases hj : j < d.size
  · rw [List.getElem?_take_of_lt hj, Array.getElem?_toList, List.getElem?_map, Array.getElem?_toList]
    simp [putCells, hj, show j < cur.size by omega]
  · rw [List.getElem?_take_eq_none (by omega), List.getElem?_eq_none (by simp; omega)]

theorem ML.kept {w w' : World} (h : ML w) (e : w'.heap[0]? = w.heap[0]?) : ML w' := by
  obtain ⟨m, h⟩ := h
  exact ⟨m, (World.cell?_of_block (a := ⟨0, 0, none⟩) e).trans h⟩

/-- slices.SortFunc at names of the call's own. -/
theorem sort_texts {w : World} {B : Nat} {v : Value} {l : List Pth.Bs} (h : HasT w B v l) (hl : l.length ≤ 100000) (hs : ∀ x ∈ l, x.length ≤ 1000) (hm : ML w) (hB : 0 < B) :
    Calls Tryd.prog 27 #[v, .func (.func 28) #[] #[]] w fun e w' => e = .returned (.tuple #[]) ∧ ∃ M : List Pth.Bs, M.Perm l ∧ (M.Pairwise fun a b => Pth.cmp (Pth.parts a) (Pth.parts b) ≤ 0) ∧ HasT w' B v M ∧ w.grownBy w' v.ownBlock := by
  rcases h.ways with ⟨rfl, rfl⟩ | ⟨g, cap, cur, rfl, hBg, hg, hc, hblk, hcs, hcm, hrow⟩
  · exact (Tryd.slices_SortFunc_none (α := Nm) none 0 _ w).mono fun e w' ⟨he, hw⟩ => ⟨he, [], List.Perm.refl _, List.Pairwise.nil, (by subst hw; exact h), by subst hw; exact only_refl _ _⟩
  · obtain ⟨d, hd⟩ : ∃ d : List Nm, d.map (·.1) = l := ⟨l.attach.map fun x => ⟨x.1, hs x.1 x.2⟩, by rw [List.map_map]; exact (List.attach_map_val (f := id)).trans (List.map_id l)⟩
    have hdl : d.length = l.length := by rw [← hd, List.length_map]
    have hH : Holds encN w g 0 d.toArray := by
      intro j hj
      have hj' : j < d.length := by simpa using hj
      refine ⟨?_, hblk.frozen _⟩
      rw [hrow j (by omega)]
      rw [getElem!_pos d.toArray j hj]
      simp only [List.getElem_toArray, encN]
      congr 2
      simp only [← hd, List.getElem_map]
    have hcmp : CmpLays1 Tryd.prog 28 #[] encN cfN g 0 d.toArray.size w := fun m os dk _ x y => by
      have hm' : ML (sortWorld encN w g 0 m dk os) := hm.kept ((grownBy_sorted1 (enc := encN) (n := m) (os := os) (g := g) dk).block 0 hm.lt (by intro e; injection e with e; omega))
      refine (order_drawn (bs x.1) (bs y.1) _ (by rw [bs_size]; have := x.2; omega) (by rw [bs_size]; have := y.2; omega) hm').mono fun e w' ⟨he, hb, hd⟩ => ⟨he, below_grow hb hd⟩
    have hh := Tryd.slices_SortFunc encN (fun _ => rfl) cfN swoN 28 #[] g 0 cap d.toArray w (enters_of Tryd.func28 (by kernel_rfl) rfl) hcmp hH hg (by simp; omega)
    have hz : d.toArray.size = l.length := by simp [hdl]
    rw [hz] at hh
    refine hh.mono fun e w' ⟨he, d', n, os, hp, hso, hw⟩ => ⟨he, d'.toList.map (·.1), ?_, ?_, ?_, ?_⟩
    · have := hp.2.2
      have hd2 : d'.size = l.length := by rw [hp.1]; simp [hdl]
      rw [show d'.extract 0 l.length = d' from by rw [← hd2]; simp, show d.toArray.extract 0 l.length = d.toArray from by rw [← hdl]; simp] at this
      rw [← hd]
      have h2 : d'.toList.Perm d := by simpa using this
      exact h2.map _
    · rw [List.pairwise_map, List.pairwise_iff_getElem]
      intro i j hi hj hij
      have hd2 : d'.size = l.length := by rw [hp.1]; simp [hdl]
      have hi' : i < d'.size := by simpa using hi
      have hj' : j < d'.size := by simpa using hj
      have := hso i j (Nat.zero_le _) hij (by omega)
      rw [getElem!_pos d' j hj', getElem!_pos d' i hi', ltN] at this
      have h3 := of_decide_eq_false this
      simp only [Array.getElem_toList]
      rcases Int.lt_or_le 0 (Pth.cmp (Pth.parts d'[i].1) (Pth.parts d'[j].1)) with h4 | h4
      · exact absurd ((Pth.cmp_anti _ _).2 h4) h3
      · exact h4
    · have hd2 : d'.size = l.length := by rw [hp.1]; simp [hdl]
      rw [hw]
      have hlen : (d'.toList.map (·.1)).length = l.length := by simp [hd2]
      unfold HasT
      rw [hlen]
      have htx : txCells (d'.toList.map (·.1)) = d'.toList.map encN := by unfold txCells; rw [List.map_map]; rfl
      refine ⟨by rw [htx]; simp [hd2], .inr ⟨g, cap, putCells encN 0 d' cur, rfl, hBg, heap_sorted1 d' hblk, hc, hcm, by simp [putCells, hcs], ?_⟩⟩
      rw [htx, Nat.mul_one, ← hd2]
      exact take_putCells1 encN cur d' (by rw [hd2, hcs]; exact hc)
    · rw [hw]
      exact grownBy_sorted1 _

theorem HasT.kept {w w' : World} {B r : Nat} {v : Value} {l : List (List UInt8)} (h : HasT w B v l) (hg : w.grownBy w' (some r)) (hne : ∀ q, v.ownBlock = some q → q ≠ r) : HasT w' B v l :=
  World.ownsRow.kept h hg (.inr fun e => hne r e rfl)
theorem RangeO.grown {P : Program} {K : TypeId} {w w' : World} {o : Option Nat} {r n cnt : Nat} {f : Lit → Option Value} {ds : List (Lit × Value)} {row : Option Nat} (h : RangeO w P K o r f n ds cnt) (hg : w.grownBy w' row) (hr : row ≠ some r) (ho : ∀ b, o = some b → row ≠ some b) : RangeO w' P K o r f n ds cnt :=
  h.kept hg.size ⟨hg.os, hg.tape, hg.output⟩ fun b e => by
    rcases e with e | rfl
    · exact hg.block b (h.mapO.lt b e) (Ne.symm (ho b e))
    · exact hg.block b h.lt (Ne.symm hr)
def keyS (p : Lit × Value) : Pth.Bs := match p.1 with | .string x => x | _ => []
theorem keys_names {t : T} (ht : Apart t.ents) {ds : List (Lit × Value)} (h : Whole (namesF t.ents) ds) : (ds.map keyS).Perm (t.ents.map (·.1)) := by
  have := (whole_perm ht h).map keyS
  rw [List.map_map] at this
  exact this

set_option maxRecDepth 100000 in
set_option maxHeartbeats 2000000 in
theorem names_any {w : World} {g : Nat} {on of : Option Nat} {t : T} (h : TreeAt w g on of t) (ht : Std t) (hm : ML w) :
    Calls Tryd.prog 11 #[.pointer (some ⟨g, 0, none⟩)] w fun e w' => ∃ v, e = .returned v ∧ HasT w' w.heap.size v t.names ∧ Below w.heap.size w w' := by
  obtain ⟨i0, i1, i2, i3, i4⟩ := info_parts infoTx
  have c0 := h.blk.cell 0
  have HT := Lib.hid h
  have HS := Lib.hid ht
  have HM := Lib.hid hm
  have hc60 := ht.cn
  clear h ht hm
  go_enter Tryd.func11, Tryd.ntmps11
  go_wp2_with fail
  refine (of_any g w HT.out.blk).mono ?_
  rintro e w' ⟨rfl, hw⟩
  subst w'
  go_wp2_with (first
    | (refine wpList_o_range rfl (.tmp 9) 55 rfl 3 strL Tryd.underlying55 HT.out.nm rfl ?_; intro w0 hr0 hb0 hs0; have HR0 := Lib.hid hr0; have HB0 := Lib.hid hb0; have HS0 := Lib.hid hs0; clear hr0 hb0 hs0))
  go_frame
  go_loopg [3] t.ents.length (fun gg s3 wr => ∃ ds, Hid (HasT wr (w.heap.size + 1) s3 (ds.map keyS)) ∧ Hid (RangeO wr Tryd.prog 9 on w.heap.size (namesF t.ents) t.ents.length ds gg) ∧ Hid (Below w.heap.size w wr) ∧ ds.length + gg ≤ 60 ∧ w.heap.size + 1 ≤ wr.heap.size ∧ ∀ x ∈ ds.map keyS, x.length ≤ 120)
  case atStart => exact ⟨[], Lib.hid (World.ownsRow_nil _ _ _ _), HR0, HB0, by simpa using hc60, by have := HS0.out; omega, by simp⟩
  case round =>
    obtain ⟨ds, HO, HR, HB, hlen, hsz0, hshort⟩ := hrel
    obtain ⟨X, cap, rfl, _⟩ := HO.out.form
    have hlk : (ds.map keyS).length = ds.length := List.length_map _
    rw [hlk] at HO ⊢
    have HSH := Lib.hid hshort
    have HLK := Lib.hid hlk
    clear hshort hlk
    repeat' ((fail_if_success (with_reducible refine halt_at 3 ?_)); first | go_values | go_skip | go_guarded | go_step | go_upon | go_back | (simp only [Int.not_lt, Int.not_le] at *; go_simp) | (go_values <;> (try go_simp)) | (go_ite <;> go_prune <;> (try go_simp)) | (split <;> (first | (rename_i hx; exact (hx _ rfl).elim) | go_prune)))
    repeat' ((fail_if_success (with_reducible refine halt_at 5 ?_)); first
      | (refine wpList_o_next rfl (.tmp 10) rfl strL HR.out rfl (fun hc hwh => ?_) (fun key v kl w2 cnt2 hkey hfk hnin hrg hlt hgr hsz hen => ?_))
      | go_values | go_skip | go_guarded | go_step | go_upon | go_back | (simp only [Int.not_lt, Int.not_le] at *; go_simp) | (go_values <;> (try go_simp)) | (go_ite <;> go_prune <;> (try go_simp)) | (split <;> (first | (rename_i hx; exact (hx _ rfl).elim) | go_prune)))
    · have hp := keys_names HS.out.nd hwh
      have ST := Lib.hid (sort_texts HO.out (by rw [HLK.out]; omega) (fun x hx => Nat.le_trans (HSH.out x hx) (by omega)) (HM.out.below HB.out) (Nat.lt_succ_of_lt HM.out.lt))
      have HP := Lib.hid hp
      clear hp hwh hc
      refine ST.out.mono ?_
      rintro e w3 ⟨rfl, M, hM1, hM2, hM3, hM4⟩
      have e1 := eq_names HS.out (hM1.trans HP.out) hM2
      subst e1
      have H3 := Lib.hid hM3
      have H4 := Lib.hid hM4
      clear hM1 hM2 hM3 hM4
      go_wp2_with fail
      go_ret
      exact ⟨_, rfl, H3.out.mono (Nat.le_succ _), HB.out.grown H4.out (Nat.le_trans (Nat.le_succ _) hsz0) (fun q hq => Nat.le_of_succ_le (World.ownsRow.lt (show wr.ownsRow (w.heap.size + 1) 9 1 _ _ _ from HO.out) q hq).1)⟩
    · obtain ⟨x, k, rfl, rfl, hlk, rfl⟩ := names_key hkey hfk
      have hx := (HS.out.short hlk).1
      have HO2 := Lib.hid (HasT.kept HO.out hgr (fun q hq e => by have := (World.ownsRow.lt (show wr.ownsRow (w.heap.size + 1) 9 1 _ _ _ from HO.out) q hq).1; omega))
      have HR2 := Lib.hid hrg
      have HB2 := Lib.hid (HB.out.trans (below_of_only (Below.refl _ _) hgr HB.out.size (Nat.le_refl _)))
      have HLT := Lib.hid hlt
      have hz2 : w.heap.size + 1 ≤ w2.heap.size := by omega
      have hdl : ds.length ≤ 60 := by omega
      clear hlk hnin hrg hlt hgr hsz hkey hfk hen
      go_wp2_with (first
        | (at_builtin; refine wpList_append_own _ rfl (.tmp 15) (.tmp 17) 26 rfl (w.heap.size + 1) 9 i0 _ 1 16 Tryd.underlying26 i1 i2 i3 i4 rfl (by decide) (.slice X ds.length cap) ds.length (txCells (ds.map keyS)) rfl ((show w2.ownsRow (w.heap.size + 1) 9 1 (.slice X ds.length cap) ds.length (txCells (ds.map keyS)) from by have h := HO2.out; unfold HasT at h; rw [HLK.out] at h; exact h).alloc _) ⟨w2.heap.size, 0, none⟩ 1 1 [.string x] rfl rfl (new_text rfl _ _) (by intro u hu; simp at hu; subst hu; rfl) (by unfold maxLen; omega) (by omega) (by simp; omega) ?_; intro v' w7 hown' hgrow _))
      have hl2 := World.ownsRow.lt (show w2.ownsRow (w.heap.size + 1) 9 1 (.slice X ds.length cap) _ _ from HO2.out)
      have HR7 := Lib.hid ((HR2.out.below ((Below.refl _ _).alloc (Nat.le_refl _) (.cells #[.string x] 9))).grown hgrow (fun e => by have := (hl2 _ e).1; omega) (fun b hb e => by have := (hl2 _ e).1; have := HT.out.nm.lt b hb; omega))
      have HB7 := Lib.hid ((HB2.out.alloc HB2.out.size (.cells #[.string x] 9)).grown hgrow (by have := HB2.out.size; simp; omega) (fun q hq => by have := (hl2 _ hq).1; omega))
      have HO7 : HasT w7 (w.heap.size + 1) v' (ds.map keyS ++ [x.data.toList]) := HasT.pushed (by rw [HLK.out, bs_of]; exact hown')
      have HO8 := Lib.hid HO7
      have hz7 := hgrow.size
      simp at hz7
      have HX := Lib.hid hx
      clear hl2 HO7 hown' hgrow hx
      go_roundg cnt2
      case measure => exact HLT.out
      case rel =>
        refine ⟨ds ++ [(.string x.data.toList, .int .i64 k)], ?_, HR7, HB7, by have := HLT.out; simp; omega, by omega, ?_⟩
        · rw [List.map_append]; exact HO8
        · intro y hy
          rw [List.map_append] at hy
          rcases List.mem_append.1 hy with hy | hy
          · exact HSH.out y hy
          · obtain rfl : y = x.data.toList := by simpa [keyS] using hy
            exact HX.out

end Go.Proofs.YtehooifcgfkngaaDoor
