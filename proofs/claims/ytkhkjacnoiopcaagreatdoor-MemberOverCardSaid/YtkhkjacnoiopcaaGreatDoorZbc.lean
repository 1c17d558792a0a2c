/-
  pax.Merge.
-/
import Derived.Test.YtkhkjacnoiopcaaGreatDoorZbb
import Derived.Shelf.SlIter.AllValuesS
import Derived.RangeFuncNested
import Derived.RangeFuncBound
import Derived.RangeFuncCalls
import Derived.RangeFuncLeaves
import Derived.RangeFuncBox
import Derived.RangeFuncWrites
import Derived.Shelf.Abstract
import Derived.Shelf.RegionOpen
import Derived.OwnWalkIn
import Derived.TacticsInMore
import Derived.LoopNIn
import Derived.LoopIn
import Derived.Maps.OwnIn
import Derived.Maps.AppendAt
import Derived.Maps.OwnSet
import Derived.StringKeys
set_option linter.unusedVariables false
set_option linter.unusedSimpArgs false

set_option linter.unusedVariables false
set_option linter.unusedSimpArgs false
namespace Go.Proofs.YtkhkjacnoiopcaaGreatDoor
open Go.RowKit Go.Maps Go.Shelf
attribute [local go_sem] Oper.semAt_some

/-- What the map holds behind the records l. -/
def MapS (W : World) (b : Nat) (l : List Px.Rec) : Prop :=
  ∃ D : DataW Unit, W.ownsMap Tryz.prog 9 (plainElem Tryz.prog 9) b l.length D ∧ ∀ k z, D.atKey (.string k) z = match Px.lastV l k with | some v => .lit (.string v) | none => z
theorem MapS.lt {W : World} {b : Nat} {l : List Px.Rec} (h : MapS W b l) : b < W.heap.size := by obtain ⟨D, h, _⟩ := h; exact h.lt
theorem MapS.kept {W W' : World} {b : Nat} {l : List Px.Rec} {row : Option Nat} (h : MapS W b l) (hg : W.grownBy W' row) (hne : some b ≠ row) : MapS W' b l := by obtain ⟨D, h, r⟩ := h; exact ⟨D, h.kept hg hne, r⟩
theorem MapS.alloc {W : World} {b : Nat} {l : List Px.Rec} (h : MapS W b l) (o : Obj) : MapS (W.alloc o) b l := by obtain ⟨D, h, r⟩ := h; exact ⟨D, h.alloc o, r⟩
theorem MapS.made (w : World) : MapS (w.alloc (.map #[] 0)) w.heap.size [] := ⟨.map [], World.ownsMap_made w _ _ _, fun k z => rfl⟩
theorem mapS_step {W : World} {b : Nat} {l : List Px.Rec} {D : DataW Unit} (hm : Maps.IsMap D) (hD : ∀ k z, D.atKey (.string k) z = match Px.lastV l k with | some v => .lit (.string v) | none => z) (r : Px.Rec)
    (ho : W.ownsMap Tryz.prog 9 (plainElem Tryz.prog 9) b (l.length + 1) (D.put (.string r.1) (.lit (.string r.2)))) : MapS W b (l ++ [r]) := by
  refine ⟨_, by rw [List.length_append]; exact ho, fun k z => ?_⟩
  rw [Px.lastV_snoc]
  by_cases h : r.1 = k
  · subst h
    rw [Maps.atKey_put_same (k := .string r.1) hm trivial]; simp
  · rw [Maps.atKey_put_other (fun e => h (by cases e; rfl)), hD, if_neg h]

/-- Lists of records behind a slice of slices. -/
def ListsIn (W : World) (g : Nat) (ls : List (List Px.Rec)) : Prop := ∀ (i : Nat) (hi : i < ls.length), ∃ v, W.cell? ⟨g, i, none⟩ = some v ∧ PairsIn W v ls[i]
theorem ListsIn.below {W W' : World} {g : Nat} {ls : List (List Px.Rec)} (h : ListsIn W g ls) (hb : Below W.heap.size W W') (hg : g < W.heap.size) : ListsIn W' g ls := fun i hi => by
  obtain ⟨v, hc, hp⟩ := h i hi
  exact ⟨v, (hb.cell (p := ⟨g, i, none⟩) hg).trans hc, hp.below hb⟩

theorem own_sizeU {w : World} {b n : Nat} {D : DataW Unit} (h : w.ownsMap Tryz.prog 9 (plainElem Tryz.prog 9) b n D) : Maps.size D ≤ n := by
  obtain ⟨es, clock, hb, F, hs, rfl⟩ := h
  rw [Maps.size_eq, length_sorted]; simpa using hs
theorem strKeys_len {D : DataW Unit} : (strKeys D).length = Maps.size D := by
  cases D <;> simp [strKeys, Maps.size]
theorem strKeys_nodup {w : World} {b n : Nat} {D : DataW Unit} (ho : w.ownsMap Tryz.prog 9 (plainElem Tryz.prog 9) b n D) : (strKeys D).Nodup := by
  obtain ⟨es, hD, hpw, _⟩ := ho.entries (string_keyed Tryz.underlying9)
  obtain ⟨es', hD', hko⟩ := ho.keysOf
  obtain rfl : es = es' := by rw [hD] at hD'; simpa using hD'
  subst hD
  have hk : ∀ p ∈ es, ∃ x, p.1 = .string x := fun p hp => by obtain ⟨v, hv⟩ := hko p hp; obtain ⟨x, _, hx, _⟩ := Maps.keyOf_str Tryz.underlying9 hv; exact ⟨x, hx⟩
  show (es.map fun p => strOf p.1).Nodup
  refine List.pairwise_map.2 (hpw.imp_of_mem fun {p q} hp' hq' hne e => hne ?_)
  obtain ⟨a, ha⟩ := hk p hp'
  obtain ⟨b, hb⟩ := hk q hq'
  rw [ha, hb] at e ⊢
  exact congrArg _ e
/-- What the entries that have come are merged to. -/
theorem ends_merge {w : World} {b n : Nat} {l : List Px.Rec} {D : DataW Unit} (ho : w.ownsMap Tryz.prog 9 (plainElem Tryz.prog 9) b n D) (hD : ∀ k z, D.atKey (.string k) z = match Px.lastV l k with | some v => .lit (.string v) | none => z)
    {ps : List Px.Rec} (hp : AnyYS.AllOf D ps) : ∀ M : List Px.Rec, M.Perm (ps.filter fun p => p.2 != []) → (M.Pairwise fun p q => ¬ q.1 < p.1) → Px.IsMerge l M := by
  obtain ⟨h1, h2, h3⟩ := hp
  intro M hM hs
  refine Px.merge_of (ps := ps) ?_ (fun k v => ?_) hM hs
  · have := h1.nodup_iff.2 (strKeys_nodup ho)
    exact List.pairwise_map.1 this
  · constructor
    · intro hm
      have := h3 _ hm (.lit (.string (v ++ [0])))
      rw [hD] at this
      cases hl : Px.lastV l k with
      | some u => rw [hl] at this; cases this; rfl
      | none => rw [hl] at this; simp at this
    · intro hl
      have hh : Maps.has D (.string k) = true := Maps.has_true_of_atKey (y := .lit (.string v)) fun z => by rw [hD, hl]
      obtain ⟨p, hp, rfl⟩ := List.mem_map.1 ((h2 k).2 hh)
      have := h3 p hp .nil
      rw [hD, hl] at this
      cases this
      exact hp
/-- What is collected of the entries. -/
def kept (ps : List Px.Rec) : List Px.Rec := ps.filter fun p => p.2 != []
theorem flat_take_le (ls : List (List Px.Rec)) (i : Nat) (h : ls.flatten.length ≤ 1000000) : (ls.take i).flatten.length ≤ 1000000 := by
  have e : ls.flatten = (ls.take i).flatten ++ (ls.drop i).flatten := by rw [← List.flatten_append, List.take_append_drop]
  rw [e, List.length_append] at h
  omega
theorem all_call (n : Nat) (b : Nat) (w : World) : CallsIn Fence.wide n Tryz.prog 137 #[.map (some b)] w fun e w' => e = .returned (.func (.func 166) #[] #[.pointer (some ⟨w.heap.size, 0, none⟩)]) ∧ w' = w.alloc (.cells #[.map (some b)] 201) :=
  AnyYS.all_in Tryz.allM Fence.wide n trivial rfl (some b) w
theorem all_seq (n : Nat) (hn : 1 ≤ n) (Bm b nn : Nat) (D0 : DataW Unit) (w : World) (hBm : Bm < w.heap.size) (hm : w.cell? ⟨Bm, 0, none⟩ = some (.map (some b))) (hown : w.ownsMap Tryz.prog 9 (plainElem Tryz.prog 9) b nn D0) :
    SeqStopsK Fence.wide n Tryz.prog 166 #[.pointer (some ⟨Bm, 0, none⟩)] AnyYS.encs KeepsWalks (AnyYS.AllOf D0) (AnyYS.PartOf D0) (Maps.size D0) w :=
  AnyYS.all_stops Tryz.allM1 Fence.wide n trivial rfl hn Bm b nn D0 w hBm hm hown

set_option maxRecDepth 100000 in
set_option maxHeartbeats 4000000 in
theorem merge_any (g : Nat) (ls : List (List Px.Rec)) (w : World) (hg : g < w.heap.size) (hls : ListsIn w g ls) (hn : ls.length ≤ 100) (htot : ls.flatten.length ≤ 1000000) :
    Calls Tryz.prog 87 #[.slice (some ⟨g, 0, none⟩) ls.length ls.length] w fun e w' => ∃ v M, e = .returned v ∧ Px.IsMerge ls.flatten M ∧ HasR w' w.heap.size v M ∧ Below w.heap.size w w' := by
  have HLS := Lib.hid hls
  have HFL := Lib.hid (fun i => flat_take_le ls i htot)
  have hni : (ls.length : Int) ≤ 100 := by omega
  have hmm := @run_makeMap Tryz.prog
  clear hls
  refine callsIn_wide.1 (?_ : CallsIn Fence.wide 6 _ _ _ _ _)
  refine callsIn_of_wp_marks Tryz.func87 rfl trivial ?_ rfl
  simp only [Tryz.ntmps87, List.size_toArray, List.length_cons, List.length_nil, Nat.reduceAdd, Nat.reduceSub, Array.replicate_succ, Array.replicate_zero, List.push_toArray, List.append_toArray, List.nil_append, List.cons_append]
  gi_wp2
  gi_loopw [14] (fun iv wr => ∃ i : Nat, iv = .int .i64 i ∧ i ≤ ls.length ∧ Below w.heap.size w wr ∧ MapS wr w.heap.size (ls.take i).flatten) (fun iv _ => ls.length - (intOf iv).toNat)
  case atStart => exact ⟨0, rfl, by omega, (Below.refl _ _).alloc (Nat.le_refl _) _, MapS.made w⟩
  case round =>
    obtain ⟨i, rfl, hi, hbw, hM⟩ := hrel
    have HW := Lib.hid hbw
    have HM := Lib.hid hM
    clear hbw hM
    by_cases hil : i < ls.length
    · have hii : (i : Int) < ls.length := by omega
      obtain ⟨v, hc, X, cap, rfl, hlc, hll, hsz, hX⟩ := HLS.out i hil
      obtain ⟨l, hl⟩ : ∃ l, l = ls[i] := ⟨_, rfl⟩
      have HT := Lib.hid (by rw [List.take_succ_eq_append_getElem hil, List.flatten_append, hl]; simp : (ls.take (i + 1)).flatten = (ls.take i).flatten ++ l)
      rw [← hl] at hc hlc hll hsz hX
      have c0 : wr.cell? ⟨g, i, none⟩ = some (.slice X l.length cap) := (HW.out.cell (p := ⟨g, i, none⟩) hg).trans hc
      have hlli : (l.length : Int) ≤ 4398046510976 := by omega
      have HSZ := Lib.hid hsz
      have HX := Lib.hid hX
      clear hc hsz hX hl
      have lawS := string_keyed Tryz.underlying9
      obtain ⟨wo, hwo⟩ : ∃ wo, wr = wo := ⟨_, rfl⟩
      subst hwo
      rcases HX.out with h0 | ⟨b, off, rfl, hb, hrow⟩
      · subst h0
        have HT0 := Lib.hid (by rw [HT.out]; simp : (ls.take (i + 1)).flatten = (ls.take i).flatten)
        clear HX HT
        gi_wp2
        gi_loopw [20] (fun jv wr => jv = .int .i64 0 ∧ Below w.heap.size w wr ∧ MapS wr w.heap.size (ls.take i).flatten) (fun jv _ => 0)
        case atStart => exact ⟨rfl, HW.out, HM.out⟩
        case round =>
          obtain ⟨rfl, hbw, hM⟩ := hrel
          have HW2 := Lib.hid hbw
          have HM2 := Lib.hid hM
          clear hbw hM
          gi_wp2
          go_roundw
          case rel => exact ⟨i + 1, by go_num, by omega, HW2.out, by rw [HT0.out]; exact HM2.out⟩
          case measure => simp [intOf]; omega
      · have HR := Lib.hid hrow
        clear HX hrow
        gi_wp2
        gi_loopw [20] (fun jv wr => ∃ j : Nat, jv = .int .i64 j ∧ j ≤ l.length ∧ Below w.heap.size w wr ∧ MapS wr w.heap.size ((ls.take i).flatten ++ l.take j)) (fun jv _ => l.length - (intOf jv).toNat)
        case atStart => exact ⟨0, rfl, by omega, HW.out, by simpa using HM.out⟩
        case round =>
          obtain ⟨j, rfl, hj, hbw, hM⟩ := hrel
          have HW2 := Lib.hid hbw
          have HM2 := Lib.hid hM
          clear hbw hM
          by_cases hjl : j < l.length
          · have hji : (j : Int) < l.length := by omega
            obtain ⟨k0, k1⟩ := HR.out j hjl
            obtain ⟨z0, z1⟩ := HSZ.out l[j] (List.getElem_mem hjl)
            have HTJ := Lib.hid (fun p hp => by rw [List.take_succ_eq_append_getElem hjl, hp, List.append_assoc] : ∀ p : Px.Rec, p = l[j] → (ls.take i).flatten ++ l.take (j + 1) = ((ls.take i).flatten ++ l.take j) ++ [p])
            obtain ⟨r, hrd⟩ : ∃ r, r = l[j] := ⟨_, rfl⟩
            have HTR := Lib.hid (HTJ.out r hrd)
            rw [← hrd] at k0 k1 z0 z1
            have d0 : wr.cell? ⟨b, off + j * 2, none⟩ = some (.string (bs r.1)) := (HW2.out.cell (p := ⟨b, off + j * 2, none⟩) hb).trans k0
            have d1 : wr.cell? ⟨b, off + j * 2 + 1, none⟩ = some (.string (bs r.2)) := (HW2.out.cell (p := ⟨b, off + j * 2 + 1, none⟩) hb).trans k1
            obtain ⟨D, ho, hD⟩ := HM2.out
            have hnx : ((ls.take i).flatten ++ l.take j).length < maxLen := by
              have h1 := HFL.out (i + 1)
              rw [HT.out, List.length_append] at h1
              rw [List.length_append, List.length_take]
              unfold maxLen
              omega
            have hDm : Maps.IsMap D := by obtain ⟨_, _, _, _, _, rfl⟩ := ho; exact ⟨_, rfl⟩
            clear k0 k1 hrd HTJ
            gi_wp2_with (gi_at_mapUpdate; go_loud (refine wpListIn_mapUpdate_own _ rfl _ _ _ 201 rfl 9 9 lawS Tryz.underlying201 _ w.heap.size _ D rfl (ho.alloc _) hnx _ _ _ rfl rfl (WideMaps.keyOf_string_mk Tryz.underlying9 (by rw [bs_size]; unfold maxLen; omega)) _ [] (plainElem_string Tryz.underlying9 (by rw [bs_size]; unfold maxLen; omega)) ?_); intro w1 hown1 hgrow1)
            go_roundw
            case rel =>
              refine ⟨j + 1, by go_num, by omega, ?_, ?_⟩
              · exact (HW2.out.alloc HW2.out.size _).grown hgrow1 (by have := HW2.out.size; simp; omega) (fun q hq => by cases hq; exact Nat.le_refl _)
              · rw [HTR.out]; exact mapS_step hDm hD r hown1
            case measure => simp [intOf]; omega
          · have hji : (l.length : Int) ≤ j := by omega
            have ht : l.take j = l := List.take_of_length_le (by omega)
            rw [ht] at HM2
            gi_wp2
            go_roundw
            case rel => exact ⟨i + 1, by go_num, by omega, HW2.out, by rw [HT.out]; exact HM2.out⟩
            case measure => simp [intOf]; omega
    · have hii : (ls.length : Int) ≤ i := by omega
      have ht : ls.take i = ls := List.take_of_length_le (by omega)
      rw [ht] at HM
      obtain ⟨D, ho, hD⟩ := HM.out
      have HO := Lib.hid ho
      have HD := Lib.hid hD
      have hsd := Nat.le_trans (own_sizeU ho) htot
      have HSD := Lib.hid hsd
      clear hsd
      clear ho hD
      gi_wp2_with (refine ⟨trivial, ?_⟩; gi_at_call 137; refine (all_call _ _ _).mono ?_; rintro e w' ⟨rfl, rfl⟩)
      have hz := HW.out.size
      have bO := Boxed.new wr 36 (.slice none 0 0)
      have bN := Boxed.new (wr.alloc (.cells #[.slice none 0 0] 36)) 201 (.map (some w.heap.size))
      rw [World.size_alloc] at bN
      have hB0 : Below w.heap.size w ((wr.alloc (.cells #[.slice none 0 0] 36)).alloc (.cells #[.map (some w.heap.size)] 201)) := (HW.out.alloc hz _).alloc (by simp; omega) _
      obtain ⟨i0, i1, i2, i3, i4⟩ := info_parts infoRc
      refine wpIn_rangeFunc_ownG rfl (by omega) (gf := 166) (lb := #[.pointer (some ⟨wr.heap.size + 1, 0, none⟩)]) rfl trivial (enters_of Tryz.func166 (by kernel_rfl) rfl)
        (all_seq 5 (by omega) (wr.heap.size + 1) w.heap.size _ D _ (by simp) bN.cell ((HO.out.alloc _).alloc _)) walksK_t walksK_b (Below.refl _ _) (fun _ => rfl)
        (fun pre W => (∃ v, Boxed W wr.heap.size 36 v ∧ W.ownsRow w.heap.size 43 2 v (kept pre).length (rcCells (kept pre)) ∧ True) ∧ Below w.heap.size w W)
        (fun _ _ _ => False)
        (OwnFrom.and (Own.from (holdsRow_own w.heap.size wr.heap.size 36 43 2 (fun pre => (kept pre).length) (fun pre => rcCells (kept pre)) (fun _ _ => True)) _) (ownFrom_below (Nat.le_refl _) (by simp; omega)))
        (fun _ _ _ _ _ hs _ _ => hs)
        ⟨⟨_, bO.alloc _, World.ownsRow_nil _ _ _ _, trivial⟩, hB0⟩
        (fun x => { tmps := #[.slice (some ⟨g, 0, none⟩) ls.length ls.length, undef, .slice none 0 0, .map (some w.heap.size), undef, u5, undef, u7, .pointer (some ⟨wr.heap.size, 0, none⟩), (.string ⟨x.1.toArray⟩), (.string ⟨x.2.toArray⟩), .map (some w.heap.size), .slice (some ⟨g, 0, none⟩) ls.length ls.length,
          .int .i64 ls.length, .int .i64 i, .bool false, u16, u17, u18, u19, u20, u21, u22, u23, u24, u25, u26, u27, u28, u29, u30, .map (some w.heap.size), .func (.func 166) #[] #[.pointer (some ⟨wr.heap.size + 1, 0, none⟩)], (.string ⟨x.1.toArray⟩), (.string ⟨x.2.toArray⟩),
          undef, undef, undef, undef, undef, undef, undef, undef, undef, undef, undef], defers := [] }) ?assign ?body ?done ?stop
      case assign =>
        intro l x W K hK
        gi_wp2
        exact hK
      case body =>
        rintro l pre x W ⟨⟨v, hv, hrow, _⟩, hB⟩ hlt
        have hc := hv.cell
        have hkl : (kept pre).length ≤ pre.length := List.length_filter_le _ _
        have hpl : pre.length ≤ 1000000 := by have := HSD.out; omega
        by_cases hx : x.2 = []
        · have he : x.2.isEmpty = true := by rw [hx]; rfl
          have hkp : kept (pre ++ [x]) = kept pre := by unfold kept; rw [List.filter_append]; simp [hx]
          have HKP := Lib.hid hkp
          clear hkp
          gi_wp2
          exact ⟨KeepsFrom.refl _ _, KeepsWalks.refl _, ⟨v, hv, by rw [HKP.out]; exact hrow, trivial⟩, hB⟩
        · have he : x.2.isEmpty = false := by simpa using hx
          have hkp : kept (pre ++ [x]) = kept pre ++ [x] := by unfold kept; rw [List.filter_append]; simp [hx]
          have HKP := Lib.hid hkp
          clear hkp
          gi_wp2_with (gi_at_builtin; refine wpListIn_append_own _ rfl _ _ 36 rfl w.heap.size 43 i0 _ 2 32 Tryz.underlying36 i1 i2 i3 i4 rfl (by decide) _ _ _ rfl (hrow.alloc _) ⟨W.heap.size, 0, none⟩ 1 1 [.string ⟨x.1.toArray⟩, .string ⟨x.2.toArray⟩] rfl rfl (pxnew_two _ _ _ _) (by intro u hu; simp at hu; rcases hu with rfl | rfl <;> rfl) (by unfold maxLen; omega) (by omega) (by have := hB.size; simp; omega) ?_; intro v' w1 hown' hgrow _; obtain ⟨g', cap', rfl⟩ := ownsRow_succ hown'; obtain ⟨hv1, hv2, hr2, hk2, hb2⟩ := hv.appended (by decide) hrow hB.size hz hown' hgrow; have hc1 := hv1.cell; have hf1 := hv1.frozen)
          refine ⟨hk2.from _, hk2.walks, ⟨_, hv2, ?_, trivial⟩, hB.trans hb2⟩
          rw [HKP.out, List.length_append, rcCells_app]
          exact hr2
      case done =>
        rintro DD ys W hD hps ⟨⟨v, hv, hrow, _⟩, hB⟩ hK
        have hc := hv.cell
        have hyl : ys.length ≤ 1000000 := by
          have := hps.1.length_eq
          rw [List.length_map, strKeys_len] at this
          have := HSD.out
          omega
        have hkl : (kept ys).length ≤ ys.length := List.length_filter_le _ _
        have hsort := sort_any (w := W) (B := w.heap.size) (v := v) (l := kept ys) hrow (by omega)
        have hM := ends_merge HO.out HD.out hps
        have HS := Lib.hid hsort
        have HMM := Lib.hid hM
        have HV := Lib.hid hv
        have HRW := Lib.hid hrow
        have HB2 := Lib.hid hB
        have HKK := Lib.hid hK
        clear hsort hM hv hrow hB hK hps
        gi_wp2_with (refine ⟨trivial, ?_⟩; gi_at_call 138; refine (callsIn_wide.2 HS.out).mono ?_; rintro e w2 ⟨rfl, M, hp, hso, hrM, hgr⟩; have hcb := (HV.out.kept hgr (HV.out.not_row (by decide) HRW.out)).cell)
        have hkd : w2.heap[DD]? = some (.deferred (some [])) := by
          refine (hgr.block DD (Array.getElem?_eq_some_iff.1 HKK.out).1 fun e => ?_).trans HKK.out
          rcases HRW.out.2 with ⟨rfl, _⟩ | ⟨gg, cc, cur, rfl, _, hgb, _⟩
          · cases e
          · cases e
            rw [HKK.out] at hgb
            cases hgb
        have hbel : Below w.heap.size w w2 := HB2.out.grown hgr HB2.out.size (fun q hq => (World.ownsRow.lt HRW.out q hq).1)
        refine ⟨by simp, .inl ⟨_, _, rfl, run_takeDeferred hkd, ?_⟩⟩
        exact ⟨v, by simp [results, Tryz.f87, go_sem], v, M, rfl, HMM.out M hp hso, ownsRow_putObj hrM _ hkd rfl, hbel.trans (belowK_b (w := w) (Nat.le_refl _) w2 DD _ _ (by simp at hD; omega) hkd rfl rfl)⟩
      case stop =>
        rintro D c pre W _ _ h _
        exact h.elim

end Go.Proofs.YtkhkjacnoiopcaaGreatDoor
