/-
  slices.Concat of lists that came in; slices.IsSortedFunc, slices.Contains of records.
-/
import Derived.Test.YtjafjhhmjfpmoaaDoorPaxQ
import Derived.Test.YtjafjhhmjfpmoaaDoorPaxG
import Derived.Test.YtjafjhhmjfpmoaaDoorPaxF
import Derived.Deep.RegionHeld3
import Derived.Laws.StructEq
namespace Go.Proofs.YtjafjhhmjfpmoaaDoor
open Go.RowKit

/-- Nothing is appended, whatever the nothing's room. -/
theorem wpList_append_none {ops : Array Oper} {rest : List Oper} {o : Oper} {a : Act} {w : World} {Q : Exit → Act → World → Prop} (hgd : o.guard = none) (s x : Operand)
    (ho : o.op = .call { callee := .builtin .append, args := #[s, x], argTypes := #[23, 23] })
    (base : Option Addr) (n cap c : Nat) (hle : n ≤ cap) (hs : a.eval s = .slice base n cap) (hx : a.eval x = .slice none 0 c) (h : wpList Tryd.prog ops Q rest (a.put o.dst (.slice base n cap)) w) : wpList Tryd.prog ops Q (o :: rest) a w := by
  obtain ⟨i0, i1, i2, i3, i4⟩ := info_parts infoRc
  have hrun := run_append_nothing w _ _ o.type _ i0 Tryd.underlying23 i1 base n cap hle _ (Src.ofNil w Tryd.underlying23 c)
  refine wpList_plain hgd fun K hK' => ?_
  unfold Oper.wp
  simp [execOp, ho, resolve, invoke, builtin, hs, hx, hrun, Result.andThen]
  exact hK' _ _ h
/-- How many records the first lists have. -/
def totL (ls : List (List Px.Rec)) (i : Nat) : Nat := (ls.take i).flatten.length
theorem flat_len_le (ls : List (List Px.Rec)) (i : Nat) : totL ls i ≤ totL ls ls.length := by
  unfold totL
  rw [List.take_length]
  have e : ls.flatten = (ls.take i).flatten ++ (ls.drop i).flatten := by rw [← List.flatten_append, List.take_append_drop]
  rw [e, List.length_append]; omega

set_option maxRecDepth 100000 in
set_option maxHeartbeats 2000000 in
theorem concat_lists (g : Nat) (ls : List (List Px.Rec)) (w : World) (hg : g < w.heap.size) (hls : ListsIn w g ls) (hn : ls.length ≤ 100) (htot : ls.flatten.length ≤ 1000) :
    Calls Tryd.prog 12 #[.slice (some ⟨g, 0, none⟩) ls.length ls.length] w fun e w' => ∃ v, e = .returned v ∧ HasR w' w.heap.size v ls.flatten ∧ Below w.heap.size w w' := by
  obtain ⟨i0, i1, i2, i3, i4⟩ := info_parts infoRc
  have HLS := Lib.hid hls
  have HFL := Lib.hid (fun i => flat_len_le ls i)
  have hni : (ls.length : Int) ≤ 100 := by omega
  have htl : totL ls ls.length ≤ 1000 := by unfold totL; rw [List.take_length]; exact htot
  have GR := Lib.hid (fun w => grow_any (totL ls ls.length) (by omega) w)
  clear hls
  go_enter Tryd.func12, Tryd.ntmps12
  go_wp2_with fail
  go_loopg [3, 5, 11] (ls.length) (fun gg s _ iv wr => ∃ i : Nat, iv = .int .i64 i ∧ s = .int .i64 (totL ls i) ∧ i ≤ ls.length ∧ gg = ls.length - i ∧ wr = w ∧ True)
  case atStart => exact ⟨0, rfl, rfl, by omega, by omega, rfl, trivial⟩
  case round =>
    obtain ⟨i, rfl, rfl, hi, hgg, hww, _⟩ := hrel
    subst wr
    have HG := Lib.hid hgg
    clear hgg
    by_cases hil : i < ls.length
    · have hii : (i : Int) < ls.length := by omega
      obtain ⟨v, hc, hp⟩ := HLS.out i hil
      obtain ⟨X, cap, rfl⟩ := hp.form
      have ht : totL ls (i + 1) = totL ls i + ls[i].length := by unfold totL; rw [List.take_succ_eq_append_getElem hil, List.flatten_append]; simp
      have h1 := HFL.out (i + 1)
      have HT := Lib.hid ht
      obtain ⟨L, hL⟩ : ∃ L, L = totL ls i := ⟨_, rfl⟩
      obtain ⟨M, hM⟩ : ∃ M, M = ls[i].length := ⟨_, rfl⟩
      rw [← hL, ← hM] at HT
      rw [← hM] at hc
      rw [← hL]
      have hLM : ¬ ((L : Int) + M < 0) := by omega
      have hL1 : (L : Int) + M ≤ 1000 := by rw [HT.out] at h1; omega
      clear hp ht h1 hM hL
      go_wp2_with fail
      go_roundg (ls.length - (i + 1))
      case measure => have := HG.out; omega
      case rel => exact ⟨i + 1, by go_num, by rw [HT.out]; go_num, by omega, by omega, rfl, trivial⟩
    · have hii : (ls.length : Int) ≤ i := by omega
      obtain rfl : i = ls.length := by omega
      clear HG
      go_wp2_with fail
      refine (GR.out _).mono ?_
      rintro e w1 ⟨v, rfl, hown, hb⟩
      have H1 := Lib.hid (show HasR w1 w.heap.size v [] from hown)
      have B1 := Lib.hid hb
      clear hown hb
      go_wp2_with fail
      go_loopg [6, 8, 27] (ls.length) (fun gg s _ iv wr => ∃ (i : Nat) (v : Value), iv = .int .i64 i ∧ s = v ∧ i ≤ ls.length ∧ gg = ls.length - i ∧ HasR wr w.heap.size v (ls.take i).flatten ∧ Below w.heap.size w wr)
      case atStart => exact ⟨0, v, rfl, rfl, by omega, by omega, H1.out, B1.out⟩
      case round =>
        obtain ⟨i, v, rfl, rfl, hi, hgg, hh, hbw⟩ := hrel
        have HG := Lib.hid hgg
        have HH := Lib.hid hh
        have HW := Lib.hid hbw
        clear hgg hh hbw
        by_cases hil : i < ls.length
        · have hii : (i : Int) < ls.length := by omega
          obtain ⟨x, hc, hp⟩ := HLS.out i hil
          have hx := (HW.out.cell (p := ⟨g, i, none⟩) hg).trans hc
          have ht : (ls.take (i + 1)).flatten = (ls.take i).flatten ++ ls[i] := by rw [List.take_succ_eq_append_getElem hil, List.flatten_append]; simp
          have h1 := HFL.out (i + 1)
          have hP := hp.below HW.out
          obtain ⟨P, hPe⟩ : ∃ P, P = (ls.take i).flatten := ⟨_, rfl⟩
          obtain ⟨Q, hQe⟩ : ∃ Q, Q = ls[i] := ⟨_, rfl⟩
          rw [← hQe] at ht hP
          rw [← hPe] at ht HH
          unfold totL at h1 htl
          rw [ht, List.length_append] at h1
          have HT := Lib.hid ht
          obtain ⟨X, cap, rfl, hcp, _, _, hX⟩ := hP
          clear hp hc ht hPe hQe
          rcases hX with rfl | ⟨b, off, rfl, hb, hr⟩
          · obtain ⟨X0, c0, rfl, hle⟩ := own_form HH.out
            cases X with
            | none =>
              go_wp2_with (first | (at_builtin; refine wpList_append_none rfl (.tmp 31) (.tmp 32) rfl X0 P.length c0 cap hle rfl rfl ?_))
              go_roundg (ls.length - (i + 1))
              case measure => have := HG.out; omega
              case rel => exact ⟨i + 1, _, by go_num, rfl, by omega, by omega, by rw [HT.out, List.append_nil]; exact HH.out, HW.out⟩
            | some A =>
              go_wp2_with (first
                | (at_builtin; refine wpList_append_own _ rfl (.tmp 31) (.tmp 32) 23 rfl w.heap.size 32 i0 _ 2 32 Tryd.underlying23 i1 i2 i3 i4 rfl (by decide) (.slice X0 P.length c0) P.length (rcCells P) rfl HH.out A 0 cap [] rfl rfl (fun j u hu => by cases hu) (fun u hu => by cases hu) (by unfold maxLen; omega) (by omega) (by have := HW.out.size; omega) ?_; intro v2 w2 hown2 hgrow2 _))
              have B2 := Lib.hid (HW.out.grown hgrow2 HW.out.size (fun q hq => (World.ownsRow.lt HH.out q hq).1))
              have H2 : HasR w2 w.heap.size v2 P := by
                unfold HasR
                rw [List.append_nil, Nat.add_zero] at hown2
                exact hown2
              go_roundg (ls.length - (i + 1))
              case measure => have := HG.out; omega
              case rel => exact ⟨i + 1, _, by go_num, rfl, by omega, by omega, by rw [HT.out, List.append_nil]; exact H2, B2.out⟩
          · obtain ⟨X0, c0, rfl⟩ := HH.out.form
            go_wp2_with (first
              | (at_builtin; refine wpList_append_own _ rfl (.tmp 31) (.tmp 32) 23 rfl w.heap.size 32 i0 _ 2 32 Tryd.underlying23 i1 i2 i3 i4 rfl (by decide) (.slice X0 P.length c0) P.length (rcCells P) rfl HH.out ⟨b, off, none⟩ Q.length cap (rcCells Q) rfl (by rw [rcCells_len]) hr.cells (rcCells_one Q) (by unfold maxLen; omega) (by omega) (by have := HW.out.size; omega) ?_; intro v2 w2 hown2 hgrow2 _))
            have B2 := Lib.hid (HW.out.grown hgrow2 HW.out.size (fun q hq => (World.ownsRow.lt HH.out q hq).1))
            have H2 : HasR w2 w.heap.size v2 (P ++ Q) := by
              unfold HasR
              rw [rcCells_app, List.length_append]
              exact hown2
            go_roundg (ls.length - (i + 1))
            case measure => have := HG.out; omega
            case rel => exact ⟨i + 1, _, by go_num, rfl, by omega, by omega, by rw [HT.out]; exact H2, B2.out⟩
        · have hii : (ls.length : Int) ≤ i := by omega
          obtain rfl : i = ls.length := by omega
          rw [List.take_length] at HH
          go_wp2_with fail
          go_ret
          exact ⟨_, rfl, HH.out, HW.out⟩

theorem cmp2_any (x y : Px.Rec) (w : World) : Calls Tryd.prog 25 #[.agg #[.string (bs x.1), .string (bs x.2)], .agg #[.string (bs y.1), .string (bs y.2)]] w fun e w' => e = .returned (.int .i64 (cfR x y)) ∧ Below w.heap.size w w' := by
  have H := Lib.hid (fun w => Tryd.strings_Compare (bs x.1) (bs y.1) w)
  go_enter Tryd.func25, Tryd.ntmps25
  go_wp2_with fail
  refine (H.out _).mono ?_
  rintro e w1 ⟨rfl, hw⟩
  subst hw
  go_wp2_with fail
  go_ret
  exact ⟨rfl, ((Below.refl _ w).alloc (Nat.le_refl _) _).alloc (by simp) _⟩

theorem keep4 {w w' : World} {b i j m n : Nat} {u v x y : Value} (hb : b < w.heap.size) (h1 : w.cell? ⟨b, i, none⟩ = some u) (h2 : w.cell? ⟨b, j, none⟩ = some v) (h3 : w.cell? ⟨b, m, none⟩ = some x) (h4 : w.cell? ⟨b, n, none⟩ = some y) (h : Below w.heap.size w w') :
    w'.cell? ⟨b, i, none⟩ = some u ∧ w'.cell? ⟨b, j, none⟩ = some v ∧ w'.cell? ⟨b, m, none⟩ = some x ∧ w'.cell? ⟨b, n, none⟩ = some y ∧ Below w.heap.size w w' :=
  ⟨(h.cell (p := ⟨b, i, none⟩) hb).trans h1, (h.cell (p := ⟨b, j, none⟩) hb).trans h2, (h.cell (p := ⟨b, m, none⟩) hb).trans h3, (h.cell (p := ⟨b, n, none⟩) hb).trans h4, h⟩
/-- slices.IsSortedFunc at records that are sorted. -/
theorem sorted_in {w : World} {v : Value} {l : List Px.Rec} (h : PairsIn w v l) (hl : l.length ≤ 1000000) (hs : l.Pairwise fun p q => p.1 < q.1) :
    Calls Tryd.prog 24 #[v, .func (.func 25) #[] #[]] w fun e w' => e = .returned (.bool true) ∧ Below w.heap.size w w' := by
  obtain ⟨X, cap, rfl, _, _, _, hX⟩ := h
  rcases hX with rfl | ⟨b, off, rfl, hb, hr⟩
  · go_enter Tryd.func24, Tryd.ntmps24
    go_wp2_with fail
    refine wp_loop_rounds 1 ?_
    rw [rounds_succ]
    go_wp2_with fail
    go_ret
    exact ⟨rfl, Below.refl _ _⟩
  · have HR := Lib.hid hr
    have HS := Lib.hid hs
    have hli : (l.length : Int) ≤ 1000000 := by omega
    clear hr hs
    go_enter Tryd.func24, Tryd.ntmps24
    go_wp2_with fail
    go_loopg [5] (l.length) (fun gg iv wr => ∃ i : Int, iv = .int .i64 i ∧ i < l.length ∧ -1 ≤ i ∧ gg = (i + 1).toNat ∧ Below w.heap.size w wr)
    case atStart => exact ⟨(l.length : Int) - 1, by go_num, by omega, by omega, by omega, Below.refl _ _⟩
    case round =>
      obtain ⟨i, rfl, hi, hi1, hgg, hbw⟩ := hrel
      have HG := Lib.hid hgg
      have HW := Lib.hid hbw
      clear hgg hbw
      by_cases h0 : 0 < i
      · obtain ⟨k, hk⟩ : ∃ k : Nat, i = (k : Int) + 1 := ⟨(i - 1).toNat, by omega⟩
        have hk1 : k + 1 < l.length := by omega
        obtain ⟨a0, a1⟩ := HR.out (k + 1) hk1
        obtain ⟨b0, b1⟩ := HR.out k (by omega)
        have hcmp : ¬ cfR l[k + 1] l[k] < 0 := fun hc => by
          have h1 := (cmpb_lt _ _).1 hc
          have h2 := List.pairwise_iff_getElem.1 HS.out k (k + 1) (by omega) hk1 (by omega)
          exact List.lt_irrefl _ (List.lt_trans h1 h2)
        obtain ⟨x, hx⟩ : ∃ x, x = l[k + 1] := ⟨_, rfl⟩
        obtain ⟨y, hy⟩ : ∃ y, y = l[k] := ⟨_, rfl⟩
        rw [← hx] at a0 a1 hcmp
        rw [← hy] at b0 b1 hcmp
        have c0 : wr.cell? ⟨b, off + (k + 1) * 2, none⟩ = some (.string (bs x.1)) := (HW.out.cell (p := ⟨b, off + (k + 1) * 2, none⟩) hb).trans a0
        have c1 : wr.cell? ⟨b, off + (k + 1) * 2 + 1, none⟩ = some (.string (bs x.2)) := (HW.out.cell (p := ⟨b, off + (k + 1) * 2 + 1, none⟩) hb).trans a1
        have d0 : wr.cell? ⟨b, off + k * 2, none⟩ = some (.string (bs y.1)) := (HW.out.cell (p := ⟨b, off + k * 2, none⟩) hb).trans b0
        have d1 : wr.cell? ⟨b, off + k * 2 + 1, none⟩ = some (.string (bs y.2)) := (HW.out.cell (p := ⟨b, off + k * 2 + 1, none⟩) hb).trans b1
        have CM := Lib.hid (fun w => cmp2_any x y w)
        obtain ⟨C, hC⟩ : ∃ C, C = cfR x y := ⟨_, rfl⟩
        rw [← hC] at CM hcmp
        have n1 : i.toNat = k + 1 := by omega
        have n2 : (i - 1).toNat = k := by omega
        have n3 : 0 ≤ C := by omega
        have n4 : decide (C < 0) = false := decide_eq_false (by omega)
        have m1 : (0 : Int) ≤ i - 1 := by omega
        have m2 : i - 1 < (l.length : Int) := by omega
        have m4 : (0 : Int) ≤ i := by omega
        have m5 : i ≤ 1000000 := by omega
        have m6 : 1 ≤ i := by omega
        have m9 : IntKind.i64.wrap (i - 1) = i - 1 := IntWalk.i64_in _ (by omega)
        have m7 : i ≤ (l.length : Int) := by omega
        have m8 : i < (l.length : Int) + 1 := by omega
        have KI := Lib.hid hk
        have bw := Below.refl wr.heap.size wr
        have hbr : b < wr.heap.size := Nat.lt_of_lt_of_le hb HW.out.size
        have KP := Lib.hid (fun w' (h : Below wr.heap.size wr w') => keep4 hbr c0 c1 d0 d1 h)
        clear a0 a1 b0 b1 hx hy hC hk
        go_wp2_with fail
        go_region_held3 (fun w' => w'.cell? ⟨b, off + (k + 1) * 2, none⟩ = some (.string (bs x.1)) ∧ w'.cell? ⟨b, off + (k + 1) * 2 + 1, none⟩ = some (.string (bs x.2)) ∧ w'.cell? ⟨b, off + k * 2, none⟩ = some (.string (bs y.1)) ∧ w'.cell? ⟨b, off + k * 2 + 1, none⟩ = some (.string (bs y.2)) ∧ Below wr.heap.size wr w')
          (first | (go_split_ands; refine KP.out _ ?_; first | with_reducible assumption | with_reducible exact Below.drew bw | with_reducible exact thenB (by assumption) TT))
          (first | (go_at_call 25; go_split_ands; refine (CM.out _).mono ?_; rintro e wt ⟨rfl, TT⟩; have TB : Below wr.heap.size wr wt := (by with_reducible exact thenB (by assumption) TT)))
        all_goals go_wp2_with fail
        all_goals go_roundg (k + 1)
        case measure => have := HG.out; have := KI.out; omega
        case rel => exact ⟨i - 1, by go_num, by omega, by omega, by have := KI.out; omega, HW.out.trans (TB.mono HW.out.size)⟩
      · have h0' : i ≤ 0 := by omega
        go_wp2_with fail
        go_ret
        exact ⟨rfl, HW.out⟩

end Go.Proofs.YtjafjhhmjfpmoaaDoor
