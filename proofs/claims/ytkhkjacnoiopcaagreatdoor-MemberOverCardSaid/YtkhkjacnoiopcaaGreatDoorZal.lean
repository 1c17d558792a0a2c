/-
  slices.Backward of records; pax.Get.
-/
import Derived.Test.YtkhkjacnoiopcaaGreatDoorZag
import Derived.Test.YtkhkjacnoiopcaaGreatDoorZah
import Derived.RangeFuncNested
import Derived.RangeFuncBound
import Derived.RangeFuncCalls
import Derived.RangeFuncLeaves
import Derived.RangeFuncBox
import Derived.RangeFuncWrites
import Derived.Shelf.Abstract
import Derived.Shelf.RegionOpen
import Derived.OwnWalkIn
import Derived.TacticsInMore
import Derived.LoopNIn
import Derived.LoopIn
set_option linter.unusedVariables false
set_option linter.unusedSimpArgs false

set_option linter.unusedVariables false
set_option linter.unusedSimpArgs false
namespace Go.Proofs.YtkhkjacnoiopcaaGreatDoor
open Go.RowKit Go.Shelf
attribute [local go_sem] Oper.semAt_some

/-- What has come when k rounds are over. -/
def uptoR {α : Type} (f : Nat → α) (k : Nat) : List α := (List.range k).map f
theorem uptoR_succ {α : Type} (f : Nat → α) (k : Nat) : uptoR f (k + 1) = uptoR f k ++ [f k] := by simp [uptoR, List.range_succ]
theorem uptoR_length {α : Type} (f : Nat → α) (k : Nat) : (uptoR f k).length = k := by simp [uptoR]
/-- The k-th record from behind, and where it stands. -/
def fromB (l : List Px.Rec) (k : Nat) : Nat × Px.Rec := (l.length - 1 - k, l.getD (l.length - 1 - k) ([], []))
abbrev encB (x : Nat × Px.Rec) : Array Value := #[.int .i64 x.1, .agg #[.string (bs x.2.1), .string (bs x.2.2)]]

set_option maxRecDepth 100000 in
set_option maxHeartbeats 2000000 in
theorem back_rows (n : Nat) (hn : 1 ≤ n) (lp Bs n₀ b off cap : Nat) (l : List Px.Rec) (hl : l.length ≤ 4398046510976) (hb : b < n₀) (J Jx : List (Nat × Px.Rec) → World → Prop)
    (hY : ∀ pre x W, J pre W → pre.length < l.length → YieldAt Fence.wide (n - 1) Tryz.prog lp (encB x) W fun e W' =>
      (e = .returned (.bool true) ∧ J (pre ++ [x]) W' ∧ Below n₀ W W') ∨ (e = .returned (.bool false) ∧ Jx (pre ++ [x]) W'))
    (W : World) (hBl : Bs < n₀) (hBs : W.cell? ⟨Bs, 0, none⟩ = some (.slice (some ⟨b, off, none⟩) l.length cap)) (hc : RowR W b off l) (h0 : J [] W) :
    CallsIn Fence.wide n Tryz.prog 174 #[.func (.yield lp) #[] #[], .pointer (some ⟨Bs, 0, none⟩)] W fun e W' => (∃ v, e = .returned v) ∧
      ((∃ ys, ys = uptoR (fromB l) l.length ∧ J ys W') ∨ (∃ pre, (∃ k, k < l.length ∧ pre = uptoR (fromB l) (k + 1)) ∧ Jx pre W')) := by
  have hli : (l.length : Int) ≤ 4398046510976 := by omega
  have HC := Lib.hid hc
  have HBs := Lib.hid hBs
  clear hc
  refine callsIn_of_wp Tryz.func174 rfl trivial ?_ rfl
  simp only [Tryz.ntmps174, List.size_toArray, List.length_cons, List.length_nil, Nat.reduceAdd, Nat.reduceSub, Array.replicate_succ, Array.replicate_zero, List.push_toArray, List.append_toArray, List.nil_append, List.cons_append]
  gi_wp2
  clear hBs
  gi_loopw [3] (fun iv wr => ∃ k : Nat, k ≤ l.length ∧ iv = .int .i64 ((l.length : Int) - 1 - k) ∧ J (uptoR (fromB l) k) wr ∧ Below n₀ W wr) (fun iv _ => (intOf iv + 1).toNat)
  case atStart => exact ⟨0, Nat.zero_le _, by simp, h0, Below.refl _ _⟩
  case round =>
    obtain ⟨k, hk, rfl, hJs, hnx⟩ := hrel
    have hbs := (hnx.cell (p := ⟨Bs, 0, none⟩) hBl).trans HBs.out
    by_cases hlt : k < l.length
    · obtain ⟨m, hm⟩ : ∃ m, m = l.length - 1 - k := ⟨_, rfl⟩
      have hmi : (l.length : Int) - 1 - k = (m : Int) := by omega
      have hml : m < l.length := by omega
      obtain ⟨k0, k1⟩ := HC.out m hml
      have hfr : fromB l k = (m, l[m]) := by unfold fromB; rw [← hm]; simp [hml]
      have d0 : wr.cell? ⟨b, off + m * 2, none⟩ = some (.string (bs l[m].1)) := (hnx.cell (p := ⟨b, off + m * 2, none⟩) hb).trans k0
      have d1 : wr.cell? ⟨b, off + m * 2 + 1, none⟩ = some (.string (bs l[m].2)) := (hnx.cell (p := ⟨b, off + m * 2 + 1, none⟩) hb).trans k1
      obtain ⟨fn, tmps, assign, body, hy, hR⟩ := hY _ (fromB l k) wr hJs (by rw [uptoR_length]; exact hlt)
      rw [hfr] at hy
      have HFR := Lib.hid hfr
      rw [hmi]
      obtain ⟨r, hr⟩ : ∃ r, r = l[m] := ⟨_, rfl⟩
      rw [← hr] at d0 d1 hy
      have hmI : (m : Int) < l.length := by omega
      have HMI := Lib.hid hmi
      clear k0 k1 hr hfr hmi hm
      dsimp only [encB] at hy
      gi_wp2
      refine hR.mono ?_
      rintro e W3 (⟨rfl, hJ3, hk3⟩ | ⟨rfl, hJx3⟩)
      · gi_wp2
        go_roundw
        case rel =>
          have hmi := HMI.out
          have e : (m : Int) - 1 = (l.length : Int) - 1 - ((k + 1 : Nat) : Int) := by omega
          refine ⟨k + 1, by omega, ?_, by rw [uptoR_succ]; exact hJ3, hnx.trans hk3⟩
          rw [e]
        case measure => simp [intOf]
      · gi_wp2
        refine bodyPost_ret (results_none rfl _ _ _) rfl ?_
        exact ⟨⟨_, rfl⟩, .inr ⟨_, ⟨k, hlt, (uptoR_succ _ _).symm⟩, hJx3⟩⟩
    · obtain rfl : k = l.length := by omega
      have hneg : (l.length : Int) - 1 - (l.length : Int) = -1 := by omega
      rw [hneg]
      gi_wp2
      go_end0
      exact ⟨⟨_, rfl⟩, .inl ⟨_, rfl, hJs⟩⟩

set_option maxRecDepth 100000 in
set_option maxHeartbeats 1000000 in
theorem back_none (n : Nat) (lp Bs c : Nat) (A : Option Addr) (J : List (Nat × Px.Rec) → World → Prop) (W : World) (hBs : W.cell? ⟨Bs, 0, none⟩ = some (.slice A 0 c)) (h0 : J [] W) :
    CallsIn Fence.wide n Tryz.prog 174 #[.func (.yield lp) #[] #[], .pointer (some ⟨Bs, 0, none⟩)] W fun e W' => (∃ v, e = .returned v) ∧ J [] W' := by
  refine callsIn_of_wp Tryz.func174 rfl trivial ?_ rfl
  simp only [Tryz.ntmps174, List.size_toArray, List.length_cons, List.length_nil, Nat.reduceAdd, Nat.reduceSub, Array.replicate_succ, Array.replicate_zero, List.push_toArray, List.append_toArray, List.nil_append, List.cons_append]
  gi_wp2
  gi_loopw [3] (fun i wr => i = .int .i64 (-1) ∧ J [] wr) (fun _ _ => 0)
  case atStart => exact ⟨rfl, h0⟩
  case round =>
    obtain ⟨rfl, hJs⟩ := hrel
    gi_wp2
    go_end0
    exact ⟨⟨_, rfl⟩, hJs⟩

theorem back_call (n : Nat) (A : Option Addr) (len cap : Nat) (w : World) :
    CallsIn Fence.wide n Tryz.prog 145 #[.slice A len cap] w fun e w' => e = .returned (.func (.func 174) #[] #[.pointer (some ⟨w.heap.size, 0, none⟩)]) ∧ w' = w.alloc (.cells #[.slice A len cap] 36) := by
  refine callsIn_of_wp Tryz.func145 rfl trivial ?_ rfl
  simp only [Tryz.ntmps145, List.size_toArray, List.length_cons, List.length_nil, Nat.reduceAdd, Nat.reduceSub, Array.replicate_succ, Array.replicate_zero, List.push_toArray, List.append_toArray, List.nil_append, List.cons_append]
  gi_wp2
  go_ret
  exact ⟨rfl, rfl⟩

theorem back_seq (n : Nat) (hn : 1 ≤ n) (Bs n₀ : Nat) (v : Value) (l : List Px.Rec) (w : World) (hBs : Bs < n₀) (hn₀ : n₀ ≤ w.heap.size) (hc : w.cell? ⟨Bs, 0, none⟩ = some v) (hI : PairsIn w v l)
    (hrow : ∀ W : World, Below n₀ w W → l = [] ∨ ∃ b off cap, v = .slice (some ⟨b, off, none⟩) l.length cap ∧ b < n₀ ∧ RowR W b off l) :
    SeqStopsK Fence.wide n Tryz.prog 174 #[.pointer (some ⟨Bs, 0, none⟩)] encB (Below n₀) (fun ys => ys = uptoR (fromB l) l.length) (fun pre => ∃ k, k < l.length ∧ pre = uptoR (fromB l) (k + 1)) l.length w := fun lp J Jx W hW _ _ hY h0 => by
  have hc' := (hW.cell (p := ⟨Bs, 0, none⟩) (Nat.lt_of_lt_of_le hBs hn₀)).trans hc
  rcases hrow W (hW.mono hn₀) with h | ⟨b, off, cap, rfl, hb2, hr⟩
  · subst h
    obtain ⟨X, cap, rfl, _⟩ := hI
    exact (back_none n lp Bs cap X J W hc' h0).mono fun e W' ⟨he, hj⟩ => ⟨he, .inl ⟨_, rfl, hj⟩⟩
  · obtain ⟨X, cap', e, hlc, hll, _, _⟩ := hI
    exact back_rows n hn lp Bs n₀ b off cap l hll hb2 J Jx hY W hBs hc' hr h0

theorem last_of_back (l : List Px.Rec) (k : Nat) (hk : k < l.length) (x : List UInt8) (hx : (fromB l k).2.1 = x) (hn : ∀ y ∈ uptoR (fromB l) k, y.2.1 ≠ x) : Px.lastV l x = some (fromB l k).2.2 := by
  obtain ⟨m, hm⟩ : ∃ m, m = l.length - 1 - k := ⟨_, rfl⟩
  have hml : m < l.length := by omega
  have hf : fromB l k = (m, l[m]) := by unfold fromB; rw [← hm]; simp [hml]
  rw [hf] at hx ⊢
  have hs : l = l.take m ++ l[m] :: l.drop (m + 1) := by
    rw [← List.drop_eq_getElem_cons hml, List.take_append_drop]
  have hd : Px.lastV (l.drop (m + 1)) x = none := Px.lastV_none.2 fun p hp => by
    obtain ⟨i, hi, rfl⟩ := List.getElem_of_mem hp
    rw [List.length_drop] at hi
    have hj : l.length - 1 - (m + 1 + i) < k := by omega
    have := hn (fromB l (l.length - 1 - (m + 1 + i))) (List.mem_map.2 ⟨_, List.mem_range.2 hj, rfl⟩)
    unfold fromB at this
    rw [show l.length - 1 - (l.length - 1 - (m + 1 + i)) = m + 1 + i by omega] at this
    rw [List.getElem_drop]
    simpa [show m + 1 + i < l.length by omega] using this
  conv => lhs; rw [hs]
  rw [Px.lastV_app]
  have hx' : l[m].1 = x := hx
  simp [Px.lastV, hd, hx']
theorem last_of_none (l : List Px.Rec) (x : List UInt8) (hn : ∀ y ∈ uptoR (fromB l) l.length, y.2.1 ≠ x) : Px.lastV l x = none := Px.lastV_none.2 fun p hp => by
  obtain ⟨i, hi, rfl⟩ := List.getElem_of_mem hp
  have := hn (fromB l (l.length - 1 - i)) (List.mem_map.2 ⟨_, List.mem_range.2 (by omega), rfl⟩)
  unfold fromB at this
  rw [show l.length - 1 - (l.length - 1 - i) = i by omega] at this
  simpa [hi] using this

theorem boxed_from {W W' : World} {B D : Nat} {t : TypeId} {v : Value} {row : Option Nat} (h : Boxed W B t v) (hg : W.grownBy W' row) (hr : ∀ r, row = some r → D ≤ r ∧ ∃ o : Obj, W.heap[r]? = some o ∧ o.isCells = false) : Boxed W' B t v :=
  boxed_own B t (fun _ : Unit => v) () W W' row h hg (fun r e => (hr r e).2)
theorem below_from {W W' w : World} {n D : Nat} {row : Option Nat} (h : Below n w W) (hn : n ≤ w.heap.size) (hD : n ≤ D) (hg : W.grownBy W' row) (hr : ∀ r, row = some r → D ≤ r ∧ ∃ o : Obj, W.heap[r]? = some o ∧ o.isCells = false) : Below n w W' :=
  ownFrom_below (β := Unit) hn hD () W W' row h hg hr
theorem blk_from {W W' : World} {B D : Nat} {t : TypeId} {cs : Array Value} {row : Option Nat} (h : Blk W B t cs) (hg : W.grownBy W' row) (hr : ∀ r, row = some r → D ≤ r ∧ ∃ o : Obj, W.heap[r]? = some o ∧ o.isCells = false) : Blk W' B t cs :=
  h.grown hg (fun e => by
    obtain ⟨_, o, ho, hc⟩ := hr B e.symm
    rw [show W.heap[B]? = _ from h] at ho
    cases ho; cases hc)
theorem not_empty (v : List UInt8) : (!(bs v).toList.isEmpty) = (v != []) := by
  rw [Lib.toList_data, bs_list]
  cases v <;> rfl
theorem boxed_putD {W : World} {B D : Nat} {t : TypeId} {v : Value} {o : Obj} (h : Boxed W B t v) (o' : Obj) (hK : W.heap[D]? = some o) (ho : o.isCells = false) : Boxed (W.putObj D o') B t v :=
  boxed_from (D := 0) h (grownBy_putObj' W D o') (fun r e => by cases e; exact ⟨Nat.zero_le _, _, hK, ho⟩)
/-- Get's end. -/
theorem get_end (D : Nat) (W w : World) (tm : Array Value) (r : List UInt8 × Bool) (g : List UInt8 × Bool) (hD : w.heap.size ≤ D) (hK : W.heap[D]? = some (.deferred (some []))) (h1 : Boxed W (w.heap.size + 1) 9 (.string (bs r.1))) (h2 : Boxed W (w.heap.size + 1 + 1) 4 (.bool r.2))
    (hb : Below w.heap.size w W) (e1 : g.1 = r.1) (e2 : g.2 = r.2) (ht4 : tm[4]? = some (.pointer (some ⟨w.heap.size + 1, 0, none⟩))) (ht5 : tm[5]? = some (.pointer (some ⟨w.heap.size + 1 + 1, 0, none⟩))) :
    bodyPostM Fence.wide 6 Tryz.prog Tryz.f92 (fun e w' => e = .returned (.tuple #[.string (bs g.1), .bool g.2]) ∧ Below w.heap.size w w') Exit.ret { tmps := tm, defers := [{ target := .collected D, args := #[] }] } W := by
  have c1 := (boxed_putD h1 (.deferred none) hK rfl).cell
  have c2 := (boxed_putD h2 (.deferred none) hK rfl).cell
  refine ⟨by simp, .inl ⟨_, _, rfl, run_takeDeferred hK, ?_⟩⟩
  refine ⟨.tuple #[.string (bs r.1), .bool r.2], ?_, by rw [e1, e2], hb.trans (belowK_b (w := w) (Nat.le_refl _) W D _ _ hD hK rfl rfl)⟩
  simp [results, Tryz.f92, go_sem, ht4, ht5, c1, c2]
/-- What lies in memory while Get looks. -/
structure GIn (x : ByteArray) (w : World) (pre : List (Nat × Px.Rec)) (W : World) : Prop where
  k : Boxed W w.heap.size 9 (.string x)
  r1 : Boxed W (w.heap.size + 1) 9 (.string ⟨#[]⟩)
  r2 : Boxed W (w.heap.size + 2) 4 (.bool false)
  no : ∀ y ∈ pre, y.2.1 ≠ x.data.toList
  bel : Below w.heap.size w W
  sz : w.heap.size + 4 ≤ W.heap.size
structure GOut (x : ByteArray) (w : World) (pre : List (Nat × Px.Rec)) (W : World) : Prop where
  some_ : ∃ pre' y, pre = pre' ++ [y] ∧ y.2.1 = x.data.toList ∧ (∀ z ∈ pre', z.2.1 ≠ x.data.toList) ∧ Boxed W (w.heap.size + 1) 9 (.string (bs y.2.2)) ∧ Boxed W (w.heap.size + 2) 4 (.bool (y.2.2 != []))
  bel : Below w.heap.size w W

set_option maxRecDepth 100000 in
set_option maxHeartbeats 4000000 in
theorem pxget_any (v : Value) (l : List Px.Rec) (x : ByteArray) (w : World) (h : PairsIn w v l) :
    Calls Tryz.prog 92 #[v, .string x] w fun e w' => e = .returned (.tuple #[.string (bs (Px.getV l x.data.toList).1), .bool (Px.getV l x.data.toList).2]) ∧ Below w.heap.size w w' := by
  obtain ⟨X, cap, hv, hlc, hll, hsz, hX⟩ := id h
  subst hv
  have H := Lib.hid h
  have HX := Lib.hid hX
  refine callsIn_wide.1 (?_ : CallsIn Fence.wide 6 _ _ _ _ _)
  refine callsIn_of_wp_marks Tryz.func92 rfl trivial ?_ rfl
  simp only [Tryz.ntmps92, List.size_toArray, List.length_cons, List.length_nil, Nat.reduceAdd, Nat.reduceSub, Array.replicate_succ, Array.replicate_zero, List.push_toArray, List.append_toArray, List.nil_append, List.cons_append]
  clear h hX hsz
  gi_wp2_with (refine ⟨trivial, ?_⟩; gi_at_call 145; refine (back_call _ _ _ _ _).mono ?_; rintro e w' ⟨rfl, rfl⟩)
  have b0 := Boxed.new w 9 (.string x)
  have b1 := Boxed.new (w.alloc (.cells #[.string x] 9)) 9 (.string ⟨#[]⟩)
  have b2 := Boxed.new ((w.alloc (.cells #[.string x] 9)).alloc (.cells #[.string ⟨#[]⟩] 9)) 4 (.bool false)
  have b3 := Boxed.new (((w.alloc (.cells #[.string x] 9)).alloc (.cells #[.string ⟨#[]⟩] 9)).alloc (.cells #[.bool false] 4)) 36 (.slice X l.length cap)
  simp only [World.size_alloc] at b1 b2 b3
  have hB0 : Below w.heap.size w ((((w.alloc (.cells #[.string x] 9)).alloc (.cells #[.string ⟨#[]⟩] 9)).alloc (.cells #[.bool false] 4)).alloc (.cells #[.slice X l.length cap] 36)) := ((((Below.refl _ w).alloc (Nat.le_refl _) _).alloc (by simp) _).alloc (by simp; omega) _).alloc (by simp; omega) _
  have hsz0 : ((((w.alloc (.cells #[.string x] 9)).alloc (.cells #[.string ⟨#[]⟩] 9)).alloc (.cells #[.bool false] 4)).alloc (.cells #[.slice X l.length cap] 36)).heap.size = w.heap.size + 4 := by simp
  have k0 := ((b0.alloc (.cells #[.string ⟨#[]⟩] 9)).alloc (.cells #[.bool false] 4)).alloc (.cells #[.slice X l.length cap] 36)
  have k1 := (b1.alloc (.cells #[.bool false] 4)).alloc (.cells #[.slice X l.length cap] 36)
  have k2 := b2.alloc (.cells #[.slice X l.length cap] 36)
  obtain ⟨W0, hW0⟩ : ∃ W0, ((((w.alloc (.cells #[.string x] 9)).alloc (.cells #[.string ⟨#[]⟩] 9)).alloc (.cells #[.bool false] 4)).alloc (.cells #[.slice X l.length cap] 36)) = W0 := ⟨_, rfl⟩
  rw [hW0] at k0 k1 k2 b3 hB0 hsz0 ⊢
  clear hW0 b0 b1 b2
  have hPI : PairsIn W0 (.slice X l.length cap) l := H.out.below hB0
  have hrow : ∀ W : World, Below (w.heap.size + 4) W0 W → l = [] ∨ ∃ b off cap', Value.slice X l.length cap = .slice (some ⟨b, off, none⟩) l.length cap' ∧ b < w.heap.size + 4 ∧ RowR W b off l := fun W hW => by
    rcases HX.out with h0 | ⟨b, off, rfl, hb, hr⟩
    · exact .inl h0
    · exact .inr ⟨b, off, cap, rfl, by omega, (hr.below hB0 hb).below (hW.mono (by omega)) hb⟩
  refine wpIn_rangeFunc_ownH rfl (by omega) (gf := 174) (lb := #[.pointer (some ⟨w.heap.size + 1 + 1 + 1, 0, none⟩)]) rfl trivial (enters_of Tryz.func174 (by kernel_rfl) rfl)
    (back_seq 5 (by omega) (w.heap.size + 1 + 1 + 1) (w.heap.size + 4) _ l W0 (by omega) (by omega) b3.cell hPI hrow) belowK_t (belowK_b (by omega)) (Below.refl _ _) (fun _ => rfl)
    (GIn x w) (fun c pre W => c = .ret ∧ GOut x w pre W)
    (fun s A B row h hg hr => ⟨boxed_from h.k hg hr, boxed_from h.r1 hg hr, boxed_from h.r2 hg hr, h.no, below_from h.bel (Nat.le_refl _) (by omega) hg hr, Nat.le_trans h.sz hg.size⟩)
    (fun c s A B row ⟨hc, h⟩ hg hr => ⟨hc, by obtain ⟨p, y, e1, e2, e3, e4, e5⟩ := h.some_; exact ⟨p, y, e1, e2, e3, boxed_from e4 hg hr, boxed_from e5 hg hr⟩, below_from h.bel (Nat.le_refl _) (by omega) hg hr⟩)
    ⟨k0, k1, k2, (fun y hy => by cases hy), hB0, by omega⟩
    (fun y a' W => ∃ Bx, w.heap.size + 3 < Bx ∧ Blk W Bx 43 #[.string (bs y.2.1), .string (bs y.2.2)] ∧ a' = { tmps := #[.slice X l.length cap, .string x, undef, .pointer (some ⟨w.heap.size, 0, none⟩), .pointer (some ⟨w.heap.size + 1, 0, none⟩), .pointer (some ⟨w.heap.size + 1 + 1, 0, none⟩), undef, .pointer (some ⟨Bx, 0, none⟩), .slice X l.length cap,
      .func (.func 174) #[] #[.pointer (some ⟨w.heap.size + 1 + 1 + 1, 0, none⟩)], .int .i64 y.1, .agg #[.string (bs y.2.1), .string (bs y.2.2)], undef, undef, undef, undef, undef, undef, undef, undef, undef], defers := [] })
    (fun y a' _ A B row hs hg hr => by obtain ⟨Bx, h1, h2, h3⟩ := hs; exact ⟨Bx, h1, blk_from h2 hg hr, h3⟩)
    ?assign ?body ?done ?stop
  case assign =>
    rintro lp pre y W K hI hK
    gi_wp2
    have hz := hI.sz
    exact hK _ _ ((KeepsOthers.alloc _ _).from _) ((Below.refl _ W).alloc (by omega) _) ⟨hI.k.alloc _, hI.r1.alloc _, hI.r2.alloc _, hI.no, hI.bel.alloc hI.bel.size _, by simp; omega⟩ ⟨W.heap.size, by omega, Blk.new W _ _, rfl⟩
  case body =>
    rintro lp pre y a' W hlp _ hI ⟨Bx, hBx, hy, rfl⟩ hlt
    have c0 := hI.k.cell
    have c1 : W.cell? ⟨Bx, 0, none⟩ = some (.string (bs y.2.1)) := hy.cell 0
    have c2 : W.cell? ⟨Bx, 1, none⟩ = some (.string (bs y.2.2)) := hy.cell 1
    have d1 := hI.r1.cell
    have d2 := hI.r2.cell
    have f1 := hI.r1.frozen
    have f2 := hI.r2.frozen
    by_cases hk : y.2.1 = x.data.toList
    · have he : ((bs y.2.1).toList == x.toList) = true := by rw [Lib.toList_data, Lib.toList_data, bs_list, hk]; simp
      have HK := Lib.hid hk
      clear hk
      gi_wp2
      gi_region
      all_goals gi_wp2
      all_goals
        refine ⟨(((KeepsOthers.setCell _ _ _).trans (KeepsOthers.setCell _ _ _)).trans (KeepsOthers.drew _)).from _, rfl, ⟨pre, y, rfl, HK.out, hI.no, ?_, ?_⟩, ((hI.bel.setCell (p := ⟨w.heap.size + 1, 0, none⟩) (Nat.le_succ _) _).setCell (p := ⟨w.heap.size + 1 + 1, 0, none⟩) (by show _ ≤ w.heap.size + 1 + 1; omega) _).drew⟩
        · exact (hI.r1.set _).other (by omega) _
        · rw [← not_empty]
          exact (hI.r2.other (by omega) _).set _
    · have he : ((bs y.2.1).toList == x.toList) = false := by rw [Lib.toList_data, Lib.toList_data, bs_list]; exact beq_eq_false_iff_ne.2 hk
      have HK := Lib.hid hk
      clear hk
      gi_wp2
      exact ⟨KeepsFrom.refl _ _, Below.refl _ _, hI.k, hI.r1, hI.r2, (fun z hz => by
        rcases List.mem_append.1 hz with hz | hz
        · exact hI.no z hz
        · obtain rfl : z = y := by simpa using hz
          exact HK.out), hI.bel, hI.sz⟩
  case done =>
    rintro D ys W hD rfl hI hK
    have d1 := hI.r1.cell
    have d2 := hI.r2.cell
    have f1 := hI.r1.frozen
    have f2 := hI.r2.frozen
    have hN := Lib.hid (last_of_none l x.data.toList hI.no)
    gi_wp2
    have r1' := (hI.r1.set (.string ⟨#[]⟩)).other (B' := w.heap.size + 1 + 1) (by omega) (.bool false)
    have r2' := (hI.r2.other (B' := w.heap.size + 1) (by omega) (.string ⟨#[]⟩)).set (.bool false)
    have hb := (hI.bel.setCell (p := ⟨w.heap.size + 1, 0, none⟩) (Nat.le_succ _) (.string ⟨#[]⟩)).setCell (p := ⟨w.heap.size + 1 + 1, 0, none⟩) (by show _ ≤ w.heap.size + 1 + 1; omega) (.bool false)
    have hK' := (KeepsOthers.same ((KeepsOthers.setCell W ⟨w.heap.size + 1, 0, none⟩ (.string ⟨#[]⟩)).trans (KeepsOthers.setCell _ ⟨w.heap.size + 1 + 1, 0, none⟩ (.bool false))) D _ hK rfl)
    exact get_end D _ w _ ([], false) _ (by omega) hK' r1' r2' hb (by rw [Px.getV, hN.out]) (by rw [Px.getV, hN.out]) rfl rfl
  case stop =>
    rintro D c pre W hD ⟨k, hk, rfl⟩ ⟨rfl, hO⟩ hK
    obtain ⟨pre', y, e1, e2, e3, e4, e5⟩ := hO.some_
    rw [uptoR_succ] at e1
    obtain ⟨rfl, e6⟩ := List.append_inj' e1 rfl
    obtain rfl : fromB l k = y := by simpa using e6
    have hN := Lib.hid (last_of_back l k hk x.data.toList e2 e3)
    gi_wp2
    exact get_end D W w _ ((fromB l k).2.2, (fromB l k).2.2 != []) _ (by omega) hK e4 e5 hO.bel (by rw [Px.getV, hN.out]) (by rw [Px.getV, hN.out]) rfl rfl

end Go.Proofs.YtkhkjacnoiopcaaGreatDoor
