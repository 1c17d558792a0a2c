/-
  strings.SplitSeq at a comma; mode.Change.
-/
import Derived.Test.YthaggmdfjmelgaaDoorModeB
import Derived.RangeFuncNested
import Derived.RangeFuncBound
import Derived.RangeFuncCalls
import Derived.RangeFuncLeaves
import Derived.RangeFuncRecord
import Derived.Shelf.Abstract
import Derived.Shelf.RegionOpen
import Derived.OwnWalkIn
import Derived.TacticsInMore
import Derived.LoopNIn
import Derived.LoopIn
namespace Go.Proofs.YthaggmdfjmelgaaDoor
open Go.RowKit Go.Shelf
attribute [local go_sem] Oper.semAt_some

/-- The iterator that SplitSeq hands back: three boxes and a closure. -/
def seqW (s : ByteArray) (w : World) : World := ((w.alloc (.cells #[.string s] 9)).alloc (.cells #[.string ⟨#[44]⟩] 9)).alloc (.cells #[.int .i64 0] 3)
theorem seq_any (s : ByteArray) (w : World) : Calls Tryd.prog 17 #[.string s, .string ⟨#[44]⟩] w fun e w' =>
    e = .returned (.func (.func 41) #[] #[.pointer (some ⟨w.heap.size + 1, 0, none⟩), .pointer (some ⟨w.heap.size, 0, none⟩), .pointer (some ⟨w.heap.size + 2, 0, none⟩)]) ∧ w' = seqW s w := by
  have h2 : ∀ w : World, Calls Tryd.prog 28 #[.string s, .string ⟨#[44]⟩, .int .i64 0] w fun e w' =>
      e = .returned (.func (.func 41) #[] #[.pointer (some ⟨w.heap.size + 1, 0, none⟩), .pointer (some ⟨w.heap.size, 0, none⟩), .pointer (some ⟨w.heap.size + 2, 0, none⟩)]) ∧ w' = seqW s w := by
    intro w
    go_enter Tryd.func28, Tryd.ntmps28
    go_wp2_with fail
    go_ret
    exact ⟨rfl, rfl⟩
  have H := Lib.hid h2
  clear h2
  go_enter Tryd.func17, Tryd.ntmps17
  go_wp2_with ((go_at_call 28; refine (H.out _).mono ?_; rintro e w2 ⟨rfl, rfl⟩))
  go_ret
  exact ⟨rfl, rfl⟩


/-- The index of a comma. -/
theorem idx_any (s : ByteArray) (w : World) : Calls Tryd.prog 19 #[.string s, .string ⟨#[44]⟩] w fun e w' => e = .returned (.int .i64 (Lib.indexByte s.data.toList 44)) ∧ w' = w := by
  have h3 : ∀ w : World, Calls Tryd.prog 42 #[.string s, .int .u8 44] w fun e w' => e = .returned (.int .i64 (Lib.indexByte s.data.toList 44)) ∧ w' = w := fun w => Tryd.stringslite_IndexByte s 44 w
  have H3 := Lib.hid h3
  have h2 : ∀ w : World, Calls Tryd.prog 32 #[.string s, .string ⟨#[44]⟩] w fun e w' => e = .returned (.int .i64 (Lib.indexByte s.data.toList 44)) ∧ w' = w := by
    intro w
    go_enter Tryd.func32, Tryd.ntmps32
    go_wp2_with ((go_at_call 42; refine (H3.out _).mono ?_; rintro e w2 ⟨rfl, rfl⟩))
    · rename_i hh
      have e1 : s.data.toList = [44] := by rw [← Lib.toList_data]; exact (eq_of_beq hh).symm
      go_ret
      rw [e1]
      exact ⟨rfl, rfl⟩
    · go_ret
      exact ⟨rfl, rfl⟩
  have H := Lib.hid h2
  clear h2 h3
  go_enter Tryd.func19, Tryd.ntmps19
  go_wp2_with ((go_at_call 32; refine (H.out _).mono ?_; rintro e w2 ⟨rfl, rfl⟩))
  go_ret
  exact ⟨rfl, rfl⟩

/-! ### the loop over the parts -/

/-- The assignment and the body of Change's loop, off its own text. -/
noncomputable def chA : Code := match Tryd.f11.body with
  | some (.seq _ (.seq _ (.seq _ (.seq (.seq _ (.block _ (.rangeFunc _ _ a _))) _)))) => a
  | _ => .skip
noncomputable def chB : Code := match Tryd.f11.body with
  | some (.seq _ (.seq _ (.seq _ (.seq (.seq _ (.block _ (.rangeFunc _ _ _ b))) _)))) => b
  | _ => .skip
/-- Change's frame at the loop. -/
def cT (q : Nat → Value) (B : Nat) (x : Value) : Array Value := #[q 0, q 1, q 2, .pointer (some ⟨B, 0, none⟩), undef, .pointer (some ⟨B + 1, 0, none⟩), .pointer (some ⟨B + 1 + 1, 0, none⟩), .pointer (some ⟨B + 1 + 1 + 1, 0, none⟩), q 8, q 9, undef, undef, undef, q 13, q 14, q 15, q 16, q 17, q 18, q 19, q 20, q 21, q 22, q 23, q 24, q 25, q 26, q 27, q 28, q 29, q 30, q 31, x, undef, undef, undef, undef, undef, undef, undef, undef, undef, undef, undef, undef]
noncomputable def cRec (fn : FuncId) (q : Nat → Value) (B : Nat) (st : LoopState) (pend : Option Code) : Loop :=
  { state := st, pending := pend, fn, tmps := cT q B undef, params := #[32], assign := chA, body := chB, defers := B + 7 }

theorem Blk.put {w : World} {g : Nat} {t : TypeId} {cs : Array Value} (h : Blk w g t cs) {l : Nat} (hl : g ≠ l) (o : Obj) : Blk (w.putObj l o) g t cs := (World.putObj_heap_other hl).trans h
theorem Blk.set1 {w : World} {g : Nat} {t : TypeId} {v : Value} (h : Blk w g t #[v]) (u : Value) : Blk (w.setCell ⟨g, 0, none⟩ u) g t #[u] := h.set_ 0 u

/-- What lies in memory while the loop goes. -/
structure Mid (fn : FuncId) (q : Nat → Value) (w0 : World) (dir : Bool) (m : BitVec 12) (sv : ByteArray) (r1 r2 : Value) (st : LoopState) (pend : Option Code) (W : World) : Prop where
  m : Blk W w0.heap.size 3 #[.int .i64 m.toNat]
  d : Blk W (w0.heap.size + 1) 4 #[.bool dir]
  r1 : Blk W (w0.heap.size + 2) 3 #[r1]
  r2 : Blk W (w0.heap.size + 3) 25 #[r2]
  s : Blk W (w0.heap.size + 4) 9 #[.string sv]
  p : Blk W (w0.heap.size + 5) 9 #[.string ⟨#[44]⟩]
  k : Blk W (w0.heap.size + 6) 3 #[.int .i64 0]
  K : W.heap[w0.heap.size + 7]? = some (.deferred (some []))
  L : W.heap[w0.heap.size + 8]? = some (.loop (cRec fn q w0.heap.size st pend))
  bel : Below w0.heap.size w0 W

section
variable {fn : FuncId} {q : Nat → Value} {w0 : World} {dir : Bool} {m : BitVec 12} {sv : ByteArray} {r1 r2 : Value} {st : LoopState} {pend : Option Code} {W : World}
theorem Mid.drewN (h : Mid fn q w0 dir m sv r1 r2 st pend W) (n : Nat) : Mid fn q w0 dir m sv r1 r2 st pend (W.drewN n) := ⟨h.m, h.d, h.r1, h.r2, h.s, h.p, h.k, h.K, h.L, below_drewN h.bel n⟩
theorem bel_put {B l : Nat} {a w : World} (h : Below B a w) (hl : B ≤ l) (o : Obj) : Below B a (w.putObj l o) :=
  ⟨h.os, h.tape, h.output, by simpa using h.size, fun i hi => (World.putObj_heap_other (by omega)).trans (h.block i hi)⟩
theorem Mid.reco (h : Mid fn q w0 dir m sv r1 r2 st pend W) (st' : LoopState) (pend' : Option Code) : Mid fn q w0 dir m sv r1 r2 st' pend' (W.putObj (w0.heap.size + 8) (.loop (cRec fn q w0.heap.size st' pend'))) :=
  ⟨h.m.put (by omega) _, h.d.put (by omega) _, h.r1.put (by omega) _, h.r2.put (by omega) _, h.s.put (by omega) _, h.p.put (by omega) _, h.k.put (by omega) _,
    (World.putObj_heap_other (by omega)).trans h.K, World.putObj_heap_same (Array.getElem?_eq_some_iff.1 h.L).1, bel_put h.bel (by omega) _⟩
theorem bel_set {B g : Nat} {a w : World} (h : Below B a w) (hg : B ≤ g) (u : Value) : Below B a (w.setCell ⟨g, 0, none⟩ u) := h.setCell (p := ⟨g, 0, none⟩) hg u
theorem Mid.setM (h : Mid fn q w0 dir m sv r1 r2 st pend W) (m' : BitVec 12) : Mid fn q w0 dir m' sv r1 r2 st pend (W.setCell ⟨w0.heap.size, 0, none⟩ (.int .i64 m'.toNat)) :=
  ⟨h.m.set1 _, h.d.far (by simp) _, h.r1.far (by simp) _, h.r2.far (by simp) _, h.s.far (by simp) _, h.p.far (by simp) _, h.k.far (by simp) _,
    (Below.heap_setCell W ⟨w0.heap.size, 0, none⟩ _ _ (by simp)).trans h.K, (Below.heap_setCell W ⟨w0.heap.size, 0, none⟩ _ _ (by simp)).trans h.L, bel_set h.bel (by omega) _⟩
theorem Mid.setS (h : Mid fn q w0 dir m sv r1 r2 st pend W) (sv' : ByteArray) : Mid fn q w0 dir m sv' r1 r2 st pend (W.setCell ⟨w0.heap.size + 4, 0, none⟩ (.string sv')) :=
  ⟨h.m.far (by simp) _, h.d.far (by simp) _, h.r1.far (by simp) _, h.r2.far (by simp) _, h.s.set1 _, h.p.far (by simp) _, h.k.far (by simp) _,
    (Below.heap_setCell W ⟨w0.heap.size + 4, 0, none⟩ _ _ (by simp)).trans h.K, (Below.heap_setCell W ⟨w0.heap.size + 4, 0, none⟩ _ _ (by simp)).trans h.L, bel_set h.bel (by omega) _⟩
theorem Mid.setR1 (h : Mid fn q w0 dir m sv r1 r2 st pend W) (v : Value) : Mid fn q w0 dir m sv v r2 st pend (W.setCell ⟨w0.heap.size + 2, 0, none⟩ v) :=
  ⟨h.m.far (by simp) _, h.d.far (by simp) _, h.r1.set1 _, h.r2.far (by simp) _, h.s.far (by simp) _, h.p.far (by simp) _, h.k.far (by simp) _,
    (Below.heap_setCell W ⟨w0.heap.size + 2, 0, none⟩ _ _ (by simp)).trans h.K, (Below.heap_setCell W ⟨w0.heap.size + 2, 0, none⟩ _ _ (by simp)).trans h.L, bel_set h.bel (by omega) _⟩
theorem Mid.setR2 (h : Mid fn q w0 dir m sv r1 r2 st pend W) (v : Value) : Mid fn q w0 dir m sv r1 v st pend (W.setCell ⟨w0.heap.size + 3, 0, none⟩ v) :=
  ⟨h.m.far (by simp) _, h.d.far (by simp) _, h.r1.far (by simp) _, h.r2.set1 _, h.s.far (by simp) _, h.p.far (by simp) _, h.k.far (by simp) _,
    (Below.heap_setCell W ⟨w0.heap.size + 3, 0, none⟩ _ _ (by simp)).trans h.K, (Below.heap_setCell W ⟨w0.heap.size + 3, 0, none⟩ _ _ (by simp)).trans h.L, bel_set h.bel (by omega) _⟩
end

/-- The error 'form'. -/
def eForm : Value := .iface 36 (.int .i64 3)
def eRange : Value := .iface 36 (.int .i64 2)

set_option maxRecDepth 100000 in
set_option maxHeartbeats 4000000 in
/-- One round: a part. -/
theorem ch_round (n : Nat) (hn : 1 ≤ n) (fn : FuncId) (q : Nat → Value) (w0 : World) (dir : Bool) (m : BitVec 12) (sv x : ByteArray) (hx : x.size < 1000) (W : World) (h : Mid fn q w0 dir m sv (.int .i64 0) .nilIface .ready none W) :
    RoundIn Fence.wide n Tryd.prog (w0.heap.size + 8) fn (cT q w0.heap.size (.string x)) chA chB W
      fun e W' => (∃ m', Mode.partL x.data.toList m dir = some m' ∧ e = .returned (.bool true) ∧ Mid fn q w0 dir m' sv (.int .i64 0) .nilIface .ready none W') ∨
        (Mode.partL x.data.toList m dir = none ∧ e = .returned (.bool false) ∧ Mid fn q w0 dir m sv (.int .i64 0) eForm .done (some .ret) W') := by
  refine roundIn_of_wpIn trivial ?_
  have hbr := run_beginRound (P := Tryd.prog) h.L rfl
  have h2 := h.reco .busy none
  have hpa := fun w => part_any x hx m dir w
  cases hp : Mode.partL x.data.toList m dir with
  | some m' =>
    rw [hp] at hpa
    simp only [whatV] at hpa
    obtain ⟨W2, hW2⟩ : ∃ W2, W.putObj (w0.heap.size + 8) (.loop (cRec fn q w0.heap.size .busy none)) = W2 := ⟨_, rfl⟩
    rw [hW2] at h2
    have hbr2 : (Instr.beginRound (w0.heap.size + 8)).run Tryd.prog W = .ok () W2 := by rw [← hW2]; exact hbr
    clear hW2 hbr h
    obtain ⟨l, hl⟩ : ∃ l, w0.heap.size + 8 = l := ⟨_, rfl⟩
    have H := Lib.hid h2
    have c0 := h2.m.cell 0
    have c1 := h2.d.cell 0
    have f0 := h2.m.frozen 0
    rw [hl] at hbr2
    rw [hl]
    clear h2
    simp only [chA, Tryd.f11, cT]
    gi_wp2
    refine ⟨W2, hbr2, ?_⟩
    simp only [chB, Tryd.f11]
    gi_wp2_with ((first | refine ⟨trivial, fun _ => hn, ?_⟩ | refine ⟨trivial, ?_⟩); gi_at_call 18; refine (CallsIn.inRound l (callsIn_wide.2 (hpa _))).mono ?_; rintro e w' ⟨rfl, k, rfl⟩)
    have h3 := (H.out.drewN k).setM m'
    subst hl
    exact ⟨_, _, run_endRound none h3.L, .inl ⟨m', rfl, rfl, h3.reco .ready none⟩⟩
  | none =>
    rw [hp] at hpa
    simp only [whatV] at hpa
    obtain ⟨W2, hW2⟩ : ∃ W2, W.putObj (w0.heap.size + 8) (.loop (cRec fn q w0.heap.size .busy none)) = W2 := ⟨_, rfl⟩
    rw [hW2] at h2
    have hbr2 : (Instr.beginRound (w0.heap.size + 8)).run Tryd.prog W = .ok () W2 := by rw [← hW2]; exact hbr
    clear hW2 hbr h
    obtain ⟨l, hl⟩ : ∃ l, w0.heap.size + 8 = l := ⟨_, rfl⟩
    have H := Lib.hid h2
    have c0 := h2.m.cell 0
    have c1 := h2.d.cell 0
    have c2 := h2.r1.cell 0
    have c3 := h2.r2.cell 0
    have f2 := h2.r1.frozen 0
    have f3 := h2.r2.frozen 0
    rw [hl] at hbr2
    rw [hl]
    clear h2
    simp only [chA, Tryd.f11, cT]
    gi_wp2
    refine ⟨W2, hbr2, ?_⟩
    simp only [chB, Tryd.f11]
    gi_wp2_with ((first | refine ⟨trivial, fun _ => hn, ?_⟩ | refine ⟨trivial, ?_⟩); gi_at_call 18; refine (CallsIn.inRound l (callsIn_wide.2 (hpa _))).mono ?_; rintro e w' ⟨rfl, k, rfl⟩)
    have h3 := ((H.out.drewN k).setR1 (.int .i64 0)).setR2 eForm
    subst hl
    exact ⟨_, _, run_endRound (some .ret) h3.L, .inr ⟨trivial, rfl, h3.reco .done (some .ret)⟩⟩

theorem yield_at {fn : FuncId} {q : Nat → Value} {w0 : World} {dir : Bool} {m : BitVec 12} {sv : ByteArray} {r1 r2 : Value} {W : World} (h : Mid fn q w0 dir m sv r1 r2 .ready none W) (x : ByteArray) :
    (Instr.yield (w0.heap.size + 8) #[.string x]).run Tryd.prog W = .ok (.round (w0.heap.size + 8) fn (cT q w0.heap.size (.string x)) chA chB) W := by
  simpa [cRec, cT] using run_yield (P := Tryd.prog) (args := #[.string x]) h.L rfl
/-- The length of the text in a cell. -/
def strLen (W : World) (b : Nat) : Nat := match W.cell? ⟨b, 0, none⟩ with
  | some (.string t) => t.size
  | _ => 0
theorem strLen_of {W : World} {b : Nat} {t : TypeId} {sv : ByteArray} (h : Blk W b t #[.string sv]) : strLen W b = sv.size := by
  unfold strLen; rw [h.cell 0]; rfl

theorem comma_none (s : ByteArray) (h : Lib.indexByte s.data.toList 44 = -1) : (44 : UInt8) ∉ s.data.toList := by
  intro hm
  obtain ⟨k, hk, e⟩ := List.getElem_of_mem hm
  exact Lib.indexByte_none h k (by rw [List.getElem?_eq_getElem hk, e])
theorem comma_some (s : ByteArray) (i : Nat) (h : Lib.indexByte s.data.toList 44 = i) : i < s.size ∧ s.data.toList = (s.extract 0 i).data.toList ++ 44 :: (s.extract (i + 1) s.size).data.toList ∧ (44 : UInt8) ∉ (s.extract 0 i).data.toList := by
  obtain ⟨h1, h2⟩ := Lib.indexByte_some h
  have hi : i < s.data.toList.length := (List.getElem?_eq_some_iff.1 h1).1
  have e : s.data.toList[i] = 44 := (List.getElem?_eq_some_iff.1 h1).2
  refine ⟨by rw [list_size] at hi; exact hi, ?_, ?_⟩
  · rw [ext_to, ext_end, ← e, ← List.drop_eq_getElem_cons hi, List.take_append_drop]
  · rw [ext_to]
    intro hm
    obtain ⟨k, hk, e⟩ := List.getElem_of_mem hm
    rw [List.length_take] at hk
    exact h2 k (by omega) (by rw [List.getElem_take] at e; rw [List.getElem?_eq_getElem (by omega), e])

set_option maxRecDepth 100000 in
set_option maxHeartbeats 4000000 in
/-- The iterator, round by round. -/
theorem iter_any (n : Nat) (hn : 2 ≤ n) (fn : FuncId) (q : Nat → Value) (w0 : World) (dir : Bool) (m : BitVec 12) (s : ByteArray) (hs : s.size < 1000) (W : World) (h : Mid fn q w0 dir m s (.int .i64 0) .nilIface .ready none W) :
    CallsIn Fence.wide n Tryd.prog 41 #[.func (.yield (w0.heap.size + 8)) #[] #[], .pointer (some ⟨w0.heap.size + 5, 0, none⟩), .pointer (some ⟨w0.heap.size + 4, 0, none⟩), .pointer (some ⟨w0.heap.size + 6, 0, none⟩)] W
      fun e W' => (∃ v, e = .returned v) ∧ ((∃ m' sv, Mode.partsL dir (Mode.splitC s.data.toList) m = some m' ∧ Mid fn q w0 dir m' sv (.int .i64 0) .nilIface .ready none W') ∨
        (∃ m' sv, Mode.partsL dir (Mode.splitC s.data.toList) m = none ∧ Mid fn q w0 dir m' sv (.int .i64 0) eForm .done (some .ret) W')) := by
  obtain ⟨z, hz⟩ : ∃ z, Mode.partsL dir (Mode.splitC s.data.toList) m = z := ⟨_, rfl⟩
  rw [hz]
  refine callsIn_of_wp Tryd.func41 rfl trivial ?_ rfl
  simp only [Tryd.ntmps41, List.size_toArray, List.length_cons, List.length_nil, Nat.reduceAdd, Nat.reduceSub, Array.replicate_succ, Array.replicate_zero, List.push_toArray, List.append_toArray, List.nil_append, List.cons_append]
  have c5 := h.p.cell 0
  gi_wp2
  gi_loopw [7] (fun _ wr => ∃ (t : ByteArray) (m' : BitVec 12), Mid fn q w0 dir m' t (.int .i64 0) .nilIface .ready none wr ∧ t.size < 1000 ∧ Hid (Mode.partsL dir (Mode.splitC t.data.toList) m' = z)) (fun _ wr => strLen wr (w0.heap.size + 4))
  case atStart => exact ⟨s, m, h, hs, hz⟩
  case round =>
    obtain ⟨t, m', hM, ht, hZ⟩ := hrel
    have c4 := hM.s.cell 0
    have c5 := hM.p.cell 0
    have c6 := hM.k.cell 0
    have f4 := hM.s.frozen 0
    have hix := idx_any t
    rcases Int.lt_or_le (Lib.indexByte t.data.toList 44) 0 with hneg | hpos
    · have hv : Lib.indexByte t.data.toList 44 = -1 := by have := Lib.indexByte_ge t.data.toList 44; omega
      rw [hv] at hix
      have hZ2 := hZ.out
      rw [Mode.splitC_none _ (comma_none t hv)] at hZ2
      have hZ3 : Mode.partL t.data.toList m' dir = z := by
        rw [← hZ2, Mode.partsL]; cases Mode.partL t.data.toList m' dir <;> rfl
      have hy := yield_at hM t
      have HM := Lib.hid hM
      have HZ := Lib.hid hZ3
      clear hM hZ hZ2 hZ3 hneg hv
      gi_wp2_with ((first | refine ⟨trivial, fun _ => by omega, ?_⟩ | refine ⟨trivial, ?_⟩); gi_at_call 19; refine (callsIn_wide.2 (hix _)).mono ?_; rintro e w' ⟨rfl, rfl⟩)
      refine ⟨fun _ => by omega, ?_⟩
      refine (ch_round (n - 1) (by omega) fn q w0 dir m' t t ht _ HM.out).mono ?_
      have HZ2 := HZ.out
      rintro e W' (⟨m2, hp, rfl, hM2⟩ | ⟨hp, rfl, hM2⟩)
      · rw [hp] at HZ2
        gi_wp2
        go_end0
        exact ⟨⟨_, rfl⟩, .inl ⟨m2, t, HZ2.symm, hM2⟩⟩
      · rw [hp] at HZ2
        gi_wp2
        go_end0
        exact ⟨⟨_, rfl⟩, .inr ⟨m', t, HZ2.symm, hM2⟩⟩
    · obtain ⟨i, hi⟩ := Int.eq_ofNat_of_zero_le hpos
      obtain ⟨hlt, hcut, hno⟩ := comma_some t i hi
      rw [hi] at hix
      have hZ2 := hZ.out
      rw [hcut, Mode.splitC_cut _ _ hno, Mode.partsL] at hZ2
      have hsz : (t.extract 0 i).size < 1000 := by rw [ext_size _ _ _ (by omega)]; omega
      have hsz2 : (t.extract (i + 1) t.size).size < t.size := by rw [ext_size _ _ _ (Nat.le_refl _)]; omega
      have hM0 := strLen_of hM.s
      have hy := yield_at hM (t.extract 0 i)
      have HM := Lib.hid hM
      have HZ := Lib.hid hZ2
      have HS := Lib.hid hsz
      have HS2 := Lib.hid hsz2
      clear hM hZ hZ2 hcut hno hpos hi hsz hsz2
      gi_wp2_with ((first | refine ⟨trivial, fun _ => by omega, ?_⟩ | refine ⟨trivial, ?_⟩); gi_at_call 19; refine (callsIn_wide.2 (hix _)).mono ?_; rintro e w' ⟨rfl, rfl⟩)
      refine ⟨fun _ => by omega, ?_⟩
      refine (ch_round (n - 1) (by omega) fn q w0 dir m' t (t.extract 0 i) HS.out _ HM.out).mono ?_
      have HZ2 := HZ.out
      rintro e W' (⟨m2, hp, rfl, hM2⟩ | ⟨hp, rfl, hM2⟩)
      · rw [hp] at HZ2
        have HZ3 := Lib.hid (show Mode.partsL dir (Mode.splitC (t.extract (i + 1) t.size).data.toList) m2 = z from HZ2)
        have c4 := hM2.s.cell 0
        have c5 := hM2.p.cell 0
        have f4 := hM2.s.frozen 0
        have H2 := Lib.hid (hM2.setS (t.extract (i + 1) t.size))
        clear hM2 HZ2
        gi_wp2
        go_roundw
        case rel => exact ⟨_, m2, H2.out, by have := HS2.out; omega, HZ3⟩
        case measure => rw [strLen_of H2.out.s, hM0]; exact HS2.out
      · rw [hp] at HZ2
        have HZ3 : z = none := HZ2.symm
        gi_wp2
        refine bodyPost_ret (results_none rfl _ _ _) rfl ?_
        exact ⟨⟨_, rfl⟩, .inr ⟨m', t, HZ3, hM2⟩⟩

/-- The two errors of Change. -/
def chV : Option (Option (BitVec 12)) → Value
  | some (some n) => .tuple #[.int .i64 n.toNat, .nilIface]
  | some none => .tuple #[.int .i64 0, eForm]
  | none => .tuple #[.int .i64 0, eRange]

/-- The memory in which the loop begins. -/
theorem mid_start (fn : FuncId) (q : Nat → Value) (w : World) (dir : Bool) (m : BitVec 12) (s : ByteArray) :
    (seqW s ((((w.alloc (.cells #[.int .i64 m.toNat] 3)).alloc (.cells #[.bool dir] 4)).alloc (.cells #[.int .i64 0] 3)).alloc (.cells #[.nilIface] 25))).heap.size = w.heap.size + 7 ∧ Mid fn q w dir m s (.int .i64 0) .nilIface .ready none (((seqW s ((((w.alloc (.cells #[.int .i64 m.toNat] 3)).alloc (.cells #[.bool dir] 4)).alloc (.cells #[.int .i64 0] 3)).alloc (.cells #[.nilIface] 25))).alloc (.deferred (some []))).alloc (.loop (cRec fn q w.heap.size .ready none))) := by
  unfold seqW
  have hb := Below.refl w.heap.size w
  obtain ⟨B, hB⟩ : ∃ B, w.heap.size = B := ⟨_, rfl⟩
  have b0 := Blk.new w 3 #[.int .i64 m.toNat]
  have z1 : (w.alloc (.cells #[.int .i64 m.toNat] 3)).heap.size = B + 1 := by rw [World.size_alloc, hB]
  rw [hB] at b0
  replace hb := hb.alloc (Nat.le_refl _) (.cells #[.int .i64 m.toNat] 3)
  generalize w.alloc (.cells #[.int .i64 m.toNat] 3) = w1 at *
  have b1 := Blk.new w1 4 #[.bool dir]
  have z2 : (w1.alloc (.cells #[.bool dir] 4)).heap.size = B + 2 := by rw [World.size_alloc, z1]
  rw [z1] at b1
  replace hb := hb.alloc (by rw [hB, z1]; omega) (.cells #[.bool dir] 4)
  replace b0 := b0.alloc (.cells #[.bool dir] 4)
  generalize w1.alloc (.cells #[.bool dir] 4) = w2 at *
  have b2 := Blk.new w2 3 #[.int .i64 0]
  have z3 : (w2.alloc (.cells #[.int .i64 0] 3)).heap.size = B + 3 := by rw [World.size_alloc, z2]
  rw [z2] at b2
  replace hb := hb.alloc (by rw [hB, z2]; omega) (.cells #[.int .i64 0] 3)
  replace b0 := b0.alloc (.cells #[.int .i64 0] 3)
  replace b1 := b1.alloc (.cells #[.int .i64 0] 3)
  generalize w2.alloc (.cells #[.int .i64 0] 3) = w3 at *
  have b3 := Blk.new w3 25 #[.nilIface]
  have z4 : (w3.alloc (.cells #[.nilIface] 25)).heap.size = B + 4 := by rw [World.size_alloc, z3]
  rw [z3] at b3
  replace hb := hb.alloc (by rw [hB, z3]; omega) (.cells #[.nilIface] 25)
  replace b0 := b0.alloc (.cells #[.nilIface] 25)
  replace b1 := b1.alloc (.cells #[.nilIface] 25)
  replace b2 := b2.alloc (.cells #[.nilIface] 25)
  generalize w3.alloc (.cells #[.nilIface] 25) = w4 at *
  have b4 := Blk.new w4 9 #[.string s]
  have z5 : (w4.alloc (.cells #[.string s] 9)).heap.size = B + 5 := by rw [World.size_alloc, z4]
  rw [z4] at b4
  replace hb := hb.alloc (by rw [hB, z4]; omega) (.cells #[.string s] 9)
  replace b0 := b0.alloc (.cells #[.string s] 9)
  replace b1 := b1.alloc (.cells #[.string s] 9)
  replace b2 := b2.alloc (.cells #[.string s] 9)
  replace b3 := b3.alloc (.cells #[.string s] 9)
  generalize w4.alloc (.cells #[.string s] 9) = w5 at *
  have b5 := Blk.new w5 9 #[.string ⟨#[44]⟩]
  have z6 : (w5.alloc (.cells #[.string ⟨#[44]⟩] 9)).heap.size = B + 6 := by rw [World.size_alloc, z5]
  rw [z5] at b5
  replace hb := hb.alloc (by rw [hB, z5]; omega) (.cells #[.string ⟨#[44]⟩] 9)
  replace b0 := b0.alloc (.cells #[.string ⟨#[44]⟩] 9)
  replace b1 := b1.alloc (.cells #[.string ⟨#[44]⟩] 9)
  replace b2 := b2.alloc (.cells #[.string ⟨#[44]⟩] 9)
  replace b3 := b3.alloc (.cells #[.string ⟨#[44]⟩] 9)
  replace b4 := b4.alloc (.cells #[.string ⟨#[44]⟩] 9)
  generalize w5.alloc (.cells #[.string ⟨#[44]⟩] 9) = w6 at *
  have b6 := Blk.new w6 3 #[.int .i64 0]
  have z7 : (w6.alloc (.cells #[.int .i64 0] 3)).heap.size = B + 7 := by rw [World.size_alloc, z6]
  rw [z6] at b6
  replace hb := hb.alloc (by rw [hB, z6]; omega) (.cells #[.int .i64 0] 3)
  replace b0 := b0.alloc (.cells #[.int .i64 0] 3)
  replace b1 := b1.alloc (.cells #[.int .i64 0] 3)
  replace b2 := b2.alloc (.cells #[.int .i64 0] 3)
  replace b3 := b3.alloc (.cells #[.int .i64 0] 3)
  replace b4 := b4.alloc (.cells #[.int .i64 0] 3)
  replace b5 := b5.alloc (.cells #[.int .i64 0] 3)
  generalize w6.alloc (.cells #[.int .i64 0] 3) = w7 at *
  refine ⟨by rw [z7, hB], ?_⟩
  have k7 := World.alloc_heap_new w7 (.deferred (some []))
  have z8 : (w7.alloc (.deferred (some []))).heap.size = B + 8 := by rw [World.size_alloc, z7]
  rw [z7] at k7
  replace hb := hb.alloc (by rw [hB, z7]; omega) (.deferred (some []))
  replace b0 := b0.alloc (.deferred (some []))
  replace b1 := b1.alloc (.deferred (some []))
  replace b2 := b2.alloc (.deferred (some []))
  replace b3 := b3.alloc (.deferred (some []))
  replace b4 := b4.alloc (.deferred (some []))
  replace b5 := b5.alloc (.deferred (some []))
  replace b6 := b6.alloc (.deferred (some []))
  generalize w7.alloc (.deferred (some [])) = w8 at *
  have k8 := World.alloc_heap_new w8 (.loop (cRec fn q w.heap.size .ready none))
  rw [z8] at k8
  have k7' := (Below.heap_alloc w8 (.loop (cRec fn q w.heap.size .ready none)) (B + 7) (by rw [z8]; omega)).trans k7
  replace hb := hb.alloc (by rw [hB, z8]; omega) (.loop (cRec fn q w.heap.size .ready none))
  replace b0 := b0.alloc (.loop (cRec fn q w.heap.size .ready none))
  replace b1 := b1.alloc (.loop (cRec fn q w.heap.size .ready none))
  replace b2 := b2.alloc (.loop (cRec fn q w.heap.size .ready none))
  replace b3 := b3.alloc (.loop (cRec fn q w.heap.size .ready none))
  replace b4 := b4.alloc (.loop (cRec fn q w.heap.size .ready none))
  replace b5 := b5.alloc (.loop (cRec fn q w.heap.size .ready none))
  replace b6 := b6.alloc (.loop (cRec fn q w.heap.size .ready none))
  rw [← hB] at b0 b1 b2 b3 b4 b5 b6 k7' k8
  exact ⟨b0, b1, b2, b3, b4, b5, b6, k7', k8, hb⟩

set_option maxRecDepth 100000 in
set_option maxHeartbeats 4000000 in
theorem change_parts (m : BitVec 12) (s : ByteArray) (dir : Bool) (hs : s.size < 1000) (ho : Mode.octL s.data.toList = none) (w : World) :
    Calls Tryd.prog 11 #[.int .i64 m.toNat, .string s, .bool dir] w fun e w' => e = .returned (chV (some (Mode.partsL dir (Mode.splitC s.data.toList) m))) ∧ Below w.heap.size w w' := by
  have hoc : ∀ w : World, Calls Tryd.prog 16 #[.string s] w fun e w' => e = .returned (.tuple #[.int .i64 0, .bool false]) ∧ w' = w := by
    intro w
    by_cases h0 : 0 < s.size
    · have := oct_any s h0 hs w
      rw [ho] at this
      exact this
    · have h1 : s = ⟨#[]⟩ := ba_ext (List.eq_nil_of_length_eq_zero (by rw [list_size]; omega))
      rw [h1]
      exact oct_nil w
  have e1 : decide ((m.toNat : Int) < 0) = false := decide_eq_false (by omega)
  have e2 : decide (4095 < (m.toNat : Int)) = false := decide_eq_false (by have := w_hi m; omega)
  have OC := Lib.hid hoc
  clear hoc ho
  refine callsIn_wide.1 (?_ : CallsIn Fence.wide 5 _ _ _ _ _)
  refine callsIn_of_wp_marks Tryd.func11 rfl trivial ?_ rfl
  simp only [Tryd.ntmps11, List.size_toArray, List.length_cons, List.length_nil, Nat.reduceAdd, Nat.reduceSub, Array.replicate_succ, Array.replicate_zero, List.push_toArray, List.append_toArray, List.nil_append, List.cons_append]
  gi_wp2_with (first
    | (refine ⟨trivial, ?_⟩; gi_at_call 16; refine (callsIn_wide.2 (OC.out _)).mono ?_; rintro e w' ⟨rfl, rfl⟩)
    | (refine ⟨trivial, ?_⟩; gi_at_call 17; refine (callsIn_wide.2 (seq_any s _)).mono ?_; rintro e w' ⟨rfl, rfl⟩))
  refine wpIn_rangeFunc ?_
  intro fn hfn
  obtain ⟨hs0, hM⟩ := mid_start fn (fun i => (#[.int .i64 m.toNat, .string s, .bool dir, undef, undef, undef, undef, undef, .int .i64 0, .bool false, undef, undef, undef, .int .i64 m.toNat, .bool false, .bool false, .int .i64 m.toNat, .bool false, .bool false, undef,
    .tuple #[.int .i64 0, .bool false], .string s, .tuple #[.int .i64 0, .bool false], .int .i64 0, .bool false, .bool false, undef, undef, undef, undef, .string s,
    .func (.func 41) #[] #[.pointer (some ⟨w.heap.size + 1 + 1 + 1 + 1 + 1, 0, none⟩), .pointer (some ⟨w.heap.size + 1 + 1 + 1 + 1, 0, none⟩), .pointer (some ⟨w.heap.size + 1 + 1 + 1 + 1 + 2, 0, none⟩)]] : Array Value).getD i undef) w dir m s
  generalize seqW s _ = W0 at *
  generalize hqd : (fun i : Nat => (#[Value.int .i64 m.toNat, _, _, _, _, _, _, _, _, _, _, _, _, _, _, _, _, _, _, _, _, _, _, _, _, _, _, _, _, _, _, _] : Array Value).getD i undef) = q at hM
  obtain ⟨W1, hW1⟩ : ∃ W1, ((W0.alloc (.deferred (some []))).alloc (.loop (cRec fn q w.heap.size .ready none))) = W1 := ⟨_, rfl⟩
  rw [hW1] at hM
  refine ⟨w.heap.size + 8, [{ target := .collected (w.heap.size + 7), args := #[] }], W1, { target := .fn (.func 41) #[.pointer (some ⟨w.heap.size + 1 + 1 + 1 + 1 + 1, 0, none⟩), .pointer (some ⟨w.heap.size + 1 + 1 + 1 + 1, 0, none⟩), .pointer (some ⟨w.heap.size + 1 + 1 + 1 + 1 + 2, 0, none⟩)], args := #[.func (.yield (w.heap.size + 8)) #[] #[]] }, W1, 41,
    #[.func (.yield (w.heap.size + 8)) #[] #[], .pointer (some ⟨w.heap.size + 5, 0, none⟩), .pointer (some ⟨w.heap.size + 4, 0, none⟩), .pointer (some ⟨w.heap.size + 6, 0, none⟩)], W1, ?_, ?_, ?_, ?_, fun _ => by omega, ?_⟩
  · refine (run_enterLoop_outer fn _ _ _ _).trans ?_
    rw [← hW1, hs0, ← hqd]
    rfl
  · simp [resolve, go_sem]
  · intro f' hf'; trivial
  · simp [invoke, go_sem, enters_of Tryd.func41 (by kernel_rfl) rfl]
  · refine (iter_any (5 - 1) (by omega) fn q w dir m s hs W1 hM).mono ?_
    rintro e W2 ⟨⟨v, rfl⟩, ⟨m', sv, hp, h2⟩ | ⟨m', sv, hp, h2⟩⟩
    · have hend := run_endLoop (P := Tryd.prog) h2.L (by simp [cRec])
      have h3 := h2.reco .exhausted none
      obtain ⟨W3, hW3⟩ : ∃ W3, W2.putObj (w.heap.size + 8) (.loop (cRec fn q w.heap.size .exhausted none)) = W3 := ⟨_, rfl⟩
      rw [hW3] at h3
      refine ⟨none, W3, by rw [← hW3]; exact hend, ?_⟩
      clear hend hW3 h2 hM hqd hW1 hs0
      have c0 := h3.m.cell 0
      have c2 := h3.r1.cell 0
      have c3 := h3.r2.cell 0
      have f2 := h3.r1.frozen 0
      have f3 := h3.r2.frozen 0
      have h4 := (h3.setR1 (.int .i64 m'.toNat)).setR2 .nilIface
      have H4 := Lib.hid h4
      clear h3 h4
      gi_wp2
      generalize hX : (W3.setCell { block := w.heap.size + 1 + 1, off := 0 } (.int .i64 m'.toNat)).setCell { block := w.heap.size + 1 + 1 + 1, off := 0 } .nilIface = X
      have H5 := H4.out
      rw [hX] at H5
      clear H4 hX
      have b1 := H5.r1.put (l := w.heap.size + 7) (by omega) (.deferred none)
      have b2 := H5.r2.put (l := w.heap.size + 7) (by omega) (.deferred none)
      have k1 := b1.cell 0
      have k2 := b2.cell 0
      have hbel := bel_put H5.bel (l := w.heap.size + 7) (by omega) (.deferred none)
      have htd := run_takeDeferred (P := Tryd.prog) H5.K
      generalize X.putObj (w.heap.size + 7) (.deferred none) = Y at *
      refine ⟨by simp, .inl ⟨_, _, rfl, htd, ?_⟩⟩
      refine ⟨.tuple #[.int .i64 m'.toNat, .nilIface], ?_, ?_, hbel⟩
      · simp [results, Tryd.f11, go_sem, k1, k2]
      · rw [hp]; rfl
    · have hend := run_endLoop (P := Tryd.prog) h2.L (by simp [cRec])
      have h3 := h2.reco .exhausted (some .ret)
      obtain ⟨W3, hW3⟩ : ∃ W3, W2.putObj (w.heap.size + 8) (.loop (cRec fn q w.heap.size .exhausted (some .ret))) = W3 := ⟨_, rfl⟩
      rw [hW3] at h3
      refine ⟨some .ret, W3, by rw [← hW3]; exact hend, ?_⟩
      clear hend hW3 h2 hM hqd hW1 hs0
      have H4 := Lib.hid h3
      clear h3
      gi_wp2
      generalize hX : W3 = X
      have H5 := H4.out
      rw [hX] at H5
      clear H4 hX
      have b1 := H5.r1.put (l := w.heap.size + 7) (by omega) (.deferred none)
      have b2 := H5.r2.put (l := w.heap.size + 7) (by omega) (.deferred none)
      have k1 := b1.cell 0
      have k2 := b2.cell 0
      have hbel := bel_put H5.bel (l := w.heap.size + 7) (by omega) (.deferred none)
      have htd := run_takeDeferred (P := Tryd.prog) H5.K
      generalize X.putObj (w.heap.size + 7) (.deferred none) = Y at *
      refine ⟨by simp, .inl ⟨_, _, rfl, htd, ?_⟩⟩
      refine ⟨.tuple #[.int .i64 0, eForm], ?_, ?_, hbel⟩
      · simp [results, Tryd.f11, go_sem, k1, k2]
      · rw [hp]; rfl

end Go.Proofs.YthaggmdfjmelgaaDoor
