/-
  slices.Grow and slices.Concat of records.
-/
import Derived.Test.YtjafjhhmjfpmoaaDoorPaxR
import Derived.Shelf.Lays8
import Derived.Shelf.Spec.SlicesGrow
import Derived.Deep.Upon
import Derived.OwnWalk
namespace Go.Proofs
open Go.Shelf
def Tryd.lays_grow_ren : Go.Shelf.Ren := ⟨fun | 4 => 31 | n => n, fun | 22 => 23 | 25 => 32 | 3 => 3 | 4 => 4 | 9 => 9 | 20 => 20 | 0 => 0 | n => n, fun | n => n⟩
theorem Tryd.lays_grow : Go.Proofs.Lays8.n4 Tryd.prog Tryd.lays_grow_ren := {
  mixed := by kernel_rfl
  f4 := ⟨Tryd.f31.name, by decide, Tryd.func31.trans (congrArg some (by kernel_rfl))⟩
  t0 := Tryd.underlying0
  a0 := Tryd.isAgg0
  z0 := Tryd.sizeOf0
  v0 := Tryd.zeroValue0
  t3 := Tryd.underlying3
  a3 := Tryd.isAgg3
  z3 := Tryd.sizeOf3
  v3 := Tryd.zeroValue3
  t4 := Tryd.underlying4
  a4 := Tryd.isAgg4
  z4 := Tryd.sizeOf4
  v4 := Tryd.zeroValue4
  t9 := Tryd.underlying9
  a9 := Tryd.isAgg9
  z9 := Tryd.sizeOf9
  v9 := Tryd.zeroValue9
  t20 := Tryd.underlying20
  a20 := Tryd.isAgg20
  z20 := Tryd.sizeOf20
  v20 := Tryd.zeroValue20
  t22 := Tryd.underlying23
  a22 := Tryd.isAgg23
  z22 := Tryd.sizeOf23
  v22 := Tryd.zeroValue23 }
end Go.Proofs
namespace Go.Proofs.YtjafjhhmjfpmoaaDoor
open Go.RowKit

theorem grow_any (n : Nat) (hn : n ≤ 1000) (w : World) :
    Calls Tryd.prog 31 #[.slice none 0 0, .int .i64 n] w fun e w' => ∃ v, e = .returned v ∧ w'.ownsRow w.heap.size 32 2 v 0 [] ∧ Below w.heap.size w w' := by
  by_cases h0 : n = 0
  · subst h0
    exact (Any8.slices_Grow_room Tryd.lays_grow none 0 0 0 w (Nat.le_refl _) (by omega) (by omega) (by omega)).mono fun e w' ⟨he, hw⟩ => ⟨_, he, World.ownsRow_nil _ _ _ _, hw ▸ Below.refl _ _⟩
  · obtain ⟨i0, i1, i2, i3, i4⟩ := info_parts infoRc
    refine (Any8.slices_Grow_grow Tryd.lays_grow i0 _ i1 i2 (by rw [i3]; omega) none 0 0 n [] w (by omega) (by omega) (by rw [i4]; omega) (by omega) (by rw [i3]; rfl) (fun _ => rfl) (fun a h => by cases h)).mono fun e w' ⟨he, hw⟩ => ⟨_, he, ?_, ?_⟩
    · rw [hw]
      have ht : Tryd.lays_grow_ren.t 25 = 32 := rfl
      rw [ht]
      have hge := grownCap_ge w (0 + n) 0 32
      have hle := grownCap_le_maxLen w (0 + n) 0 32 (by unfold maxLen; omega)
      have hz : (Value.agg #[.string ⟨#[]⟩, .string ⟨#[]⟩]).cells.size = 2 := rfl
      refine ⟨rfl, .inr ⟨w.heap.size, _, _, rfl, Nat.le_refl _, heap_alloc_new _ _, Nat.zero_le _, hle, ?_, by simp⟩⟩
      rw [Array.size_append, Array.size_append, size_zeroCells, size_zeroCells, hz]
      simp only [List.size_toArray, List.length_nil]
      omega
    · rw [hw]; exact (Below.refl _ _).drew.alloc (by simp) _

set_option maxRecDepth 100000 in
set_option maxHeartbeats 2000000 in
theorem concat_rows (P Q : List Px.Rec) (g b1 c1 b2 c2 : Nat) (w : World) (h1 : P.length ≤ 100) (h2 : Q.length ≤ 100)
    (hg1 : w.cell? ⟨g, 0, none⟩ = some (.slice (some ⟨b1, 0, none⟩) P.length c1)) (hg2 : w.cell? ⟨g, 1, none⟩ = some (.slice (some ⟨b2, 0, none⟩) Q.length c2))
    (hb1 : b1 < w.heap.size) (hb2 : b2 < w.heap.size) (r1 : RowR w b1 0 P) (r2 : RowR w b2 0 Q) :
    Calls Tryd.prog 12 #[.slice (some ⟨g, 0, none⟩) 2 2] w fun e w' => ∃ v, e = .returned v ∧ HasR w' w.heap.size v (P ++ Q) ∧ Below w.heap.size w w' := by
  obtain ⟨i0, i1, i2, i3, i4⟩ := info_parts infoRc
  have hgl : g < w.heap.size := World.block_lt_of_cell? w ⟨g, 0, none⟩ hg1
  have R1 := Lib.hid r1
  have R2 := Lib.hid r2
  have hgr := fun w => grow_any (P.length + Q.length) (by omega) w
  have GR := Lib.hid hgr
  clear r1 r2 hgr
  have h00 : ¬ ((P.length : Int) < 0) := by omega
  have h01 : ¬ ((P.length : Int) + Q.length < 0) := by omega
  go_enter Tryd.func12, Tryd.ntmps12
  go_wp2_with fail
  refine wp_loop_rounds 3 ?_
  rw [rounds_succ]
  go_wp2_with fail
  rw [rounds_succ]
  go_wp2_with fail
  rw [rounds_succ]
  go_wp2_with fail
  have hgr := GR.out w
  rw [Int.natCast_add] at hgr
  refine hgr.mono ?_
  rintro e w1 ⟨v, rfl, hown, hb⟩
  have O1 := Lib.hid hown
  have B1 := Lib.hid hb
  have k1 := (hb.cell (p := ⟨g, 0, none⟩) hgl).trans hg1
  have k2 := (hb.cell (p := ⟨g, 1, none⟩) hgl).trans hg2
  have S1 := Lib.hid (R1.out.below hb hb1)
  have S2 := Lib.hid (R2.out.below hb hb2)
  clear hgr hown hb hg1 hg2
  go_wp2_with fail
  refine wp_loop_rounds 3 ?_
  rw [rounds_succ]
  go_wp2_with (first
    | (at_builtin; refine wpList_append_own _ rfl (.tmp 31) (.tmp 32) 23 rfl w.heap.size 32 i0 _ 2 32 Tryd.underlying23 i1 i2 i3 i4 rfl (by decide) v 0 [] rfl O1.out ⟨b1, 0, none⟩ P.length c1 (rcCells P) rfl (by rw [rcCells_len]) S1.out.cells (rcCells_one P) (by unfold maxLen; omega) (by omega) (by have := B1.out.size; omega) ?_; intro v2 w2 hown2 hgrow2 _))
  have O2 := Lib.hid hown2
  have B2 := Lib.hid (B1.out.grown hgrow2 B1.out.size (fun q hq => (World.ownsRow.lt O1.out q hq).1))
  have S22 := R2.out.below B2.out hb2
  have k3 := (B2.out.cell (p := ⟨g, 0, none⟩) hgl).trans ((B1.out.cell (p := ⟨g, 0, none⟩) hgl).symm.trans k1)
  have k4 := (B2.out.cell (p := ⟨g, 1, none⟩) hgl).trans ((B1.out.cell (p := ⟨g, 1, none⟩) hgl).symm.trans k2)
  have S3 := Lib.hid S22
  clear hown2 hgrow2 S22 k1 k2
  rw [rounds_succ]
  go_wp2_with (first
    | (at_builtin; refine wpList_append_own _ rfl (.tmp 31) (.tmp 32) 23 rfl w.heap.size 32 i0 _ 2 32 Tryd.underlying23 i1 i2 i3 i4 rfl (by decide) v2 (0 + P.length) ([] ++ rcCells P) rfl O2.out ⟨b2, 0, none⟩ Q.length c2 (rcCells Q) rfl (by rw [rcCells_len]) S3.out.cells (rcCells_one Q) (by unfold maxLen; omega) (by omega) (by have := B2.out.size; omega) ?_; intro v3 w3 hown3 hgrow3 _))
  have B3 := Lib.hid (B2.out.grown hgrow3 B2.out.size (fun q hq => (World.ownsRow.lt O2.out q hq).1))
  have hown4 : HasR w3 w.heap.size v3 (P ++ Q) := by
    unfold HasR
    rw [List.nil_append, ← rcCells_app, Nat.zero_add] at hown3
    rw [List.length_append]; exact hown3
  have O4 := Lib.hid hown4
  clear hown3 hgrow3 hown4
  rw [rounds_succ]
  go_wp2_with fail
  go_ret
  exact ⟨v3, rfl, O4.out, B3.out⟩

/-- Nothing is appended. -/
theorem wpList_append_nil {ops : Array Oper} {rest : List Oper} {o : Oper} {a : Act} {w : World} {Q : Exit → Act → World → Prop} (hgd : o.guard = none) (s x : Operand)
    (ho : o.op = .call { callee := .builtin .append, args := #[s, x], argTypes := #[23, 23] })
    (base : Option Addr) (n cap : Nat) (hle : n ≤ cap) (hs : a.eval s = .slice base n cap) (hx : a.eval x = .slice none 0 0) (h : wpList Tryd.prog ops Q rest (a.put o.dst (.slice base n cap)) w) : wpList Tryd.prog ops Q (o :: rest) a w := by
  obtain ⟨i0, i1, i2, i3, i4⟩ := info_parts infoRc
  have hrun := run_append_nothing w _ _ o.type _ i0 Tryd.underlying23 i1 base n cap hle _ (Src.ofNil w Tryd.underlying23 0)
  refine wpList_plain hgd fun K hK' => ?_
  unfold Oper.wp
  simp [execOp, ho, resolve, invoke, builtin, hs, hx, hrun, Result.andThen]
  exact hK' _ _ h
theorem own_form {w : World} {B : Nat} {e : TypeId} {size n : Nat} {v : Value} {xs : List Value} (h : w.ownsRow B e size v n xs) : ∃ base cap, v = .slice base n cap ∧ n ≤ cap := by
  obtain ⟨_, hw⟩ := h
  rcases hw with ⟨rfl, rfl⟩ | ⟨g, cap, cur, rfl, _, _, hc, _⟩
  · exact ⟨none, 0, rfl, Nat.le_refl _⟩
  · exact ⟨_, cap, rfl, hc⟩

set_option maxRecDepth 100000 in
set_option maxHeartbeats 2000000 in
theorem concat_left (Q : List Px.Rec) (g b2 c2 : Nat) (w : World) (h2 : Q.length ≤ 100)
    (hg1 : w.cell? ⟨g, 0, none⟩ = some (.slice none 0 0)) (hg2 : w.cell? ⟨g, 1, none⟩ = some (.slice (some ⟨b2, 0, none⟩) Q.length c2))
    (hb2 : b2 < w.heap.size) (r2 : RowR w b2 0 Q) :
    Calls Tryd.prog 12 #[.slice (some ⟨g, 0, none⟩) 2 2] w fun e w' => ∃ v, e = .returned v ∧ HasR w' w.heap.size v Q ∧ Below w.heap.size w w' := by
  obtain ⟨i0, i1, i2, i3, i4⟩ := info_parts infoRc
  have hgl : g < w.heap.size := World.block_lt_of_cell? w ⟨g, 0, none⟩ hg1
  have R2 := Lib.hid r2
  have hgr := fun w => grow_any (Q.length) (by omega) w
  have GR := Lib.hid hgr
  clear r2 hgr
  have h00 : ¬ ((Q.length : Int) < 0) := by omega
  go_enter Tryd.func12, Tryd.ntmps12
  go_wp2_with fail
  refine wp_loop_rounds 3 ?_
  rw [rounds_succ]
  go_wp2_with fail
  rw [rounds_succ]
  go_wp2_with fail
  rw [rounds_succ]
  go_wp2_with fail
  have hgr := GR.out w
  try rw [Int.natCast_zero] at hgr
  refine hgr.mono ?_
  rintro e w1 ⟨v, rfl, hown, hb⟩
  obtain ⟨base, cap, rfl, hcap⟩ := own_form hown
  have O1 := Lib.hid hown
  have B1 := Lib.hid hb
  have k1 := (hb.cell (p := ⟨g, 0, none⟩) hgl).trans hg1
  have k2 := (hb.cell (p := ⟨g, 1, none⟩) hgl).trans hg2
  have S2 := Lib.hid (R2.out.below hb hb2)
  clear hgr hown hb hg1 hg2
  go_wp2_with fail
  refine wp_loop_rounds 3 ?_
  rw [rounds_succ]
  go_wp2_with (first | (at_builtin; refine wpList_append_nil rfl (.tmp 31) (.tmp 32) rfl base 0 cap hcap rfl rfl ?_))
  rw [rounds_succ]
  go_wp2_with (first
    | (at_builtin; refine wpList_append_own _ rfl (.tmp 31) (.tmp 32) 23 rfl w.heap.size 32 i0 _ 2 32 Tryd.underlying23 i1 i2 i3 i4 rfl (by decide) (.slice base 0 cap) 0 [] rfl O1.out ⟨b2, 0, none⟩ Q.length c2 (rcCells Q) rfl (by rw [rcCells_len]) S2.out.cells (rcCells_one Q) (by unfold maxLen; omega) (by omega) (by have := B1.out.size; omega) ?_; intro v2 w2 hown2 hgrow2 _))
  have B2 := Lib.hid (B1.out.grown hgrow2 B1.out.size (fun q hq => (World.ownsRow.lt O1.out q hq).1))
  have hown4 : HasR w2 w.heap.size v2 Q := by
    unfold HasR
    rw [List.nil_append, Nat.zero_add] at hown2
    exact hown2
  have O4 := Lib.hid hown4
  clear hown2 hgrow2 hown4
  rw [rounds_succ]
  go_wp2_with fail
  go_ret
  exact ⟨v2, rfl, O4.out, B2.out⟩

set_option maxRecDepth 100000 in
set_option maxHeartbeats 2000000 in
theorem concat_right (P : List Px.Rec) (g b1 c1 : Nat) (w : World) (h1 : P.length ≤ 100)
    (hg1 : w.cell? ⟨g, 0, none⟩ = some (.slice (some ⟨b1, 0, none⟩) P.length c1)) (hg2 : w.cell? ⟨g, 1, none⟩ = some (.slice none 0 0))
    (hb1 : b1 < w.heap.size) (r1 : RowR w b1 0 P) :
    Calls Tryd.prog 12 #[.slice (some ⟨g, 0, none⟩) 2 2] w fun e w' => ∃ v, e = .returned v ∧ HasR w' w.heap.size v P ∧ Below w.heap.size w w' := by
  obtain ⟨i0, i1, i2, i3, i4⟩ := info_parts infoRc
  have hgl : g < w.heap.size := World.block_lt_of_cell? w ⟨g, 0, none⟩ hg1
  have R1 := Lib.hid r1
  have hgr := fun w => grow_any (P.length) (by omega) w
  have GR := Lib.hid hgr
  clear r1 hgr
  have h00 : ¬ ((P.length : Int) < 0) := by omega
  go_enter Tryd.func12, Tryd.ntmps12
  go_wp2_with fail
  refine wp_loop_rounds 3 ?_
  rw [rounds_succ]
  go_wp2_with fail
  rw [rounds_succ]
  go_wp2_with fail
  rw [rounds_succ]
  go_wp2_with fail
  have hgr := GR.out w
  try rw [Int.natCast_zero] at hgr
  refine hgr.mono ?_
  rintro e w1 ⟨v, rfl, hown, hb⟩
  obtain ⟨base, cap, rfl, hcap⟩ := own_form hown
  have O1 := Lib.hid hown
  have B1 := Lib.hid hb
  have k1 := (hb.cell (p := ⟨g, 0, none⟩) hgl).trans hg1
  have k2 := (hb.cell (p := ⟨g, 1, none⟩) hgl).trans hg2
  have S1 := Lib.hid (R1.out.below hb hb1)
  clear hgr hown hb hg1 hg2
  go_wp2_with fail
  refine wp_loop_rounds 3 ?_
  rw [rounds_succ]
  go_wp2_with (first
    | (at_builtin; refine wpList_append_own _ rfl (.tmp 31) (.tmp 32) 23 rfl w.heap.size 32 i0 _ 2 32 Tryd.underlying23 i1 i2 i3 i4 rfl (by decide) (.slice base 0 cap) 0 [] rfl O1.out ⟨b1, 0, none⟩ P.length c1 (rcCells P) rfl (by rw [rcCells_len]) S1.out.cells (rcCells_one P) (by unfold maxLen; omega) (by omega) (by have := B1.out.size; omega) ?_; intro v2 w2 hown2 hgrow2 _))
  have B2 := Lib.hid (B1.out.grown hgrow2 B1.out.size (fun q hq => (World.ownsRow.lt O1.out q hq).1))
  have hown4 : HasR w2 w.heap.size v2 P := by
    unfold HasR
    rw [List.nil_append, Nat.zero_add] at hown2
    exact hown2
  obtain ⟨base2, cap2, rfl, hcap2⟩ := own_form hown4
  have k3 := (B2.out.cell (p := ⟨g, 0, none⟩) hgl).trans ((B1.out.cell (p := ⟨g, 0, none⟩) hgl).symm.trans k1)
  have k4 := (B2.out.cell (p := ⟨g, 1, none⟩) hgl).trans ((B1.out.cell (p := ⟨g, 1, none⟩) hgl).symm.trans k2)
  have O4 := Lib.hid hown4
  clear hown2 hgrow2 hown4 k1 k2
  rw [rounds_succ]
  go_wp2_with (first | (at_builtin; refine wpList_append_nil rfl (.tmp 31) (.tmp 32) rfl base2 P.length cap2 hcap2 rfl rfl ?_))
  rw [rounds_succ]
  go_wp2_with fail
  go_ret
  exact ⟨_, rfl, O4.out, B2.out⟩

set_option maxRecDepth 100000 in
set_option maxHeartbeats 2000000 in
theorem concat_none (g : Nat) (w : World)
    (hg1 : w.cell? ⟨g, 0, none⟩ = some (.slice none 0 0)) (hg2 : w.cell? ⟨g, 1, none⟩ = some (.slice none 0 0)) :
    Calls Tryd.prog 12 #[.slice (some ⟨g, 0, none⟩) 2 2] w fun e w' => ∃ v, e = .returned v ∧ HasR w' w.heap.size v [] ∧ Below w.heap.size w w' := by
  obtain ⟨i0, i1, i2, i3, i4⟩ := info_parts infoRc
  have hgl : g < w.heap.size := World.block_lt_of_cell? w ⟨g, 0, none⟩ hg1
  have hgr := fun w => grow_any (0) (by omega) w
  have GR := Lib.hid hgr
  clear hgr
  go_enter Tryd.func12, Tryd.ntmps12
  go_wp2_with fail
  refine wp_loop_rounds 3 ?_
  rw [rounds_succ]
  go_wp2_with fail
  rw [rounds_succ]
  go_wp2_with fail
  rw [rounds_succ]
  go_wp2_with fail
  have hgr := GR.out w
  try rw [Int.natCast_zero] at hgr
  refine hgr.mono ?_
  rintro e w1 ⟨v, rfl, hown, hb⟩
  obtain ⟨base, cap, rfl, hcap⟩ := own_form hown
  have O1 := Lib.hid hown
  have B1 := Lib.hid hb
  have k1 := (hb.cell (p := ⟨g, 0, none⟩) hgl).trans hg1
  have k2 := (hb.cell (p := ⟨g, 1, none⟩) hgl).trans hg2
  clear hgr hown hb hg1 hg2
  go_wp2_with fail
  refine wp_loop_rounds 3 ?_
  rw [rounds_succ]
  go_wp2_with (first | (at_builtin; refine wpList_append_nil rfl (.tmp 31) (.tmp 32) rfl base 0 cap hcap rfl rfl ?_))
  rw [rounds_succ]
  go_wp2_with (first | (at_builtin; refine wpList_append_nil rfl (.tmp 31) (.tmp 32) rfl base 0 cap hcap rfl rfl ?_))
  rw [rounds_succ]
  go_wp2_with fail
  go_ret
  exact ⟨_, rfl, O1.out, B1.out⟩

/-- slices.Concat of two rows of records. -/
theorem concat_any {P Q : List Px.Rec} {g B C : Nat} {u v : Value} {w w0 : World} (h1 : P.length ≤ 100) (h2 : Q.length ≤ 100)
    (hg1 : w.cell? ⟨g, 0, none⟩ = some u) (hg2 : w.cell? ⟨g, 1, none⟩ = some v) (hP : HasR w B u P) (hQ : HasR w C v Q) :
    Calls Tryd.prog 12 #[.slice (some ⟨g, 0, none⟩) 2 2] w fun e w' => ∃ v, e = .returned v ∧ HasR w' w.heap.size v (P ++ Q) ∧ Below w.heap.size w w' := by
  rcases hP.ways with ⟨rfl, rfl⟩ | ⟨b1, c1, rfl, _, hb1, _, r1⟩
  · rcases hQ.ways with ⟨rfl, rfl⟩ | ⟨b2, c2, rfl, _, hb2, _, r2⟩
    · exact concat_none g w hg1 hg2
    · exact concat_left Q g b2 c2 w h2 hg1 hg2 hb2 r2
  · rcases hQ.ways with ⟨rfl, rfl⟩ | ⟨b2, c2, rfl, _, hb2, _, r2⟩
    · rw [List.append_nil]
      exact concat_right P g b1 c1 w h1 hg1 hg2 hb1 r1
    · exact concat_rows P Q g b1 c1 b2 c2 w h1 h2 hg1 hg2 hb1 hb2 r1 r2

end Go.Proofs.YtjafjhhmjfpmoaaDoor
