/-
  The walk of HeadOne.
-/
import Derived.Test.YtckdieaglcifeaaDoorHeadArg
namespace Go.Proofs.YtckdieaglcifeaaDoor
open Go.RowKit

/-- the sum of five sizes, as the walk reckons it -/
def Sum5 (a b c d e : ByteArray) : Prop := IntKind.i64.wrap ((a.size : Int) + b.size) = (a.size : Int) + b.size ∧ IntKind.i64.wrap ((a.size : Int) + b.size + c.size) = (a.size : Int) + b.size + c.size ∧
  IntKind.i64.wrap ((a.size : Int) + b.size + c.size + d.size) = (a.size : Int) + b.size + c.size + d.size ∧ IntKind.i64.wrap ((a.size : Int) + b.size + c.size + d.size + e.size) = (a.size : Int) + b.size + c.size + d.size + e.size
theorem sum5 (a b c d e : ByteArray) (s1 : a.size ≤ 140737488351232) (s2 : b.size ≤ 140737488351232) (s3 : c.size ≤ 140737488351232) (s4 : d.size ≤ 140737488351232) (s5 : e.size ≤ 140737488351232) : Sum5 a b c d e :=
  ⟨IntWalk.i64_in _ (by omega), IntWalk.i64_in _ (by omega), IntWalk.i64_in _ (by omega), IntWalk.i64_in _ (by omega)⟩

theorem one_way (n l u g f : ByteArray) (k : UInt8) (m1 m2 m3 m4 m5 m6 m7 : Int) (n' l' u' g' f' : ByteArray) (k' : UInt8) (q1 q2 q3 q4 q5 q6 q7 : Int) (d : Nat) (hd1 : 1 ≤ d) (hd4 : d ≤ 4) (hw : (hraw n l u g f k m1 m2 m3 m4 m5 m6 m7).wf) (hw' : (hraw n' l' u' g' f' k' q1 q2 q3 q4 q5 q6 q7).wf) (s t : ByteArray) (hs : HWrite d (hraw n l u g f k m1 m2 m3 m4 m5 m6 m7) s.data.toList) (ht : HWrite d (hraw n' l' u' g' f' k' q1 q2 q3 q4 q5 q6 q7) t.data.toList) :
    (s.toList == t.toList) = true ↔ (n.toList = n'.toList ∧ l.toList = l'.toList ∧ u.toList = u'.toList ∧ g.toList = g'.toList ∧ f.toList = f'.toList ∧ (k.toNat : Int) = k'.toNat ∧ m1 = q1 ∧ m2 = q2 ∧ m3 = q3 ∧ m4 = q4 ∧ m5 = q5 ∧ m6 = q6 ∧ m7 = q7) := by
  rw [beq_iff_eq]
  simp only [Lib.toList_data]
  have hk : ((k.toNat : Int) = k'.toNat) ↔ k = k' := ⟨fun h => UInt8.toNat_inj.1 (by omega), fun h => by rw [h]⟩
  rw [hk]
  constructor
  · intro e
    have h1 := write_read hd1 hd4 hw hs
    have h2 := write_read hd1 hd4 hw' ht
    rw [← e] at h2
    have h3 := read_one h1 h2 (Decidable.em _)
    have h4 : (hraw n l u g f k m1 m2 m3 m4 m5 m6 m7) = (hraw n' l' u' g' f' k' q1 q2 q3 q4 q5 q6 q7) := h3
    simp only [hraw, HRaw.mk.injEq] at h4
    exact h4
  · intro h
    have e : (hraw n l u g f k m1 m2 m3 m4 m5 m6 m7) = (hraw n' l' u' g' f' k' q1 q2 q3 q4 q5 q6 q7) := by simp only [hraw, HRaw.mk.injEq]; exact h
    rw [← e] at ht
    exact write_one hs ht

set_option maxRecDepth 100000 in
set_option maxHeartbeats 2000000 in
theorem headOne_big1 (dialect : Int) (n l u g f : ByteArray) (k : UInt8) (m1 m2 m3 m4 m5 m6 m7 : Int) (n' l' u' g' f' : ByteArray) (k' : UInt8) (q1 q2 q3 q4 q5 q6 q7 : Int) (z1 : Sum5 n l u g f) (hbig : (600 : Int) < (n.size : Int) + l.size + u.size + g.size + f.size) (w : World) :
    Calls Tryd.prog 4 #[.int .i64 dialect, .agg #[.string n, .string l, .string u, .string g, .string f, .int .u8 k.toNat, .int .i64 m1, .int .i64 m2, .int .i64 m3, .int .i64 m4, .int .i64 m5, .int .i64 m6, .int .i64 m7], .agg #[.string n', .string l', .string u', .string g', .string f', .int .u8 k'.toNat, .int .i64 q1, .int .i64 q2, .int .i64 q3, .int .i64 q4, .int .i64 q5, .int .i64 q6, .int .i64 q7]] w fun e w' => e = .returned (.bool true) ∧ Below w.heap.size w w' := by
  obtain ⟨e1, e2, e3, e4⟩ := z1
  go_enter Tryd.func4, Tryd.ntmps4
  go_wp2_with fail
  refine (headed_any _).mono ?_
  rintro e w1 ⟨rfl, h1⟩
  have hb0 : Below w.heap.size w ((w.alloc (.cells #[.string n, .string l, .string u, .string g, .string f, .int .u8 k.toNat, .int .i64 m1, .int .i64 m2, .int .i64 m3, .int .i64 m4, .int .i64 m5, .int .i64 m6, .int .i64 m7] 23)).alloc (.cells #[.string n', .string l', .string u', .string g', .string f', .int .u8 k'.toNat, .int .i64 q1, .int .i64 q2, .int .i64 q3, .int .i64 q4, .int .i64 q5, .int .i64 q6, .int .i64 q7] 23)) := ((Below.refl _ _).alloc (Nat.le_refl _) _).alloc (by simp) _
  have B1 := Lib.hid (thenB hb0 h1)
  have hR : Blk w1 w.heap.size 23 #[.string n, .string l, .string u, .string g, .string f, .int .u8 k.toNat, .int .i64 m1, .int .i64 m2, .int .i64 m3, .int .i64 m4, .int .i64 m5, .int .i64 m6, .int .i64 m7] := ((Blk.new w _ _).alloc _).below h1 (by simp; omega)
  have hQ0 := Blk.new (w.alloc (.cells #[.string n, .string l, .string u, .string g, .string f, .int .u8 k.toNat, .int .i64 m1, .int .i64 m2, .int .i64 m3, .int .i64 m4, .int .i64 m5, .int .i64 m6, .int .i64 m7] 23)) 23 #[.string n', .string l', .string u', .string g', .string f', .int .u8 k'.toNat, .int .i64 q1, .int .i64 q2, .int .i64 q3, .int .i64 q4, .int .i64 q5, .int .i64 q6, .int .i64 q7]
  rw [World.size_alloc] at hQ0
  have hQ : Blk w1 (w.heap.size + 1) 23 #[.string n', .string l', .string u', .string g', .string f', .int .u8 k'.toNat, .int .i64 q1, .int .i64 q2, .int .i64 q3, .int .i64 q4, .int .i64 q5, .int .i64 q6, .int .i64 q7] := hQ0.below h1 (by simp)
  have c0 := hR.cell 0
  have c1 := hR.cell 1
  have c2 := hR.cell 2
  have c3 := hR.cell 3
  have c4 := hR.cell 4
  clear h1 hR hQ hQ0 hb0
  go_wp2_with fail
  go_ret
  exact ⟨rfl, B1.out⟩

set_option maxRecDepth 100000 in
set_option maxHeartbeats 2000000 in
theorem headOne_big2 (dialect : Int) (n l u g f : ByteArray) (k : UInt8) (m1 m2 m3 m4 m5 m6 m7 : Int) (n' l' u' g' f' : ByteArray) (k' : UInt8) (q1 q2 q3 q4 q5 q6 q7 : Int) (z1 : Sum5 n l u g f) (z2 : Sum5 n' l' u' g' f') (hs : ¬ (600 : Int) < (n.size : Int) + l.size + u.size + g.size + f.size) (hbig : (600 : Int) < (n'.size : Int) + l'.size + u'.size + g'.size + f'.size) (w : World) :
    Calls Tryd.prog 4 #[.int .i64 dialect, .agg #[.string n, .string l, .string u, .string g, .string f, .int .u8 k.toNat, .int .i64 m1, .int .i64 m2, .int .i64 m3, .int .i64 m4, .int .i64 m5, .int .i64 m6, .int .i64 m7], .agg #[.string n', .string l', .string u', .string g', .string f', .int .u8 k'.toNat, .int .i64 q1, .int .i64 q2, .int .i64 q3, .int .i64 q4, .int .i64 q5, .int .i64 q6, .int .i64 q7]] w fun e w' => e = .returned (.bool true) ∧ Below w.heap.size w w' := by
  obtain ⟨e1, e2, e3, e4⟩ := z1
  obtain ⟨j1, j2, j3, j4⟩ := z2
  go_enter Tryd.func4, Tryd.ntmps4
  go_wp2_with fail
  refine (headed_any _).mono ?_
  rintro e w1 ⟨rfl, h1⟩
  have hb0 : Below w.heap.size w ((w.alloc (.cells #[.string n, .string l, .string u, .string g, .string f, .int .u8 k.toNat, .int .i64 m1, .int .i64 m2, .int .i64 m3, .int .i64 m4, .int .i64 m5, .int .i64 m6, .int .i64 m7] 23)).alloc (.cells #[.string n', .string l', .string u', .string g', .string f', .int .u8 k'.toNat, .int .i64 q1, .int .i64 q2, .int .i64 q3, .int .i64 q4, .int .i64 q5, .int .i64 q6, .int .i64 q7] 23)) := ((Below.refl _ _).alloc (Nat.le_refl _) _).alloc (by simp) _
  have B1 := Lib.hid (thenB hb0 h1)
  have hR : Blk w1 w.heap.size 23 #[.string n, .string l, .string u, .string g, .string f, .int .u8 k.toNat, .int .i64 m1, .int .i64 m2, .int .i64 m3, .int .i64 m4, .int .i64 m5, .int .i64 m6, .int .i64 m7] := ((Blk.new w _ _).alloc _).below h1 (by simp; omega)
  have hQ0 := Blk.new (w.alloc (.cells #[.string n, .string l, .string u, .string g, .string f, .int .u8 k.toNat, .int .i64 m1, .int .i64 m2, .int .i64 m3, .int .i64 m4, .int .i64 m5, .int .i64 m6, .int .i64 m7] 23)) 23 #[.string n', .string l', .string u', .string g', .string f', .int .u8 k'.toNat, .int .i64 q1, .int .i64 q2, .int .i64 q3, .int .i64 q4, .int .i64 q5, .int .i64 q6, .int .i64 q7]
  rw [World.size_alloc] at hQ0
  have hQ : Blk w1 (w.heap.size + 1) 23 #[.string n', .string l', .string u', .string g', .string f', .int .u8 k'.toNat, .int .i64 q1, .int .i64 q2, .int .i64 q3, .int .i64 q4, .int .i64 q5, .int .i64 q6, .int .i64 q7] := hQ0.below h1 (by simp)
  have c0 := hR.cell 0
  have c1 := hR.cell 1
  have c2 := hR.cell 2
  have c3 := hR.cell 3
  have c4 := hR.cell 4
  have b0 := hQ.cell 0
  have b1 := hQ.cell 1
  have b2 := hQ.cell 2
  have b3 := hQ.cell 3
  have b4 := hQ.cell 4
  clear h1 hR hQ hQ0 hb0
  go_wp2_with fail
  go_ret
  exact ⟨rfl, B1.out⟩

set_option maxRecDepth 100000 in
set_option maxHeartbeats 4000000 in
theorem headOne_small (dialect : Int) (n l u g f : ByteArray) (k : UInt8) (m1 m2 m3 m4 m5 m6 m7 : Int) (n' l' u' g' f' : ByteArray) (k' : UInt8) (q1 q2 q3 q4 q5 q6 q7 : Int) (hw : (hraw n l u g f k m1 m2 m3 m4 m5 m6 m7).wf) (hw' : (hraw n' l' u' g' f' k' q1 q2 q3 q4 q5 q6 q7).wf) (z1 : Sum5 n l u g f) (z2 : Sum5 n' l' u' g' f') (hs : ¬ (600 : Int) < (n.size : Int) + l.size + u.size + g.size + f.size) (hs' : ¬ (600 : Int) < (n'.size : Int) + l'.size + u'.size + g'.size + f'.size) (w : World) :
    Calls Tryd.prog 4 #[.int .i64 dialect, .agg #[.string n, .string l, .string u, .string g, .string f, .int .u8 k.toNat, .int .i64 m1, .int .i64 m2, .int .i64 m3, .int .i64 m4, .int .i64 m5, .int .i64 m6, .int .i64 m7], .agg #[.string n', .string l', .string u', .string g', .string f', .int .u8 k'.toNat, .int .i64 q1, .int .i64 q2, .int .i64 q3, .int .i64 q4, .int .i64 q5, .int .i64 q6, .int .i64 q7]] w fun e w' => e = .returned (.bool true) ∧ Below w.heap.size w w' := by
  obtain ⟨e1, e2, e3, e4⟩ := z1
  obtain ⟨j1, j2, j3, j4⟩ := z2
  have p0 := pickN_lo dialect 4 (by omega)
  have p1 := pickN_hi dialect 4 (by omega)
  obtain ⟨p, hp⟩ := Int.eq_ofNat_of_zero_le p0
  have hpick := fun w => pick_any dialect 4 w (by omega) (by omega)
  rw [hp] at hpick p0 p1
  clear hp
  obtain ⟨d, hd⟩ : ∃ d : Nat, d = 1 + p := ⟨_, rfl⟩
  have hdi : (1 : Int) + (p : Int) = (d : Int) := by omega
  have hd1 : 1 ≤ d := by omega
  have hd4 : d ≤ 4 := by omega
  have PK := Lib.hid hpick
  have WR := Lib.hid (fun w => write_walk d n l u g f k m1 m2 m3 m4 m5 m6 m7 hd1 hd4 hw w)
  have WQ := Lib.hid (fun w => write_walk d n' l' u' g' f' k' q1 q2 q3 q4 q5 q6 q7 hd1 hd4 hw' w)
  have ONE := Lib.hid (fun s t hs ht => one_way n l u g f k m1 m2 m3 m4 m5 m6 m7 n' l' u' g' f' k' q1 q2 q3 q4 q5 q6 q7 d hd1 hd4 hw hw' s t hs ht)
  have ew : IntKind.i64.wrap (d : Int) = (d : Int) := IntWalk.i64_in _ (by omega)
  clear hpick hw hw' hd p0 p1
  go_enter Tryd.func4, Tryd.ntmps4
  go_wp2_with fail
  refine (headed_any _).mono ?_
  rintro e w1 ⟨rfl, h1⟩
  have hb0 : Below w.heap.size w ((w.alloc (.cells #[.string n, .string l, .string u, .string g, .string f, .int .u8 k.toNat, .int .i64 m1, .int .i64 m2, .int .i64 m3, .int .i64 m4, .int .i64 m5, .int .i64 m6, .int .i64 m7] 23)).alloc (.cells #[.string n', .string l', .string u', .string g', .string f', .int .u8 k'.toNat, .int .i64 q1, .int .i64 q2, .int .i64 q3, .int .i64 q4, .int .i64 q5, .int .i64 q6, .int .i64 q7] 23)) := ((Below.refl _ _).alloc (Nat.le_refl _) _).alloc (by simp) _
  have B1 := Lib.hid (thenB hb0 h1)
  have hR : Blk w1 w.heap.size 23 #[.string n, .string l, .string u, .string g, .string f, .int .u8 k.toNat, .int .i64 m1, .int .i64 m2, .int .i64 m3, .int .i64 m4, .int .i64 m5, .int .i64 m6, .int .i64 m7] := ((Blk.new w _ _).alloc _).below h1 (by simp; omega)
  have hQ0 := Blk.new (w.alloc (.cells #[.string n, .string l, .string u, .string g, .string f, .int .u8 k.toNat, .int .i64 m1, .int .i64 m2, .int .i64 m3, .int .i64 m4, .int .i64 m5, .int .i64 m6, .int .i64 m7] 23)) 23 #[.string n', .string l', .string u', .string g', .string f', .int .u8 k'.toNat, .int .i64 q1, .int .i64 q2, .int .i64 q3, .int .i64 q4, .int .i64 q5, .int .i64 q6, .int .i64 q7]
  rw [World.size_alloc] at hQ0
  have hQ : Blk w1 (w.heap.size + 1) 23 #[.string n', .string l', .string u', .string g', .string f', .int .u8 k'.toNat, .int .i64 q1, .int .i64 q2, .int .i64 q3, .int .i64 q4, .int .i64 q5, .int .i64 q6, .int .i64 q7] := hQ0.below h1 (by simp)
  have c0 := hR.cell 0
  have c1 := hR.cell 1
  have c2 := hR.cell 2
  have c3 := hR.cell 3
  have c4 := hR.cell 4
  have c5 := hR.cell 5
  have c6 := hR.cell 6
  have c7 := hR.cell 7
  have c8 := hR.cell 8
  have c9 := hR.cell 9
  have c10 := hR.cell 10
  have c11 := hR.cell 11
  have c12 := hR.cell 12
  have b0 := hQ.cell 0
  have b1 := hQ.cell 1
  have b2 := hQ.cell 2
  have b3 := hQ.cell 3
  have b4 := hQ.cell 4
  have b5 := hQ.cell 5
  have b6 := hQ.cell 6
  have b7 := hQ.cell 7
  have b8 := hQ.cell 8
  have b9 := hQ.cell 9
  have b10 := hQ.cell 10
  have b11 := hQ.cell 11
  have b12 := hQ.cell 12
  have HR := Lib.hid hR
  have HQ := Lib.hid hQ
  clear h1 hR hQ hQ0 hb0
  go_wp2_with fail
  refine (PK.out _).mono ?_
  rintro e w2 ⟨rfl, rfl⟩
  go_wp2_with fail
  refine (WR.out _).mono ?_
  rintro e w3 ⟨h3, hway⟩
  have B3 := Lib.hid (thenB B1.out h3)
  have hR3 := HR.out.below h3 HR.out.lt
  have hQ3 := HQ.out.below h3 HQ.out.lt
  clear c0 c1 c2 c3 c4 c5 c6 c7 c8 c9 c10 c11 c12 b0 b1 b2 b3 b4 b5 b6 b7 b8 b9 b10 b11 b12 h3 B1 HR HQ PK
  have c0 := hR3.cell 0
  have c1 := hR3.cell 1
  have c2 := hR3.cell 2
  have c3 := hR3.cell 3
  have c4 := hR3.cell 4
  have c5 := hR3.cell 5
  have c6 := hR3.cell 6
  have c7 := hR3.cell 7
  have c8 := hR3.cell 8
  have c9 := hR3.cell 9
  have c10 := hR3.cell 10
  have c11 := hR3.cell 11
  have c12 := hR3.cell 12
  have b0 := hQ3.cell 0
  have b1 := hQ3.cell 1
  have b2 := hQ3.cell 2
  have b3 := hQ3.cell 3
  have b4 := hQ3.cell 4
  have b5 := hQ3.cell 5
  have b6 := hQ3.cell 6
  have b7 := hQ3.cell 7
  have b8 := hQ3.cell 8
  have b9 := hQ3.cell 9
  have b10 := hQ3.cell 10
  have b11 := hQ3.cell 11
  have b12 := hQ3.cell 12
  have HR := Lib.hid hR3
  have HQ := Lib.hid hQ3
  clear hR3 hQ3
  rcases hway with ⟨s, rfl, hs⟩ | ⟨s, x, rfl, _⟩
  all_goals
    go_wp2_with fail
    refine (WQ.out _).mono ?_
    rintro e w4 ⟨h4, hway⟩
    have B4 := Lib.hid (thenB B3.out h4)
    have hR4 := HR.out.below h4 HR.out.lt
    have hQ4 := HQ.out.below h4 HQ.out.lt
    clear c0 c1 c2 c3 c4 c5 c6 c7 c8 c9 c10 c11 c12 b0 b1 b2 b3 b4 b5 b6 b7 b8 b9 b10 b11 b12 h4 B3 HR HQ
    have c0 := hR4.cell 0
    have c1 := hR4.cell 1
    have c2 := hR4.cell 2
    have c3 := hR4.cell 3
    have c4 := hR4.cell 4
    have c5 := hR4.cell 5
    have c6 := hR4.cell 6
    have c7 := hR4.cell 7
    have c8 := hR4.cell 8
    have c9 := hR4.cell 9
    have c10 := hR4.cell 10
    have c11 := hR4.cell 11
    have c12 := hR4.cell 12
    have b0 := hQ4.cell 0
    have b1 := hQ4.cell 1
    have b2 := hQ4.cell 2
    have b3 := hQ4.cell 3
    have b4 := hQ4.cell 4
    have b5 := hQ4.cell 5
    have b6 := hQ4.cell 6
    have b7 := hQ4.cell 7
    have b8 := hQ4.cell 8
    have b9 := hQ4.cell 9
    have b10 := hQ4.cell 10
    have b11 := hQ4.cell 11
    have b12 := hQ4.cell 12
    clear hR4 hQ4
    rcases hway with ⟨t, rfl, ht⟩ | ⟨t, y, rfl, _⟩
  · have hq := fun w => raws_eql n l u g f n' l' u' g' f' k.toNat k'.toNat m1 m2 m3 m4 m5 m6 m7 q1 q2 q3 q4 q5 q6 q7 (s.toList == t.toList) (ONE.out s t hs ht) w
    clear hs ht
    go_wp2_with fail
    go_ret
    exact ⟨by simp, B4.out⟩
  all_goals
    go_wp2_with fail
    go_ret
    exact ⟨rfl, B4.out⟩

set_option maxRecDepth 100000 in
theorem headOne_walk (dialect : Int) (_hd : (Lit.int .i64 dialect).wf = true) {H : Type} {enc : TypeId × Value → H} {d d' : DataW H} {ps ps' : List MemPlace} {base base' : Nat} (v : Value) {w : World} (hok : Value.okWide Tryd.prog w .any base 23 v)
    (h : DataW.Trod enc Tryd.prog w 0 (fun _ => true) true 23 v d ps) (hz : ∀ n ∈ d.weights Tryd.prog 23, n ≤ reachBytes)
    (v' : Value) (hok' : Value.okWide Tryd.prog w .any base' 23 v')
    (h' : DataW.Trod enc Tryd.prog w 0 (fun _ => true) true 23 v' d' ps') (hz' : ∀ n ∈ d'.weights Tryd.prog 23, n ≤ reachBytes) :
    Calls Tryd.prog 4 #[.int .i64 dialect, v, v'] w fun e w' => e = .returned (.bool true) ∧ Below w.heap.size w w' := by
  obtain ⟨r, rfl, hw, z1, z2, z3, z4, z5⟩ := raw_open hok h hz
  obtain ⟨n, l, u, g, f, k, m1, m2, m3, m4, m5, m6, m7⟩ := r
  obtain ⟨r, rfl, hw', y1, y2, y3, y4, y5⟩ := raw_open hok' h' hz'
  obtain ⟨n', l', u', g', f', k', q1, q2, q3, q4, q5, q6, q7⟩ := r
  have hS := sum5 (bs n) (bs l) (bs u) (bs g) (bs f) z1 z2 z3 z4 z5
  have hT := sum5 (bs n') (bs l') (bs u') (bs g') (bs f') y1 y2 y3 y4 y5
  by_cases hb : (600 : Int) < ((bs n).size : Int) + (bs l).size + (bs u).size + (bs g).size + (bs f).size
  · exact headOne_big1 dialect (bs n) (bs l) (bs u) (bs g) (bs f) k m1 m2 m3 m4 m5 m6 m7 (bs n') (bs l') (bs u') (bs g') (bs f') k' q1 q2 q3 q4 q5 q6 q7 hS hb w
  · by_cases hb' : (600 : Int) < ((bs n').size : Int) + (bs l').size + (bs u').size + (bs g').size + (bs f').size
    · exact headOne_big2 dialect (bs n) (bs l) (bs u) (bs g) (bs f) k m1 m2 m3 m4 m5 m6 m7 (bs n') (bs l') (bs u') (bs g') (bs f') k' q1 q2 q3 q4 q5 q6 q7 hS hT hb hb' w
    · exact headOne_small dialect (bs n) (bs l) (bs u) (bs g) (bs f) k m1 m2 m3 m4 m5 m6 m7 (bs n') (bs l') (bs u') (bs g') (bs f') k' q1 q2 q3 q4 q5 q6 q7 hw hw' hS hT hb hb' w

end Go.Proofs.YtckdieaglcifeaaDoor
