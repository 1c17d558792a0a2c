/-
  The walk of HeadBack.
-/
import Derived.Test.YtckdieaglcifeaaDoorHeadArg
namespace Go.Proofs.YtckdieaglcifeaaDoor
open Go.RowKit

set_option maxRecDepth 100000 in
set_option maxHeartbeats 2000000 in
theorem headBack_main (dialect : Int) (n l u g f : ByteArray) (k : UInt8) (m1 m2 m3 m4 m5 m6 m7 : Int) (hw : (hraw n l u g f k m1 m2 m3 m4 m5 m6 m7).wf)
    (s1 : n.size ≤ 140737488351232) (s2 : l.size ≤ 140737488351232) (s3 : u.size ≤ 140737488351232) (s4 : g.size ≤ 140737488351232) (s5 : f.size ≤ 140737488351232) (w : World) :
    Calls Tryd.prog 3 #[.int .i64 dialect, .agg #[.string n, .string l, .string u, .string g, .string f, .int .u8 k.toNat, .int .i64 m1, .int .i64 m2, .int .i64 m3, .int .i64 m4, .int .i64 m5, .int .i64 m6, .int .i64 m7]] w fun e w' => e = .returned (.bool true) ∧ Below w.heap.size w w' := by
  have e1 : IntKind.i64.wrap ((n.size : Int) + l.size) = (n.size : Int) + l.size := IntWalk.i64_in _ (by omega)
  have e2 : IntKind.i64.wrap ((n.size : Int) + l.size + u.size) = (n.size : Int) + l.size + u.size := IntWalk.i64_in _ (by omega)
  have e3 : IntKind.i64.wrap ((n.size : Int) + l.size + u.size + g.size) = (n.size : Int) + l.size + u.size + g.size := IntWalk.i64_in _ (by omega)
  have e4 : IntKind.i64.wrap ((n.size : Int) + l.size + u.size + g.size + f.size) = (n.size : Int) + l.size + u.size + g.size + f.size := IntWalk.i64_in _ (by omega)
  by_cases hbig : (600 : Int) < (n.size : Int) + l.size + u.size + g.size + f.size
  · go_enter Tryd.func3, Tryd.ntmps3
    go_wp2_with fail
    refine (headed_any _).mono ?_
    rintro e w1 ⟨rfl, h1⟩
    have B1 := Lib.hid (thenB ((Below.refl _ _).alloc (Nat.le_refl _) _) h1)
    have hR : Blk w1 w.heap.size 23 #[.string n, .string l, .string u, .string g, .string f, .int .u8 k.toNat, .int .i64 m1, .int .i64 m2, .int .i64 m3, .int .i64 m4, .int .i64 m5, .int .i64 m6, .int .i64 m7] := (Blk.new w _ _).below h1 (by simp)
    have c0 := hR.cell 0
    have c1 := hR.cell 1
    have c2 := hR.cell 2
    have c3 := hR.cell 3
    have c4 := hR.cell 4
    clear h1 hR
    go_wp2_with fail
    go_ret
    exact ⟨rfl, B1.out⟩
  · have p0 := pickN_lo dialect 4 (by omega)
    have p1 := pickN_hi dialect 4 (by omega)
    obtain ⟨p, hp⟩ := Int.eq_ofNat_of_zero_le p0
    have hpick := fun w => pick_any dialect 4 w (by omega) (by omega)
    rw [hp] at hpick p0 p1
    clear hp
    obtain ⟨d, hd⟩ : ∃ d : Nat, d = 1 + p := ⟨_, rfl⟩
    have hdi : (1 : Int) + (p : Int) = (d : Int) := by omega
    have hd1 : 1 ≤ d := by omega
    have hd4 : d ≤ 4 := by omega
    have PK := Lib.hid hpick
    have WR := Lib.hid (fun w => write_walk d n l u g f k m1 m2 m3 m4 m5 m6 m7 hd1 hd4 hw w)
    have WF := Lib.hid hw
    have hq := fun w => raws_eql n l u g f n l u g f k.toNat k.toNat m1 m2 m3 m4 m5 m6 m7 m1 m2 m3 m4 m5 m6 m7 true (by simp) w
    have ew : IntKind.i64.wrap (d : Int) = (d : Int) := IntWalk.i64_in _ (by omega)
    clear hpick hw hd p0 p1
    go_enter Tryd.func3, Tryd.ntmps3
    go_wp2_with fail
    refine (headed_any _).mono ?_
    rintro e w1 ⟨rfl, h1⟩
    have B1 := Lib.hid (thenB ((Below.refl _ _).alloc (Nat.le_refl _) _) h1)
    have hR : Blk w1 w.heap.size 23 #[.string n, .string l, .string u, .string g, .string f, .int .u8 k.toNat, .int .i64 m1, .int .i64 m2, .int .i64 m3, .int .i64 m4, .int .i64 m5, .int .i64 m6, .int .i64 m7] := (Blk.new w _ _).below h1 (by simp)
    have c0 := hR.cell 0
    have c1 := hR.cell 1
    have c2 := hR.cell 2
    have c3 := hR.cell 3
    have c4 := hR.cell 4
    have c5 := hR.cell 5
    have c6 := hR.cell 6
    have c7 := hR.cell 7
    have c8 := hR.cell 8
    have c9 := hR.cell 9
    have c10 := hR.cell 10
    have c11 := hR.cell 11
    have c12 := hR.cell 12
    have HR := Lib.hid hR
    clear h1 hR
    go_wp2_with fail
    refine (PK.out _).mono ?_
    rintro e w2 ⟨rfl, rfl⟩
    go_wp2_with fail
    refine (WR.out _).mono ?_
    rintro e w3 ⟨h3, ⟨s, rfl, hs⟩ | ⟨s, x, rfl, _⟩⟩
    · have B3 := Lib.hid (thenB B1.out h3)
      have hR3 := HR.out.below h3 HR.out.lt
      clear c0 c1 c2 c3 c4 c5 c6 c7 c8 c9 c10 c11 c12 h3 B1 HR
      have hrd := fun w => hread_ok d (hraw n l u g f k m1 m2 m3 m4 m5 m6 m7) s.data.toList hd1 hd4 WF.out hs w
      have hrt := fun w => right_any s w (by rw [← list_size, write_len hs]; omega) (by rw [← list_size, write_len hs]; omega)
      rw [write_right hs] at hrt
      rw [bs_of] at hrd
      have hrd' : ∀ w : World, Calls Tryd.prog 10 #[.string s] w fun e w' => e = .returned (.tuple #[.agg #[.string n, .string l, .string u, .string g, .string f, .int .u8 k.toNat, .int .i64 m1, .int .i64 m2, .int .i64 m3, .int .i64 m4, .int .i64 m5, .int .i64 m6, .int .i64 m7], .int .i64 (wantD d), .nilIface]) ∧ Below w.heap.size w w' := hrd
      obtain ⟨D, hD⟩ : ∃ D, D = wantD d := ⟨_, rfl⟩
      rw [← hD] at hrd'
      have RD := Lib.hid hrd'
      have RT := Lib.hid hrt
      clear hrd hrd' hrt hs
      have hways : (((d : Int) == 4) = true ∧ D = 2) ∨ (((d : Int) == 4) = false ∧ D = d) := by
        rw [hD]; unfold wantD
        by_cases h : d = 4
        · left; subst h; exact ⟨rfl, rfl⟩
        · right; rw [if_neg h]; exact ⟨by simp; omega, rfl⟩
      clear hD
      rcases hways with ⟨hd, rfl⟩ | ⟨hd, rfl⟩
      all_goals
        go_wp2_with fail
        refine (RD.out _).mono ?_
        rintro e w4 ⟨rfl, h4⟩
        have B4 := Lib.hid (thenB B3.out h4)
        have hR4 := (hR3.below h4 hR3.lt).alloc (.cells #[.string n, .string l, .string u, .string g, .string f, .int .u8 k.toNat, .int .i64 m1, .int .i64 m2, .int .i64 m3, .int .i64 m4, .int .i64 m5, .int .i64 m6, .int .i64 m7] 23)
        have c0 := hR4.cell 0
        have c1 := hR4.cell 1
        have c2 := hR4.cell 2
        have c3 := hR4.cell 3
        have c4 := hR4.cell 4
        have c5 := hR4.cell 5
        have c6 := hR4.cell 6
        have c7 := hR4.cell 7
        have c8 := hR4.cell 8
        have c9 := hR4.cell 9
        have c10 := hR4.cell 10
        have c11 := hR4.cell 11
        have c12 := hR4.cell 12
        clear h4 hR3 hR4 B3
        go_wp2_with fail
        refine (RT.out _).mono ?_
        rintro e w5 ⟨rfl, h5⟩
        have B5 := Lib.hid (thenB (B4.out.alloc B4.out.size _) h5)
        clear h5 B4
        go_wp2_with fail
        go_ret
        exact ⟨rfl, B5.out⟩
    · have B3 := Lib.hid (thenB B1.out h3)
      clear h3 B1
      go_wp2_with fail
      go_ret
      exact ⟨rfl, B3.out⟩

set_option maxRecDepth 100000 in
theorem headBack_walk (dialect : Int) (_hd : (Lit.int .i64 dialect).wf = true) {H : Type} {enc : TypeId × Value → H} {d : DataW H} {ps : List MemPlace} {base : Nat} (v : Value) {w : World} (hok : Value.okWide Tryd.prog w .any base 23 v)
    (h : DataW.Trod enc Tryd.prog w 0 (fun _ => true) true 23 v d ps) (hz : ∀ n ∈ d.weights Tryd.prog 23, n ≤ reachBytes) :
    Calls Tryd.prog 3 #[.int .i64 dialect, v] w fun e w' => e = .returned (.bool true) ∧ Below w.heap.size w w' := by
  obtain ⟨r, rfl, hw, z1, z2, z3, z4, z5⟩ := raw_open hok h hz
  obtain ⟨n, l, u, g, f, k, m1, m2, m3, m4, m5, m6, m7⟩ := r
  exact headBack_main dialect (bs n) (bs l) (bs u) (bs g) (bs f) k m1 m2 m3 m4 m5 m6 m7 hw z1 z2 z3 z4 z5 w

end Go.Proofs.YtckdieaglcifeaaDoor
