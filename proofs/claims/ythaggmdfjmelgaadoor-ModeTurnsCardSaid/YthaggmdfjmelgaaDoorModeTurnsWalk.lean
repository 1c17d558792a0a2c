/-
  The walk of ModeTurns.
-/
import Derived.Test.YthaggmdfjmelgaaDoorModeF
namespace Go.Proofs.YthaggmdfjmelgaaDoor
open Go.RowKit

/-- A change of one letter, given and taken. -/
theorem turn_any (Wd Ld : ByteArray) (cw cl : UInt8) (bit : BitVec 12) (hW : Wd.data.toList = [cw]) (hL : Ld.data.toList = [cl])
    (h1 : ∀ m dir, Mode.change m [cw, 43, cl] dir = some (some (m ||| bit))) (h2 : ∀ m dir, Mode.change m [cw, 45, cl] dir = some (some (m &&& ~~~bit))) (dir : Bool) :
    (∀ (m : BitVec 12) (w : World), Calls Tryd.prog 11 #[.int .i64 m.toNat, .string (Wd ++ ⟨#[43]⟩ ++ Ld), .bool dir] w fun e w' => e = .returned (.tuple #[.int .i64 (m ||| bit).toNat, .nilIface]) ∧ Below w.heap.size w w') ∧
    (∀ (m : BitVec 12) (w : World), Calls Tryd.prog 11 #[.int .i64 m.toNat, .string (Wd ++ ⟨#[45]⟩ ++ Ld), .bool dir] w fun e w' => e = .returned (.tuple #[.int .i64 (m &&& ~~~bit).toNat, .nilIface]) ∧ Below w.heap.size w w') := by
  have l1 : (Wd ++ ⟨#[43]⟩ ++ Ld).data.toList = [cw, 43, cl] := by rw [cat_list, cat_list, hW, hL]; rfl
  have l2 : (Wd ++ ⟨#[45]⟩ ++ Ld).data.toList = [cw, 45, cl] := by rw [cat_list, cat_list, hW, hL]; rfl
  have s1 : (Wd ++ ⟨#[43]⟩ ++ Ld).size < 1000 := by rw [← list_size, l1]; show 3 < 1000; omega
  have s2 : (Wd ++ ⟨#[45]⟩ ++ Ld).size < 1000 := by rw [← list_size, l2]; show 3 < 1000; omega
  constructor
  · intro m w; have := change_any m _ dir s1 w; rw [l1, h1] at this; exact this
  · intro m w; have := change_any m _ dir s2 w; rw [l2, h2] at this; exact this

theorem or_not (m b : BitVec 12) : (m ||| b) &&& ~~~b = m &&& ~~~b := by
  refine BitVec.eq_of_getLsbD_eq fun i hi => ?_
  simp only [BitVec.getLsbD_and, BitVec.getLsbD_or, BitVec.getLsbD_not, hi, decide_true, Bool.true_and]
  cases m.getLsbD i <;> cases b.getLsbD i <;> rfl

set_option maxRecDepth 100000 in
set_option maxHeartbeats 16000000 in
theorem modeTurns_walk (a : Int) (_wa : (Lit.int .i64 a).wf = true) (b : Int) (_wb : (Lit.int .i64 b).wf = true) (c : Int) (_wc : (Lit.int .i64 c).wf = true) (dir : Bool) (w : World) :
    Calls Tryd.prog 4 #[.int .i64 a, .int .i64 b, .int .i64 c, .bool dir] w fun e w' => e = .returned (.bool true) ∧ Below w.heap.size w w' := by
  have M := Lib.hid moded_any
  have hp3 : ∀ (x : Int) (w : World), Calls Tryd.prog 8 #[.int .i64 x, .int .i64 3] w fun e w' => e = .returned (.int .i64 (pickN x 3)) ∧ w' = w := fun x w => pick_any x 3 w (by omega) (by omega)
  have P3 := Lib.hid hp3
  clear hp3
  have p0 := pickN_lo a 4096 (by omega)
  have p1 := pickN_hi a 4096 (by omega)
  obtain ⟨m, hm⟩ : ∃ m : BitVec 12, pickN a 4096 = (m.toNat : Int) := ⟨BitVec.ofNat 12 (pickN a 4096).toNat, by rw [BitVec.toNat_ofNat, Nat.mod_eq_of_lt (by omega)]; omega⟩
  have hpa : ∀ w, Calls Tryd.prog 8 #[.int .i64 a, .int .i64 4096] w fun e w' => e = .returned (.int .i64 (m.toNat : Int)) ∧ w' = w := fun w => by
    have := pick_any a 4096 w (by omega) (by omega)
    rw [hm] at this
    exact this
  have PA := Lib.hid hpa
  clear hpa p0 p1 hm
  have b0 := pickN_lo b 3 (by omega)
  have b1 := pickN_hi b 3 (by omega)
  have c0 := pickN_lo c 3 (by omega)
  have c1 := pickN_hi c 3 (by omega)
  have eb : pickN b 3 = 0 ∨ pickN b 3 = 1 ∨ pickN b 3 = 2 := by omega
  have ec : pickN c 3 = 0 ∨ pickN c 3 = 1 ∨ pickN c 3 = 2 := by omega
  clear b0 b1 c0 c1
  rcases eb with eb | eb | eb
  · rcases ec with ec | ec | ec
    · have hW : ((⟨#[117, 103, 111]⟩ : ByteArray).extract 0 3).extract 0 1 = ⟨#[117]⟩ := rfl
      have hL : ((⟨#[114, 119, 120]⟩ : ByteArray).extract 0 3).extract 0 1 = ⟨#[114]⟩ := rfl
      obtain ⟨g1, g2⟩ := turn_any ⟨#[117]⟩ ⟨#[114]⟩ 117 114 256#12 rfl rfl (fun m dir => rfl) (fun m dir => rfl) dir
      have ho : bits .or .i64 (m.toNat : Int) 256 = ((m ||| 256#12).toNat : Int) := bits_or m 256#12
      have hn : bits .andNot .i64 (m.toNat : Int) 256 = ((m &&& ~~~256#12).toNat : Int) := bits_not m 256#12
      have g3 : ∀ w, Calls Tryd.prog 11 #[.int .i64 ((m.toNat ||| 256 : Nat) : Int), .string (⟨#[117]⟩ ++ ⟨#[45]⟩ ++ ⟨#[114]⟩), .bool dir] w fun e w' => e = .returned (.tuple #[.int .i64 (m &&& ~~~256#12).toNat, .nilIface]) ∧ Below w.heap.size w w' := fun w => by
        have := g2 (m ||| 256#12) w
        rw [or_not] at this
        exact this
      have G3 := Lib.hid g3
      clear g3
      have G1 := Lib.hid g1
      have G2 := Lib.hid g2
      clear g1 g2
      go_enter Tryd.func4, Tryd.ntmps4
      go_wp2_with (go_at_call 7; refine (M.out _).mono ?_; rintro e w1 ⟨rfl, h⟩; have B1 := Lib.hid h; clear h)
      refine (PA.out _).mono ?_
      rintro e w2 ⟨rfl, rfl⟩
      go_wp2_with fail
      go_quiet ((go_at_call 8; exact Calls.quiet_of_same (P3.out _ _)))
      generalize hw3 : w2.drewN nq = w3
      have B2 : Hid (Below w.heap.size w w3) := by rw [← hw3]; exact below_drewN B1.out nq
      clear hw3
      go_wp2_with (go_at_call 8; refine (P3.out _ _).mono ?_; rintro e w4 ⟨rfl, rfl⟩)
      refine (G1.out m _).mono ?_
      rintro e w5 ⟨rfl, h⟩
      have B3 := Lib.hid (thenB B2.out h)
      clear h
      go_wp2_with fail
      refine (G2.out m _).mono ?_
      rintro e w6 ⟨rfl, h⟩
      have B4 := Lib.hid (thenB B3.out h)
      clear h
      go_wp2_with fail
      refine (G3.out _).mono ?_
      rintro e w7 ⟨rfl, h⟩
      have B5 := Lib.hid (thenB B4.out h)
      clear h
      go_wp2_with fail
      go_ret
      exact ⟨rfl, B5.out⟩
    · have hW : ((⟨#[117, 103, 111]⟩ : ByteArray).extract 0 3).extract 0 1 = ⟨#[117]⟩ := rfl
      have hL : ((⟨#[114, 119, 120]⟩ : ByteArray).extract 1 3).extract 0 1 = ⟨#[119]⟩ := rfl
      obtain ⟨g1, g2⟩ := turn_any ⟨#[117]⟩ ⟨#[119]⟩ 117 119 128#12 rfl rfl (fun m dir => rfl) (fun m dir => rfl) dir
      have ho : bits .or .i64 (m.toNat : Int) 128 = ((m ||| 128#12).toNat : Int) := bits_or m 128#12
      have hn : bits .andNot .i64 (m.toNat : Int) 128 = ((m &&& ~~~128#12).toNat : Int) := bits_not m 128#12
      have g3 : ∀ w, Calls Tryd.prog 11 #[.int .i64 ((m.toNat ||| 128 : Nat) : Int), .string (⟨#[117]⟩ ++ ⟨#[45]⟩ ++ ⟨#[119]⟩), .bool dir] w fun e w' => e = .returned (.tuple #[.int .i64 (m &&& ~~~128#12).toNat, .nilIface]) ∧ Below w.heap.size w w' := fun w => by
        have := g2 (m ||| 128#12) w
        rw [or_not] at this
        exact this
      have G3 := Lib.hid g3
      clear g3
      have G1 := Lib.hid g1
      have G2 := Lib.hid g2
      clear g1 g2
      go_enter Tryd.func4, Tryd.ntmps4
      go_wp2_with (go_at_call 7; refine (M.out _).mono ?_; rintro e w1 ⟨rfl, h⟩; have B1 := Lib.hid h; clear h)
      refine (PA.out _).mono ?_
      rintro e w2 ⟨rfl, rfl⟩
      go_wp2_with fail
      go_quiet ((go_at_call 8; exact Calls.quiet_of_same (P3.out _ _)))
      generalize hw3 : w2.drewN nq = w3
      have B2 : Hid (Below w.heap.size w w3) := by rw [← hw3]; exact below_drewN B1.out nq
      clear hw3
      go_wp2_with (go_at_call 8; refine (P3.out _ _).mono ?_; rintro e w4 ⟨rfl, rfl⟩)
      refine (G1.out m _).mono ?_
      rintro e w5 ⟨rfl, h⟩
      have B3 := Lib.hid (thenB B2.out h)
      clear h
      go_wp2_with fail
      refine (G2.out m _).mono ?_
      rintro e w6 ⟨rfl, h⟩
      have B4 := Lib.hid (thenB B3.out h)
      clear h
      go_wp2_with fail
      refine (G3.out _).mono ?_
      rintro e w7 ⟨rfl, h⟩
      have B5 := Lib.hid (thenB B4.out h)
      clear h
      go_wp2_with fail
      go_ret
      exact ⟨rfl, B5.out⟩
    · have hW : ((⟨#[117, 103, 111]⟩ : ByteArray).extract 0 3).extract 0 1 = ⟨#[117]⟩ := rfl
      have hL : ((⟨#[114, 119, 120]⟩ : ByteArray).extract 2 3).extract 0 1 = ⟨#[120]⟩ := rfl
      obtain ⟨g1, g2⟩ := turn_any ⟨#[117]⟩ ⟨#[120]⟩ 117 120 64#12 rfl rfl (fun m dir => rfl) (fun m dir => rfl) dir
      have ho : bits .or .i64 (m.toNat : Int) 64 = ((m ||| 64#12).toNat : Int) := bits_or m 64#12
      have hn : bits .andNot .i64 (m.toNat : Int) 64 = ((m &&& ~~~64#12).toNat : Int) := bits_not m 64#12
      have g3 : ∀ w, Calls Tryd.prog 11 #[.int .i64 ((m.toNat ||| 64 : Nat) : Int), .string (⟨#[117]⟩ ++ ⟨#[45]⟩ ++ ⟨#[120]⟩), .bool dir] w fun e w' => e = .returned (.tuple #[.int .i64 (m &&& ~~~64#12).toNat, .nilIface]) ∧ Below w.heap.size w w' := fun w => by
        have := g2 (m ||| 64#12) w
        rw [or_not] at this
        exact this
      have G3 := Lib.hid g3
      clear g3
      have G1 := Lib.hid g1
      have G2 := Lib.hid g2
      clear g1 g2
      go_enter Tryd.func4, Tryd.ntmps4
      go_wp2_with (go_at_call 7; refine (M.out _).mono ?_; rintro e w1 ⟨rfl, h⟩; have B1 := Lib.hid h; clear h)
      refine (PA.out _).mono ?_
      rintro e w2 ⟨rfl, rfl⟩
      go_wp2_with fail
      go_quiet ((go_at_call 8; exact Calls.quiet_of_same (P3.out _ _)))
      generalize hw3 : w2.drewN nq = w3
      have B2 : Hid (Below w.heap.size w w3) := by rw [← hw3]; exact below_drewN B1.out nq
      clear hw3
      go_wp2_with (go_at_call 8; refine (P3.out _ _).mono ?_; rintro e w4 ⟨rfl, rfl⟩)
      refine (G1.out m _).mono ?_
      rintro e w5 ⟨rfl, h⟩
      have B3 := Lib.hid (thenB B2.out h)
      clear h
      go_wp2_with fail
      refine (G2.out m _).mono ?_
      rintro e w6 ⟨rfl, h⟩
      have B4 := Lib.hid (thenB B3.out h)
      clear h
      go_wp2_with fail
      refine (G3.out _).mono ?_
      rintro e w7 ⟨rfl, h⟩
      have B5 := Lib.hid (thenB B4.out h)
      clear h
      go_wp2_with fail
      go_ret
      exact ⟨rfl, B5.out⟩
  · rcases ec with ec | ec | ec
    · have hW : ((⟨#[117, 103, 111]⟩ : ByteArray).extract 1 3).extract 0 1 = ⟨#[103]⟩ := rfl
      have hL : ((⟨#[114, 119, 120]⟩ : ByteArray).extract 0 3).extract 0 1 = ⟨#[114]⟩ := rfl
      obtain ⟨g1, g2⟩ := turn_any ⟨#[103]⟩ ⟨#[114]⟩ 103 114 32#12 rfl rfl (fun m dir => rfl) (fun m dir => rfl) dir
      have ho : bits .or .i64 (m.toNat : Int) 32 = ((m ||| 32#12).toNat : Int) := bits_or m 32#12
      have hn : bits .andNot .i64 (m.toNat : Int) 32 = ((m &&& ~~~32#12).toNat : Int) := bits_not m 32#12
      have g3 : ∀ w, Calls Tryd.prog 11 #[.int .i64 ((m.toNat ||| 32 : Nat) : Int), .string (⟨#[103]⟩ ++ ⟨#[45]⟩ ++ ⟨#[114]⟩), .bool dir] w fun e w' => e = .returned (.tuple #[.int .i64 (m &&& ~~~32#12).toNat, .nilIface]) ∧ Below w.heap.size w w' := fun w => by
        have := g2 (m ||| 32#12) w
        rw [or_not] at this
        exact this
      have G3 := Lib.hid g3
      clear g3
      have G1 := Lib.hid g1
      have G2 := Lib.hid g2
      clear g1 g2
      go_enter Tryd.func4, Tryd.ntmps4
      go_wp2_with (go_at_call 7; refine (M.out _).mono ?_; rintro e w1 ⟨rfl, h⟩; have B1 := Lib.hid h; clear h)
      refine (PA.out _).mono ?_
      rintro e w2 ⟨rfl, rfl⟩
      go_wp2_with fail
      go_quiet ((go_at_call 8; exact Calls.quiet_of_same (P3.out _ _)))
      generalize hw3 : w2.drewN nq = w3
      have B2 : Hid (Below w.heap.size w w3) := by rw [← hw3]; exact below_drewN B1.out nq
      clear hw3
      go_wp2_with (go_at_call 8; refine (P3.out _ _).mono ?_; rintro e w4 ⟨rfl, rfl⟩)
      refine (G1.out m _).mono ?_
      rintro e w5 ⟨rfl, h⟩
      have B3 := Lib.hid (thenB B2.out h)
      clear h
      go_wp2_with fail
      refine (G2.out m _).mono ?_
      rintro e w6 ⟨rfl, h⟩
      have B4 := Lib.hid (thenB B3.out h)
      clear h
      go_wp2_with fail
      refine (G3.out _).mono ?_
      rintro e w7 ⟨rfl, h⟩
      have B5 := Lib.hid (thenB B4.out h)
      clear h
      go_wp2_with fail
      go_ret
      exact ⟨rfl, B5.out⟩
    · have hW : ((⟨#[117, 103, 111]⟩ : ByteArray).extract 1 3).extract 0 1 = ⟨#[103]⟩ := rfl
      have hL : ((⟨#[114, 119, 120]⟩ : ByteArray).extract 1 3).extract 0 1 = ⟨#[119]⟩ := rfl
      obtain ⟨g1, g2⟩ := turn_any ⟨#[103]⟩ ⟨#[119]⟩ 103 119 16#12 rfl rfl (fun m dir => rfl) (fun m dir => rfl) dir
      have ho : bits .or .i64 (m.toNat : Int) 16 = ((m ||| 16#12).toNat : Int) := bits_or m 16#12
      have hn : bits .andNot .i64 (m.toNat : Int) 16 = ((m &&& ~~~16#12).toNat : Int) := bits_not m 16#12
      have g3 : ∀ w, Calls Tryd.prog 11 #[.int .i64 ((m.toNat ||| 16 : Nat) : Int), .string (⟨#[103]⟩ ++ ⟨#[45]⟩ ++ ⟨#[119]⟩), .bool dir] w fun e w' => e = .returned (.tuple #[.int .i64 (m &&& ~~~16#12).toNat, .nilIface]) ∧ Below w.heap.size w w' := fun w => by
        have := g2 (m ||| 16#12) w
        rw [or_not] at this
        exact this
      have G3 := Lib.hid g3
      clear g3
      have G1 := Lib.hid g1
      have G2 := Lib.hid g2
      clear g1 g2
      go_enter Tryd.func4, Tryd.ntmps4
      go_wp2_with (go_at_call 7; refine (M.out _).mono ?_; rintro e w1 ⟨rfl, h⟩; have B1 := Lib.hid h; clear h)
      refine (PA.out _).mono ?_
      rintro e w2 ⟨rfl, rfl⟩
      go_wp2_with fail
      go_quiet ((go_at_call 8; exact Calls.quiet_of_same (P3.out _ _)))
      generalize hw3 : w2.drewN nq = w3
      have B2 : Hid (Below w.heap.size w w3) := by rw [← hw3]; exact below_drewN B1.out nq
      clear hw3
      go_wp2_with (go_at_call 8; refine (P3.out _ _).mono ?_; rintro e w4 ⟨rfl, rfl⟩)
      refine (G1.out m _).mono ?_
      rintro e w5 ⟨rfl, h⟩
      have B3 := Lib.hid (thenB B2.out h)
      clear h
      go_wp2_with fail
      refine (G2.out m _).mono ?_
      rintro e w6 ⟨rfl, h⟩
      have B4 := Lib.hid (thenB B3.out h)
      clear h
      go_wp2_with fail
      refine (G3.out _).mono ?_
      rintro e w7 ⟨rfl, h⟩
      have B5 := Lib.hid (thenB B4.out h)
      clear h
      go_wp2_with fail
      go_ret
      exact ⟨rfl, B5.out⟩
    · have hW : ((⟨#[117, 103, 111]⟩ : ByteArray).extract 1 3).extract 0 1 = ⟨#[103]⟩ := rfl
      have hL : ((⟨#[114, 119, 120]⟩ : ByteArray).extract 2 3).extract 0 1 = ⟨#[120]⟩ := rfl
      obtain ⟨g1, g2⟩ := turn_any ⟨#[103]⟩ ⟨#[120]⟩ 103 120 8#12 rfl rfl (fun m dir => rfl) (fun m dir => rfl) dir
      have ho : bits .or .i64 (m.toNat : Int) 8 = ((m ||| 8#12).toNat : Int) := bits_or m 8#12
      have hn : bits .andNot .i64 (m.toNat : Int) 8 = ((m &&& ~~~8#12).toNat : Int) := bits_not m 8#12
      have g3 : ∀ w, Calls Tryd.prog 11 #[.int .i64 ((m.toNat ||| 8 : Nat) : Int), .string (⟨#[103]⟩ ++ ⟨#[45]⟩ ++ ⟨#[120]⟩), .bool dir] w fun e w' => e = .returned (.tuple #[.int .i64 (m &&& ~~~8#12).toNat, .nilIface]) ∧ Below w.heap.size w w' := fun w => by
        have := g2 (m ||| 8#12) w
        rw [or_not] at this
        exact this
      have G3 := Lib.hid g3
      clear g3
      have G1 := Lib.hid g1
      have G2 := Lib.hid g2
      clear g1 g2
      go_enter Tryd.func4, Tryd.ntmps4
      go_wp2_with (go_at_call 7; refine (M.out _).mono ?_; rintro e w1 ⟨rfl, h⟩; have B1 := Lib.hid h; clear h)
      refine (PA.out _).mono ?_
      rintro e w2 ⟨rfl, rfl⟩
      go_wp2_with fail
      go_quiet ((go_at_call 8; exact Calls.quiet_of_same (P3.out _ _)))
      generalize hw3 : w2.drewN nq = w3
      have B2 : Hid (Below w.heap.size w w3) := by rw [← hw3]; exact below_drewN B1.out nq
      clear hw3
      go_wp2_with (go_at_call 8; refine (P3.out _ _).mono ?_; rintro e w4 ⟨rfl, rfl⟩)
      refine (G1.out m _).mono ?_
      rintro e w5 ⟨rfl, h⟩
      have B3 := Lib.hid (thenB B2.out h)
      clear h
      go_wp2_with fail
      refine (G2.out m _).mono ?_
      rintro e w6 ⟨rfl, h⟩
      have B4 := Lib.hid (thenB B3.out h)
      clear h
      go_wp2_with fail
      refine (G3.out _).mono ?_
      rintro e w7 ⟨rfl, h⟩
      have B5 := Lib.hid (thenB B4.out h)
      clear h
      go_wp2_with fail
      go_ret
      exact ⟨rfl, B5.out⟩
  · rcases ec with ec | ec | ec
    · have hW : ((⟨#[117, 103, 111]⟩ : ByteArray).extract 2 3).extract 0 1 = ⟨#[111]⟩ := rfl
      have hL : ((⟨#[114, 119, 120]⟩ : ByteArray).extract 0 3).extract 0 1 = ⟨#[114]⟩ := rfl
      obtain ⟨g1, g2⟩ := turn_any ⟨#[111]⟩ ⟨#[114]⟩ 111 114 4#12 rfl rfl (fun m dir => rfl) (fun m dir => rfl) dir
      have ho : bits .or .i64 (m.toNat : Int) 4 = ((m ||| 4#12).toNat : Int) := bits_or m 4#12
      have hn : bits .andNot .i64 (m.toNat : Int) 4 = ((m &&& ~~~4#12).toNat : Int) := bits_not m 4#12
      have g3 : ∀ w, Calls Tryd.prog 11 #[.int .i64 ((m.toNat ||| 4 : Nat) : Int), .string (⟨#[111]⟩ ++ ⟨#[45]⟩ ++ ⟨#[114]⟩), .bool dir] w fun e w' => e = .returned (.tuple #[.int .i64 (m &&& ~~~4#12).toNat, .nilIface]) ∧ Below w.heap.size w w' := fun w => by
        have := g2 (m ||| 4#12) w
        rw [or_not] at this
        exact this
      have G3 := Lib.hid g3
      clear g3
      have G1 := Lib.hid g1
      have G2 := Lib.hid g2
      clear g1 g2
      go_enter Tryd.func4, Tryd.ntmps4
      go_wp2_with (go_at_call 7; refine (M.out _).mono ?_; rintro e w1 ⟨rfl, h⟩; have B1 := Lib.hid h; clear h)
      refine (PA.out _).mono ?_
      rintro e w2 ⟨rfl, rfl⟩
      go_wp2_with fail
      go_quiet ((go_at_call 8; exact Calls.quiet_of_same (P3.out _ _)))
      generalize hw3 : w2.drewN nq = w3
      have B2 : Hid (Below w.heap.size w w3) := by rw [← hw3]; exact below_drewN B1.out nq
      clear hw3
      go_wp2_with (go_at_call 8; refine (P3.out _ _).mono ?_; rintro e w4 ⟨rfl, rfl⟩)
      refine (G1.out m _).mono ?_
      rintro e w5 ⟨rfl, h⟩
      have B3 := Lib.hid (thenB B2.out h)
      clear h
      go_wp2_with fail
      refine (G2.out m _).mono ?_
      rintro e w6 ⟨rfl, h⟩
      have B4 := Lib.hid (thenB B3.out h)
      clear h
      go_wp2_with fail
      refine (G3.out _).mono ?_
      rintro e w7 ⟨rfl, h⟩
      have B5 := Lib.hid (thenB B4.out h)
      clear h
      go_wp2_with fail
      go_ret
      exact ⟨rfl, B5.out⟩
    · have hW : ((⟨#[117, 103, 111]⟩ : ByteArray).extract 2 3).extract 0 1 = ⟨#[111]⟩ := rfl
      have hL : ((⟨#[114, 119, 120]⟩ : ByteArray).extract 1 3).extract 0 1 = ⟨#[119]⟩ := rfl
      obtain ⟨g1, g2⟩ := turn_any ⟨#[111]⟩ ⟨#[119]⟩ 111 119 2#12 rfl rfl (fun m dir => rfl) (fun m dir => rfl) dir
      have ho : bits .or .i64 (m.toNat : Int) 2 = ((m ||| 2#12).toNat : Int) := bits_or m 2#12
      have hn : bits .andNot .i64 (m.toNat : Int) 2 = ((m &&& ~~~2#12).toNat : Int) := bits_not m 2#12
      have g3 : ∀ w, Calls Tryd.prog 11 #[.int .i64 ((m.toNat ||| 2 : Nat) : Int), .string (⟨#[111]⟩ ++ ⟨#[45]⟩ ++ ⟨#[119]⟩), .bool dir] w fun e w' => e = .returned (.tuple #[.int .i64 (m &&& ~~~2#12).toNat, .nilIface]) ∧ Below w.heap.size w w' := fun w => by
        have := g2 (m ||| 2#12) w
        rw [or_not] at this
        exact this
      have G3 := Lib.hid g3
      clear g3
      have G1 := Lib.hid g1
      have G2 := Lib.hid g2
      clear g1 g2
      go_enter Tryd.func4, Tryd.ntmps4
      go_wp2_with (go_at_call 7; refine (M.out _).mono ?_; rintro e w1 ⟨rfl, h⟩; have B1 := Lib.hid h; clear h)
      refine (PA.out _).mono ?_
      rintro e w2 ⟨rfl, rfl⟩
      go_wp2_with fail
      go_quiet ((go_at_call 8; exact Calls.quiet_of_same (P3.out _ _)))
      generalize hw3 : w2.drewN nq = w3
      have B2 : Hid (Below w.heap.size w w3) := by rw [← hw3]; exact below_drewN B1.out nq
      clear hw3
      go_wp2_with (go_at_call 8; refine (P3.out _ _).mono ?_; rintro e w4 ⟨rfl, rfl⟩)
      refine (G1.out m _).mono ?_
      rintro e w5 ⟨rfl, h⟩
      have B3 := Lib.hid (thenB B2.out h)
      clear h
      go_wp2_with fail
      refine (G2.out m _).mono ?_
      rintro e w6 ⟨rfl, h⟩
      have B4 := Lib.hid (thenB B3.out h)
      clear h
      go_wp2_with fail
      refine (G3.out _).mono ?_
      rintro e w7 ⟨rfl, h⟩
      have B5 := Lib.hid (thenB B4.out h)
      clear h
      go_wp2_with fail
      go_ret
      exact ⟨rfl, B5.out⟩
    · have hW : ((⟨#[117, 103, 111]⟩ : ByteArray).extract 2 3).extract 0 1 = ⟨#[111]⟩ := rfl
      have hL : ((⟨#[114, 119, 120]⟩ : ByteArray).extract 2 3).extract 0 1 = ⟨#[120]⟩ := rfl
      obtain ⟨g1, g2⟩ := turn_any ⟨#[111]⟩ ⟨#[120]⟩ 111 120 1#12 rfl rfl (fun m dir => rfl) (fun m dir => rfl) dir
      have ho : bits .or .i64 (m.toNat : Int) 1 = ((m ||| 1#12).toNat : Int) := bits_or m 1#12
      have hn : bits .andNot .i64 (m.toNat : Int) 1 = ((m &&& ~~~1#12).toNat : Int) := bits_not m 1#12
      have g3 : ∀ w, Calls Tryd.prog 11 #[.int .i64 ((m.toNat ||| 1 : Nat) : Int), .string (⟨#[111]⟩ ++ ⟨#[45]⟩ ++ ⟨#[120]⟩), .bool dir] w fun e w' => e = .returned (.tuple #[.int .i64 (m &&& ~~~1#12).toNat, .nilIface]) ∧ Below w.heap.size w w' := fun w => by
        have := g2 (m ||| 1#12) w
        rw [or_not] at this
        exact this
      have G3 := Lib.hid g3
      clear g3
      have G1 := Lib.hid g1
      have G2 := Lib.hid g2
      clear g1 g2
      go_enter Tryd.func4, Tryd.ntmps4
      go_wp2_with (go_at_call 7; refine (M.out _).mono ?_; rintro e w1 ⟨rfl, h⟩; have B1 := Lib.hid h; clear h)
      refine (PA.out _).mono ?_
      rintro e w2 ⟨rfl, rfl⟩
      go_wp2_with fail
      go_quiet ((go_at_call 8; exact Calls.quiet_of_same (P3.out _ _)))
      generalize hw3 : w2.drewN nq = w3
      have B2 : Hid (Below w.heap.size w w3) := by rw [← hw3]; exact below_drewN B1.out nq
      clear hw3
      go_wp2_with (go_at_call 8; refine (P3.out _ _).mono ?_; rintro e w4 ⟨rfl, rfl⟩)
      refine (G1.out m _).mono ?_
      rintro e w5 ⟨rfl, h⟩
      have B3 := Lib.hid (thenB B2.out h)
      clear h
      go_wp2_with fail
      refine (G2.out m _).mono ?_
      rintro e w6 ⟨rfl, h⟩
      have B4 := Lib.hid (thenB B3.out h)
      clear h
      go_wp2_with fail
      refine (G3.out _).mono ?_
      rintro e w7 ⟨rfl, h⟩
      have B5 := Lib.hid (thenB B4.out h)
      clear h
      go_wp2_with fail
      go_ret
      exact ⟨rfl, B5.out⟩

end Go.Proofs.YthaggmdfjmelgaaDoor
