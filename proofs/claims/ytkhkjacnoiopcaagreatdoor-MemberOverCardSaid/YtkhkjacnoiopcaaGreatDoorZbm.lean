/-
  same: whether two members are the same.
-/
import Derived.Test.YtkhkjacnoiopcaaGreatDoorZbl
set_option linter.unusedVariables false
set_option linter.unusedSimpArgs false

set_option linter.unusedVariables false
set_option linter.unusedSimpArgs false
namespace Go.Proofs.YtkhkjacnoiopcaaGreatDoor
open Go.RowKit Tre Pk

theorem piece_neqB (w : World) (a b c d : Int) : (binOp .neq 79 (.agg #[.int .i64 a, .int .i64 b]) (.agg #[.int .i64 c, .int .i64 d])).run Tryz.prog w = .ok (.bool (!(a == c && b == d))) w := by
  have h1 := Tryz.underlying3
  have h5 : Tryz.prog.stoodInHeld 79 = false := by kernel_rfl
  rw [run_neq_struct, run_equalIn_agg w 9999 79 _ _ (by kernel_rfl) (by kernel_rfl)]
  by_cases x : a = c <;> by_cases y : b = d <;> simp [go_sem, h1, h5, x, y]
theorem time_eqB (w : World) (a b c d : Int) : (binOp .eql 23 (.agg #[.int .i64 a, .int .i64 b]) (.agg #[.int .i64 c, .int .i64 d])).run Tryz.prog w = .ok (.bool (a == c && b == d)) w := by
  have h1 := Tryz.underlying3
  have h5 : Tryz.prog.stoodInHeld 23 = false := by kernel_rfl
  rw [run_eql_struct, run_equalIn_agg w 9999 23 _ _ (by kernel_rfl) (by kernel_rfl)]
  by_cases x : a = c <;> by_cases y : b = d <;> simp [go_sem, h1, h5, x, y]
theorem strNe {x y : List UInt8} (h : x ≠ y) : ((bs x).toList == (bs y).toList) = false := by
  rw [beq_eq_false_iff_ne]
  intro e
  have h2 : ∀ l : List UInt8, (bs l).toList = l := fun l => Lib.toList_data _
  rw [h2, h2] at e
  exact h e

set_option maxRecDepth 100000 in
set_option maxHeartbeats 4000000 in
/-- slices.Equal at any two rows of pieces. -/
theorem eqP_any (l k : List (Int × Int)) (m1 m2 : Value) (w : World) (h1 : Pcs w m1 l) (h2 : Pcs w m2 k) (hl : l.length ≤ 1000) (hk : k.length ≤ 1000) :
    Calls Tryz.prog 42 #[m1, m2] w fun e w' => e = .returned (.bool (decide (l = k))) ∧ Below w.heap.size w w' := by
  obtain ⟨A1, k1, rfl, r1⟩ := h1
  obtain ⟨A2, k2, rfl, r2⟩ := h2
  by_cases hlk : l.length = k.length
  · have R1 := Lib.hid r1
    have R2 := Lib.hid r2
    have hli : (l.length : Int) ≤ 1000 := by omega
    rw [← hlk]
    have HLK := Lib.hid hlk
    clear r1 r2 hlk hk
    go_enter Tryz.func42, Tryz.ntmps42
    go_wp2_with fail
    go_loopg [13] (l.length) (fun g iv wr => ∃ i : Nat, iv = .int .i64 i ∧ i ≤ l.length ∧ g = l.length - i ∧ Below w.heap.size w wr ∧ Hid (l.take i = k.take i))
    case atStart => exact ⟨0, rfl, by omega, by omega, Below.refl _ _, Lib.hid rfl⟩
    case round =>
      obtain ⟨i, rfl, hi, hg, hbw, HT⟩ := hrel
      have HW := Lib.hid hbw
      have HG := Lib.hid hg
      clear hbw hg
      by_cases hil : i < l.length
      · have hii : (i : Int) < l.length := by omega
        have hi0 : (0 : Int) ≤ i := by omega
        have hil2 : i < k.length := by rw [← HLK.out]; exact hil
        obtain ⟨b1, o1, e1, hb1, k0, k1⟩ := R1.out i hil
        obtain ⟨b2, o2, e2, hb2, m0, m1⟩ := R2.out i hil2
        obtain ⟨r, hrd⟩ : ∃ r, r = l[i] := ⟨_, rfl⟩
        obtain ⟨q, hqd⟩ : ∃ q, q = k[i] := ⟨_, rfl⟩
        have HR := Lib.hid hrd
        have HQ := Lib.hid hqd
        rw [← hrd] at k0 k1
        rw [← hqd] at m0 m1
        subst e1 e2
        have d0 : wr.cell? ⟨b1, o1 + i * 2, none⟩ = some (.int .i64 r.1) := (HW.out.cell (p := ⟨b1, o1 + i * 2, none⟩) hb1).trans k0
        have d1 : wr.cell? ⟨b1, o1 + i * 2 + 1, none⟩ = some (.int .i64 r.2) := (HW.out.cell (p := ⟨b1, o1 + i * 2 + 1, none⟩) hb1).trans k1
        have e0 : wr.cell? ⟨b2, o2 + i * 2, none⟩ = some (.int .i64 q.1) := (HW.out.cell (p := ⟨b2, o2 + i * 2, none⟩) hb2).trans m0
        have e1 : wr.cell? ⟨b2, o2 + i * 2 + 1, none⟩ = some (.int .i64 q.2) := (HW.out.cell (p := ⟨b2, o2 + i * 2 + 1, none⟩) hb2).trans m1
        clear k0 k1 m0 m1 hrd hqd
        by_cases hrq : r = q
        · have hq : ∀ w, (binOp .neq 79 (.agg #[.int .i64 r.1, .int .i64 r.2]) (.agg #[.int .i64 q.1, .int .i64 q.2])).run Tryz.prog w = .ok (.bool false) w := fun w => by rw [piece_neqB, hrq]; simp
          have hnext : l.take (i + 1) = k.take (i + 1) := by
            rw [List.take_succ_eq_append_getElem hil, List.take_succ_eq_append_getElem hil2, HT.out, ← HR.out, ← HQ.out, hrq]
          have HN := Lib.hid hnext
          clear hnext hrq
          go_wp2_with fail
          go_quiet (fail)
          go_wp2_with fail
          go_roundg (l.length - (i + 1))
          case measure => have := HG.out; omega
          case rel => exact ⟨i + 1, by go_num, by omega, by omega, below_drewN HW.out _, HN⟩
        · have hq : ∀ w, (binOp .neq 79 (.agg #[.int .i64 r.1, .int .i64 r.2]) (.agg #[.int .i64 q.1, .int .i64 q.2])).run Tryz.prog w = .ok (.bool true) w := fun w => by
            rw [piece_neqB]
            have : (r.1 == q.1 && r.2 == q.2) = false := by
              cases hx : (r.1 == q.1 && r.2 == q.2)
              · rfl
              · rw [Bool.and_eq_true, beq_iff_eq, beq_iff_eq] at hx
                exact absurd (Prod.ext hx.1 hx.2) hrq
            rw [this]; rfl
          have hfin : decide (l = k) = false := decide_eq_false fun e => hrq (by rw [HR.out, HQ.out]; subst e; rfl)
          have HF := Lib.hid hfin
          clear hfin hrq
          go_wp2_with fail
          go_quiet (fail)
          go_wp2_with fail
          go_ret
          rw [HF.out]
          exact ⟨rfl, below_drewN HW.out _⟩
      · have hii : (l.length : Int) ≤ i := by omega
        have hil' : i = l.length := by omega
        have hfin : decide (l = k) = true := decide_eq_true (by
          have h := HT.out
          rw [List.take_of_length_le (by omega), List.take_of_length_le (by have := HLK.out; omega)] at h
          exact h)
        have HF := Lib.hid hfin
        clear hfin hil'
        go_wp2_with fail
        go_ret
        rw [HF.out]
        exact ⟨rfl, HW.out⟩
  · have hne : (((l.length : Nat) : Int) == ((k.length : Nat) : Int)) = false := by rw [beq_eq_false_iff_ne]; omega
    have hne2 : (((l.length : Nat) : Int) != ((k.length : Nat) : Int)) = true := by rw [bne_iff_ne]; omega
    have hfin : decide (l = k) = false := decide_eq_false fun e => hlk (by rw [e])
    rw [hfin]
    clear hfin r1 r2 hlk
    go_enter Tryz.func42, Tryz.ntmps42
    go_wp2_with fail
    go_ret
    exact ⟨rfl, Below.refl _ _⟩

set_option maxRecDepth 100000 in
set_option maxHeartbeats 8000000 in
theorem same_0 (n : List UInt8) (k : Nat) (md : Int) (ui : Int) (gi : Int) (z : Int) (s : Int) (a : Int) (l : List UInt8) (us : List UInt8) (gr : List UInt8) (mj : Int) (mn : Int) (d : List UInt8) (n' : List UInt8) (k' : Nat) (md' : Int) (ui' : Int) (gi' : Int) (z' : Int) (s' : Int) (a' : Int) (l' : List UInt8) (us' : List UInt8) (gr' : List UInt8) (mj' : Int) (mn' : Int) (d' : List UInt8) (mp mp' : List (Int × Int)) (A1 A2 : Option Addr) (c1 c2 : Nat) (w : World) (hne : n ≠ n') :
    Calls Tryz.prog 19 #[.agg #[.string (bs n), .int .u8 k, .int .i64 md, .int .i64 ui, .int .i64 gi, .int .i64 z, .int .i64 s, .int .i64 a, .string (bs l), .string (bs us), .string (bs gr), .int .i64 mj, .int .i64 mn, .string (bs d), .slice A1 mp.length c1], .agg #[.string (bs n'), .int .u8 k', .int .i64 md', .int .i64 ui', .int .i64 gi', .int .i64 z', .int .i64 s', .int .i64 a', .string (bs l'), .string (bs us'), .string (bs gr'), .int .i64 mj', .int .i64 mn', .string (bs d'), .slice A2 mp'.length c2]] w fun r w' => r = .returned (.bool (false)) ∧ Below w.heap.size w w' := by
  obtain ⟨W, hW⟩ : ∃ W, W = (w.alloc (.cells #[.string (bs n), .int .u8 k, .int .i64 md, .int .i64 ui, .int .i64 gi, .int .i64 z, .int .i64 s, .int .i64 a, .string (bs l), .string (bs us), .string (bs gr), .int .i64 mj, .int .i64 mn, .string (bs d), .slice A1 mp.length c1] 26)).alloc (.cells #[.string (bs n'), .int .u8 k', .int .i64 md', .int .i64 ui', .int .i64 gi', .int .i64 z', .int .i64 s', .int .i64 a', .string (bs l'), .string (bs us'), .string (bs gr'), .int .i64 mj', .int .i64 mn', .string (bs d'), .slice A2 mp'.length c2] 26) := ⟨_, rfl⟩
  have HB0 := Lib.hid (show Below w.heap.size w W by rw [hW]; exact ((Below.refl _ _).alloc (Nat.le_refl _) _).alloc (by simp) _)
  have K1 := Lib.hid (show Blk W w.heap.size 26 #[.string (bs n), .int .u8 k, .int .i64 md, .int .i64 ui, .int .i64 gi, .int .i64 z, .int .i64 s, .int .i64 a, .string (bs l), .string (bs us), .string (bs gr), .int .i64 mj, .int .i64 mn, .string (bs d), .slice A1 mp.length c1] by rw [hW]; exact (Blk.new w 26 _).alloc _)
  have K2 := Lib.hid (show Blk W (w.heap.size + 1) 26 #[.string (bs n'), .int .u8 k', .int .i64 md', .int .i64 ui', .int .i64 gi', .int .i64 z', .int .i64 s', .int .i64 a', .string (bs l'), .string (bs us'), .string (bs gr'), .int .i64 mj', .int .i64 mn', .string (bs d'), .slice A2 mp'.length c2] by
    have := Blk.new (w.alloc (.cells #[.string (bs n), .int .u8 k, .int .i64 md, .int .i64 ui, .int .i64 gi, .int .i64 z, .int .i64 s, .int .i64 a, .string (bs l), .string (bs us), .string (bs gr), .int .i64 mj, .int .i64 mn, .string (bs d), .slice A1 mp.length c1] 26)) 26 #[.string (bs n'), .int .u8 k', .int .i64 md', .int .i64 ui', .int .i64 gi', .int .i64 z', .int .i64 s', .int .i64 a', .string (bs l'), .string (bs us'), .string (bs gr'), .int .i64 mj', .int .i64 mn', .string (bs d'), .slice A2 mp'.length c2]
    rw [show (w.alloc (.cells #[.string (bs n), .int .u8 k, .int .i64 md, .int .i64 ui, .int .i64 gi, .int .i64 z, .int .i64 s, .int .i64 a, .string (bs l), .string (bs us), .string (bs gr), .int .i64 mj, .int .i64 mn, .string (bs d), .slice A1 mp.length c1] 26)).heap.size = w.heap.size + 1 by simp] at this
    rw [hW]; exact this)
  have HW := Lib.hid hW
  have l1 := K1.out.lt
  have l2 := K2.out.lt
  have x0 : W.cell? ⟨w.heap.size, 0, none⟩ = some (.string (bs n)) := K1.out.cell 0
  have y0 : W.cell? ⟨w.heap.size + 1, 0, none⟩ = some (.string (bs n')) := K2.out.cell 0
  have hs := strNe hne
  clear hW hne
  go_enter Tryz.func19, Tryz.ntmps19
  go_wp2_with fail
  go_ret
  exact ⟨rfl, by rw [← HW.out]; exact HB0.out⟩

set_option maxRecDepth 100000 in
set_option maxHeartbeats 8000000 in
theorem same_1 (n : List UInt8) (k : Nat) (md : Int) (ui : Int) (gi : Int) (z : Int) (s : Int) (a : Int) (l : List UInt8) (us : List UInt8) (gr : List UInt8) (mj : Int) (mn : Int) (d : List UInt8) (k' : Nat) (md' : Int) (ui' : Int) (gi' : Int) (z' : Int) (s' : Int) (a' : Int) (l' : List UInt8) (us' : List UInt8) (gr' : List UInt8) (mj' : Int) (mn' : Int) (d' : List UInt8) (mp mp' : List (Int × Int)) (A1 A2 : Option Addr) (c1 c2 : Nat) (w : World) (hne : ((k : Int) == (k' : Int)) = false) :
    Calls Tryz.prog 19 #[.agg #[.string (bs n), .int .u8 k, .int .i64 md, .int .i64 ui, .int .i64 gi, .int .i64 z, .int .i64 s, .int .i64 a, .string (bs l), .string (bs us), .string (bs gr), .int .i64 mj, .int .i64 mn, .string (bs d), .slice A1 mp.length c1], .agg #[.string (bs n), .int .u8 k', .int .i64 md', .int .i64 ui', .int .i64 gi', .int .i64 z', .int .i64 s', .int .i64 a', .string (bs l'), .string (bs us'), .string (bs gr'), .int .i64 mj', .int .i64 mn', .string (bs d'), .slice A2 mp'.length c2]] w fun r w' => r = .returned (.bool (false)) ∧ Below w.heap.size w w' := by
  obtain ⟨W, hW⟩ : ∃ W, W = (w.alloc (.cells #[.string (bs n), .int .u8 k, .int .i64 md, .int .i64 ui, .int .i64 gi, .int .i64 z, .int .i64 s, .int .i64 a, .string (bs l), .string (bs us), .string (bs gr), .int .i64 mj, .int .i64 mn, .string (bs d), .slice A1 mp.length c1] 26)).alloc (.cells #[.string (bs n), .int .u8 k', .int .i64 md', .int .i64 ui', .int .i64 gi', .int .i64 z', .int .i64 s', .int .i64 a', .string (bs l'), .string (bs us'), .string (bs gr'), .int .i64 mj', .int .i64 mn', .string (bs d'), .slice A2 mp'.length c2] 26) := ⟨_, rfl⟩
  have HB0 := Lib.hid (show Below w.heap.size w W by rw [hW]; exact ((Below.refl _ _).alloc (Nat.le_refl _) _).alloc (by simp) _)
  have K1 := Lib.hid (show Blk W w.heap.size 26 #[.string (bs n), .int .u8 k, .int .i64 md, .int .i64 ui, .int .i64 gi, .int .i64 z, .int .i64 s, .int .i64 a, .string (bs l), .string (bs us), .string (bs gr), .int .i64 mj, .int .i64 mn, .string (bs d), .slice A1 mp.length c1] by rw [hW]; exact (Blk.new w 26 _).alloc _)
  have K2 := Lib.hid (show Blk W (w.heap.size + 1) 26 #[.string (bs n), .int .u8 k', .int .i64 md', .int .i64 ui', .int .i64 gi', .int .i64 z', .int .i64 s', .int .i64 a', .string (bs l'), .string (bs us'), .string (bs gr'), .int .i64 mj', .int .i64 mn', .string (bs d'), .slice A2 mp'.length c2] by
    have := Blk.new (w.alloc (.cells #[.string (bs n), .int .u8 k, .int .i64 md, .int .i64 ui, .int .i64 gi, .int .i64 z, .int .i64 s, .int .i64 a, .string (bs l), .string (bs us), .string (bs gr), .int .i64 mj, .int .i64 mn, .string (bs d), .slice A1 mp.length c1] 26)) 26 #[.string (bs n), .int .u8 k', .int .i64 md', .int .i64 ui', .int .i64 gi', .int .i64 z', .int .i64 s', .int .i64 a', .string (bs l'), .string (bs us'), .string (bs gr'), .int .i64 mj', .int .i64 mn', .string (bs d'), .slice A2 mp'.length c2]
    rw [show (w.alloc (.cells #[.string (bs n), .int .u8 k, .int .i64 md, .int .i64 ui, .int .i64 gi, .int .i64 z, .int .i64 s, .int .i64 a, .string (bs l), .string (bs us), .string (bs gr), .int .i64 mj, .int .i64 mn, .string (bs d), .slice A1 mp.length c1] 26)).heap.size = w.heap.size + 1 by simp] at this
    rw [hW]; exact this)
  have HW := Lib.hid hW
  have l1 := K1.out.lt
  have l2 := K2.out.lt
  have x0 : W.cell? ⟨w.heap.size, 0, none⟩ = some (.string (bs n)) := K1.out.cell 0
  have y0 : W.cell? ⟨w.heap.size + 1, 0, none⟩ = some (.string (bs n)) := K2.out.cell 0
  have x1 : W.cell? ⟨w.heap.size, 1, none⟩ = some (.int .u8 k) := K1.out.cell 1
  have y1 : W.cell? ⟨w.heap.size + 1, 1, none⟩ = some (.int .u8 k') := K2.out.cell 1
  clear hW
  go_enter Tryz.func19, Tryz.ntmps19
  go_wp2_with fail
  go_ret
  exact ⟨rfl, by rw [← HW.out]; exact HB0.out⟩

set_option maxRecDepth 100000 in
set_option maxHeartbeats 8000000 in
theorem same_2 (n : List UInt8) (k : Nat) (md : Int) (ui : Int) (gi : Int) (z : Int) (s : Int) (a : Int) (l : List UInt8) (us : List UInt8) (gr : List UInt8) (mj : Int) (mn : Int) (d : List UInt8) (md' : Int) (ui' : Int) (gi' : Int) (z' : Int) (s' : Int) (a' : Int) (l' : List UInt8) (us' : List UInt8) (gr' : List UInt8) (mj' : Int) (mn' : Int) (d' : List UInt8) (mp mp' : List (Int × Int)) (A1 A2 : Option Addr) (c1 c2 : Nat) (w : World) (hne : ((md : Int) == (md' : Int)) = false) :
    Calls Tryz.prog 19 #[.agg #[.string (bs n), .int .u8 k, .int .i64 md, .int .i64 ui, .int .i64 gi, .int .i64 z, .int .i64 s, .int .i64 a, .string (bs l), .string (bs us), .string (bs gr), .int .i64 mj, .int .i64 mn, .string (bs d), .slice A1 mp.length c1], .agg #[.string (bs n), .int .u8 k, .int .i64 md', .int .i64 ui', .int .i64 gi', .int .i64 z', .int .i64 s', .int .i64 a', .string (bs l'), .string (bs us'), .string (bs gr'), .int .i64 mj', .int .i64 mn', .string (bs d'), .slice A2 mp'.length c2]] w fun r w' => r = .returned (.bool (false)) ∧ Below w.heap.size w w' := by
  obtain ⟨W, hW⟩ : ∃ W, W = (w.alloc (.cells #[.string (bs n), .int .u8 k, .int .i64 md, .int .i64 ui, .int .i64 gi, .int .i64 z, .int .i64 s, .int .i64 a, .string (bs l), .string (bs us), .string (bs gr), .int .i64 mj, .int .i64 mn, .string (bs d), .slice A1 mp.length c1] 26)).alloc (.cells #[.string (bs n), .int .u8 k, .int .i64 md', .int .i64 ui', .int .i64 gi', .int .i64 z', .int .i64 s', .int .i64 a', .string (bs l'), .string (bs us'), .string (bs gr'), .int .i64 mj', .int .i64 mn', .string (bs d'), .slice A2 mp'.length c2] 26) := ⟨_, rfl⟩
  have HB0 := Lib.hid (show Below w.heap.size w W by rw [hW]; exact ((Below.refl _ _).alloc (Nat.le_refl _) _).alloc (by simp) _)
  have K1 := Lib.hid (show Blk W w.heap.size 26 #[.string (bs n), .int .u8 k, .int .i64 md, .int .i64 ui, .int .i64 gi, .int .i64 z, .int .i64 s, .int .i64 a, .string (bs l), .string (bs us), .string (bs gr), .int .i64 mj, .int .i64 mn, .string (bs d), .slice A1 mp.length c1] by rw [hW]; exact (Blk.new w 26 _).alloc _)
  have K2 := Lib.hid (show Blk W (w.heap.size + 1) 26 #[.string (bs n), .int .u8 k, .int .i64 md', .int .i64 ui', .int .i64 gi', .int .i64 z', .int .i64 s', .int .i64 a', .string (bs l'), .string (bs us'), .string (bs gr'), .int .i64 mj', .int .i64 mn', .string (bs d'), .slice A2 mp'.length c2] by
    have := Blk.new (w.alloc (.cells #[.string (bs n), .int .u8 k, .int .i64 md, .int .i64 ui, .int .i64 gi, .int .i64 z, .int .i64 s, .int .i64 a, .string (bs l), .string (bs us), .string (bs gr), .int .i64 mj, .int .i64 mn, .string (bs d), .slice A1 mp.length c1] 26)) 26 #[.string (bs n), .int .u8 k, .int .i64 md', .int .i64 ui', .int .i64 gi', .int .i64 z', .int .i64 s', .int .i64 a', .string (bs l'), .string (bs us'), .string (bs gr'), .int .i64 mj', .int .i64 mn', .string (bs d'), .slice A2 mp'.length c2]
    rw [show (w.alloc (.cells #[.string (bs n), .int .u8 k, .int .i64 md, .int .i64 ui, .int .i64 gi, .int .i64 z, .int .i64 s, .int .i64 a, .string (bs l), .string (bs us), .string (bs gr), .int .i64 mj, .int .i64 mn, .string (bs d), .slice A1 mp.length c1] 26)).heap.size = w.heap.size + 1 by simp] at this
    rw [hW]; exact this)
  have HW := Lib.hid hW
  have l1 := K1.out.lt
  have l2 := K2.out.lt
  have x0 : W.cell? ⟨w.heap.size, 0, none⟩ = some (.string (bs n)) := K1.out.cell 0
  have y0 : W.cell? ⟨w.heap.size + 1, 0, none⟩ = some (.string (bs n)) := K2.out.cell 0
  have x1 : W.cell? ⟨w.heap.size, 1, none⟩ = some (.int .u8 k) := K1.out.cell 1
  have y1 : W.cell? ⟨w.heap.size + 1, 1, none⟩ = some (.int .u8 k) := K2.out.cell 1
  have x2 : W.cell? ⟨w.heap.size, 2, none⟩ = some (.int .i64 md) := K1.out.cell 2
  have y2 : W.cell? ⟨w.heap.size + 1, 2, none⟩ = some (.int .i64 md') := K2.out.cell 2
  clear hW
  go_enter Tryz.func19, Tryz.ntmps19
  go_wp2_with fail
  go_ret
  exact ⟨rfl, by rw [← HW.out]; exact HB0.out⟩

set_option maxRecDepth 100000 in
set_option maxHeartbeats 8000000 in
theorem same_3 (n : List UInt8) (k : Nat) (md : Int) (ui : Int) (gi : Int) (z : Int) (s : Int) (a : Int) (l : List UInt8) (us : List UInt8) (gr : List UInt8) (mj : Int) (mn : Int) (d : List UInt8) (ui' : Int) (gi' : Int) (z' : Int) (s' : Int) (a' : Int) (l' : List UInt8) (us' : List UInt8) (gr' : List UInt8) (mj' : Int) (mn' : Int) (d' : List UInt8) (mp mp' : List (Int × Int)) (A1 A2 : Option Addr) (c1 c2 : Nat) (w : World) (hne : ((ui : Int) == (ui' : Int)) = false) :
    Calls Tryz.prog 19 #[.agg #[.string (bs n), .int .u8 k, .int .i64 md, .int .i64 ui, .int .i64 gi, .int .i64 z, .int .i64 s, .int .i64 a, .string (bs l), .string (bs us), .string (bs gr), .int .i64 mj, .int .i64 mn, .string (bs d), .slice A1 mp.length c1], .agg #[.string (bs n), .int .u8 k, .int .i64 md, .int .i64 ui', .int .i64 gi', .int .i64 z', .int .i64 s', .int .i64 a', .string (bs l'), .string (bs us'), .string (bs gr'), .int .i64 mj', .int .i64 mn', .string (bs d'), .slice A2 mp'.length c2]] w fun r w' => r = .returned (.bool (false)) ∧ Below w.heap.size w w' := by
  obtain ⟨W, hW⟩ : ∃ W, W = (w.alloc (.cells #[.string (bs n), .int .u8 k, .int .i64 md, .int .i64 ui, .int .i64 gi, .int .i64 z, .int .i64 s, .int .i64 a, .string (bs l), .string (bs us), .string (bs gr), .int .i64 mj, .int .i64 mn, .string (bs d), .slice A1 mp.length c1] 26)).alloc (.cells #[.string (bs n), .int .u8 k, .int .i64 md, .int .i64 ui', .int .i64 gi', .int .i64 z', .int .i64 s', .int .i64 a', .string (bs l'), .string (bs us'), .string (bs gr'), .int .i64 mj', .int .i64 mn', .string (bs d'), .slice A2 mp'.length c2] 26) := ⟨_, rfl⟩
  have HB0 := Lib.hid (show Below w.heap.size w W by rw [hW]; exact ((Below.refl _ _).alloc (Nat.le_refl _) _).alloc (by simp) _)
  have K1 := Lib.hid (show Blk W w.heap.size 26 #[.string (bs n), .int .u8 k, .int .i64 md, .int .i64 ui, .int .i64 gi, .int .i64 z, .int .i64 s, .int .i64 a, .string (bs l), .string (bs us), .string (bs gr), .int .i64 mj, .int .i64 mn, .string (bs d), .slice A1 mp.length c1] by rw [hW]; exact (Blk.new w 26 _).alloc _)
  have K2 := Lib.hid (show Blk W (w.heap.size + 1) 26 #[.string (bs n), .int .u8 k, .int .i64 md, .int .i64 ui', .int .i64 gi', .int .i64 z', .int .i64 s', .int .i64 a', .string (bs l'), .string (bs us'), .string (bs gr'), .int .i64 mj', .int .i64 mn', .string (bs d'), .slice A2 mp'.length c2] by
    have := Blk.new (w.alloc (.cells #[.string (bs n), .int .u8 k, .int .i64 md, .int .i64 ui, .int .i64 gi, .int .i64 z, .int .i64 s, .int .i64 a, .string (bs l), .string (bs us), .string (bs gr), .int .i64 mj, .int .i64 mn, .string (bs d), .slice A1 mp.length c1] 26)) 26 #[.string (bs n), .int .u8 k, .int .i64 md, .int .i64 ui', .int .i64 gi', .int .i64 z', .int .i64 s', .int .i64 a', .string (bs l'), .string (bs us'), .string (bs gr'), .int .i64 mj', .int .i64 mn', .string (bs d'), .slice A2 mp'.length c2]
    rw [show (w.alloc (.cells #[.string (bs n), .int .u8 k, .int .i64 md, .int .i64 ui, .int .i64 gi, .int .i64 z, .int .i64 s, .int .i64 a, .string (bs l), .string (bs us), .string (bs gr), .int .i64 mj, .int .i64 mn, .string (bs d), .slice A1 mp.length c1] 26)).heap.size = w.heap.size + 1 by simp] at this
    rw [hW]; exact this)
  have HW := Lib.hid hW
  have l1 := K1.out.lt
  have l2 := K2.out.lt
  have x0 : W.cell? ⟨w.heap.size, 0, none⟩ = some (.string (bs n)) := K1.out.cell 0
  have y0 : W.cell? ⟨w.heap.size + 1, 0, none⟩ = some (.string (bs n)) := K2.out.cell 0
  have x1 : W.cell? ⟨w.heap.size, 1, none⟩ = some (.int .u8 k) := K1.out.cell 1
  have y1 : W.cell? ⟨w.heap.size + 1, 1, none⟩ = some (.int .u8 k) := K2.out.cell 1
  have x2 : W.cell? ⟨w.heap.size, 2, none⟩ = some (.int .i64 md) := K1.out.cell 2
  have y2 : W.cell? ⟨w.heap.size + 1, 2, none⟩ = some (.int .i64 md) := K2.out.cell 2
  have x3 : W.cell? ⟨w.heap.size, 3, none⟩ = some (.int .i64 ui) := K1.out.cell 3
  have y3 : W.cell? ⟨w.heap.size + 1, 3, none⟩ = some (.int .i64 ui') := K2.out.cell 3
  clear hW
  go_enter Tryz.func19, Tryz.ntmps19
  go_wp2_with fail
  go_ret
  exact ⟨rfl, by rw [← HW.out]; exact HB0.out⟩

set_option maxRecDepth 100000 in
set_option maxHeartbeats 8000000 in
theorem same_4 (n : List UInt8) (k : Nat) (md : Int) (ui : Int) (gi : Int) (z : Int) (s : Int) (a : Int) (l : List UInt8) (us : List UInt8) (gr : List UInt8) (mj : Int) (mn : Int) (d : List UInt8) (gi' : Int) (z' : Int) (s' : Int) (a' : Int) (l' : List UInt8) (us' : List UInt8) (gr' : List UInt8) (mj' : Int) (mn' : Int) (d' : List UInt8) (mp mp' : List (Int × Int)) (A1 A2 : Option Addr) (c1 c2 : Nat) (w : World) (hne : ((gi : Int) == (gi' : Int)) = false) :
    Calls Tryz.prog 19 #[.agg #[.string (bs n), .int .u8 k, .int .i64 md, .int .i64 ui, .int .i64 gi, .int .i64 z, .int .i64 s, .int .i64 a, .string (bs l), .string (bs us), .string (bs gr), .int .i64 mj, .int .i64 mn, .string (bs d), .slice A1 mp.length c1], .agg #[.string (bs n), .int .u8 k, .int .i64 md, .int .i64 ui, .int .i64 gi', .int .i64 z', .int .i64 s', .int .i64 a', .string (bs l'), .string (bs us'), .string (bs gr'), .int .i64 mj', .int .i64 mn', .string (bs d'), .slice A2 mp'.length c2]] w fun r w' => r = .returned (.bool (false)) ∧ Below w.heap.size w w' := by
  obtain ⟨W, hW⟩ : ∃ W, W = (w.alloc (.cells #[.string (bs n), .int .u8 k, .int .i64 md, .int .i64 ui, .int .i64 gi, .int .i64 z, .int .i64 s, .int .i64 a, .string (bs l), .string (bs us), .string (bs gr), .int .i64 mj, .int .i64 mn, .string (bs d), .slice A1 mp.length c1] 26)).alloc (.cells #[.string (bs n), .int .u8 k, .int .i64 md, .int .i64 ui, .int .i64 gi', .int .i64 z', .int .i64 s', .int .i64 a', .string (bs l'), .string (bs us'), .string (bs gr'), .int .i64 mj', .int .i64 mn', .string (bs d'), .slice A2 mp'.length c2] 26) := ⟨_, rfl⟩
  have HB0 := Lib.hid (show Below w.heap.size w W by rw [hW]; exact ((Below.refl _ _).alloc (Nat.le_refl _) _).alloc (by simp) _)
  have K1 := Lib.hid (show Blk W w.heap.size 26 #[.string (bs n), .int .u8 k, .int .i64 md, .int .i64 ui, .int .i64 gi, .int .i64 z, .int .i64 s, .int .i64 a, .string (bs l), .string (bs us), .string (bs gr), .int .i64 mj, .int .i64 mn, .string (bs d), .slice A1 mp.length c1] by rw [hW]; exact (Blk.new w 26 _).alloc _)
  have K2 := Lib.hid (show Blk W (w.heap.size + 1) 26 #[.string (bs n), .int .u8 k, .int .i64 md, .int .i64 ui, .int .i64 gi', .int .i64 z', .int .i64 s', .int .i64 a', .string (bs l'), .string (bs us'), .string (bs gr'), .int .i64 mj', .int .i64 mn', .string (bs d'), .slice A2 mp'.length c2] by
    have := Blk.new (w.alloc (.cells #[.string (bs n), .int .u8 k, .int .i64 md, .int .i64 ui, .int .i64 gi, .int .i64 z, .int .i64 s, .int .i64 a, .string (bs l), .string (bs us), .string (bs gr), .int .i64 mj, .int .i64 mn, .string (bs d), .slice A1 mp.length c1] 26)) 26 #[.string (bs n), .int .u8 k, .int .i64 md, .int .i64 ui, .int .i64 gi', .int .i64 z', .int .i64 s', .int .i64 a', .string (bs l'), .string (bs us'), .string (bs gr'), .int .i64 mj', .int .i64 mn', .string (bs d'), .slice A2 mp'.length c2]
    rw [show (w.alloc (.cells #[.string (bs n), .int .u8 k, .int .i64 md, .int .i64 ui, .int .i64 gi, .int .i64 z, .int .i64 s, .int .i64 a, .string (bs l), .string (bs us), .string (bs gr), .int .i64 mj, .int .i64 mn, .string (bs d), .slice A1 mp.length c1] 26)).heap.size = w.heap.size + 1 by simp] at this
    rw [hW]; exact this)
  have HW := Lib.hid hW
  have l1 := K1.out.lt
  have l2 := K2.out.lt
  have x0 : W.cell? ⟨w.heap.size, 0, none⟩ = some (.string (bs n)) := K1.out.cell 0
  have y0 : W.cell? ⟨w.heap.size + 1, 0, none⟩ = some (.string (bs n)) := K2.out.cell 0
  have x1 : W.cell? ⟨w.heap.size, 1, none⟩ = some (.int .u8 k) := K1.out.cell 1
  have y1 : W.cell? ⟨w.heap.size + 1, 1, none⟩ = some (.int .u8 k) := K2.out.cell 1
  have x2 : W.cell? ⟨w.heap.size, 2, none⟩ = some (.int .i64 md) := K1.out.cell 2
  have y2 : W.cell? ⟨w.heap.size + 1, 2, none⟩ = some (.int .i64 md) := K2.out.cell 2
  have x3 : W.cell? ⟨w.heap.size, 3, none⟩ = some (.int .i64 ui) := K1.out.cell 3
  have y3 : W.cell? ⟨w.heap.size + 1, 3, none⟩ = some (.int .i64 ui) := K2.out.cell 3
  have x4 : W.cell? ⟨w.heap.size, 4, none⟩ = some (.int .i64 gi) := K1.out.cell 4
  have y4 : W.cell? ⟨w.heap.size + 1, 4, none⟩ = some (.int .i64 gi') := K2.out.cell 4
  clear hW
  go_enter Tryz.func19, Tryz.ntmps19
  go_wp2_with fail
  go_ret
  exact ⟨rfl, by rw [← HW.out]; exact HB0.out⟩

set_option maxRecDepth 100000 in
set_option maxHeartbeats 8000000 in
theorem same_5 (n : List UInt8) (k : Nat) (md : Int) (ui : Int) (gi : Int) (z : Int) (s : Int) (a : Int) (l : List UInt8) (us : List UInt8) (gr : List UInt8) (mj : Int) (mn : Int) (d : List UInt8) (z' : Int) (s' : Int) (a' : Int) (l' : List UInt8) (us' : List UInt8) (gr' : List UInt8) (mj' : Int) (mn' : Int) (d' : List UInt8) (mp mp' : List (Int × Int)) (A1 A2 : Option Addr) (c1 c2 : Nat) (w : World) (hne : ((z : Int) == (z' : Int)) = false) :
    Calls Tryz.prog 19 #[.agg #[.string (bs n), .int .u8 k, .int .i64 md, .int .i64 ui, .int .i64 gi, .int .i64 z, .int .i64 s, .int .i64 a, .string (bs l), .string (bs us), .string (bs gr), .int .i64 mj, .int .i64 mn, .string (bs d), .slice A1 mp.length c1], .agg #[.string (bs n), .int .u8 k, .int .i64 md, .int .i64 ui, .int .i64 gi, .int .i64 z', .int .i64 s', .int .i64 a', .string (bs l'), .string (bs us'), .string (bs gr'), .int .i64 mj', .int .i64 mn', .string (bs d'), .slice A2 mp'.length c2]] w fun r w' => r = .returned (.bool (false)) ∧ Below w.heap.size w w' := by
  obtain ⟨W, hW⟩ : ∃ W, W = (w.alloc (.cells #[.string (bs n), .int .u8 k, .int .i64 md, .int .i64 ui, .int .i64 gi, .int .i64 z, .int .i64 s, .int .i64 a, .string (bs l), .string (bs us), .string (bs gr), .int .i64 mj, .int .i64 mn, .string (bs d), .slice A1 mp.length c1] 26)).alloc (.cells #[.string (bs n), .int .u8 k, .int .i64 md, .int .i64 ui, .int .i64 gi, .int .i64 z', .int .i64 s', .int .i64 a', .string (bs l'), .string (bs us'), .string (bs gr'), .int .i64 mj', .int .i64 mn', .string (bs d'), .slice A2 mp'.length c2] 26) := ⟨_, rfl⟩
  have HB0 := Lib.hid (show Below w.heap.size w W by rw [hW]; exact ((Below.refl _ _).alloc (Nat.le_refl _) _).alloc (by simp) _)
  have K1 := Lib.hid (show Blk W w.heap.size 26 #[.string (bs n), .int .u8 k, .int .i64 md, .int .i64 ui, .int .i64 gi, .int .i64 z, .int .i64 s, .int .i64 a, .string (bs l), .string (bs us), .string (bs gr), .int .i64 mj, .int .i64 mn, .string (bs d), .slice A1 mp.length c1] by rw [hW]; exact (Blk.new w 26 _).alloc _)
  have K2 := Lib.hid (show Blk W (w.heap.size + 1) 26 #[.string (bs n), .int .u8 k, .int .i64 md, .int .i64 ui, .int .i64 gi, .int .i64 z', .int .i64 s', .int .i64 a', .string (bs l'), .string (bs us'), .string (bs gr'), .int .i64 mj', .int .i64 mn', .string (bs d'), .slice A2 mp'.length c2] by
    have := Blk.new (w.alloc (.cells #[.string (bs n), .int .u8 k, .int .i64 md, .int .i64 ui, .int .i64 gi, .int .i64 z, .int .i64 s, .int .i64 a, .string (bs l), .string (bs us), .string (bs gr), .int .i64 mj, .int .i64 mn, .string (bs d), .slice A1 mp.length c1] 26)) 26 #[.string (bs n), .int .u8 k, .int .i64 md, .int .i64 ui, .int .i64 gi, .int .i64 z', .int .i64 s', .int .i64 a', .string (bs l'), .string (bs us'), .string (bs gr'), .int .i64 mj', .int .i64 mn', .string (bs d'), .slice A2 mp'.length c2]
    rw [show (w.alloc (.cells #[.string (bs n), .int .u8 k, .int .i64 md, .int .i64 ui, .int .i64 gi, .int .i64 z, .int .i64 s, .int .i64 a, .string (bs l), .string (bs us), .string (bs gr), .int .i64 mj, .int .i64 mn, .string (bs d), .slice A1 mp.length c1] 26)).heap.size = w.heap.size + 1 by simp] at this
    rw [hW]; exact this)
  have HW := Lib.hid hW
  have l1 := K1.out.lt
  have l2 := K2.out.lt
  have x0 : W.cell? ⟨w.heap.size, 0, none⟩ = some (.string (bs n)) := K1.out.cell 0
  have y0 : W.cell? ⟨w.heap.size + 1, 0, none⟩ = some (.string (bs n)) := K2.out.cell 0
  have x1 : W.cell? ⟨w.heap.size, 1, none⟩ = some (.int .u8 k) := K1.out.cell 1
  have y1 : W.cell? ⟨w.heap.size + 1, 1, none⟩ = some (.int .u8 k) := K2.out.cell 1
  have x2 : W.cell? ⟨w.heap.size, 2, none⟩ = some (.int .i64 md) := K1.out.cell 2
  have y2 : W.cell? ⟨w.heap.size + 1, 2, none⟩ = some (.int .i64 md) := K2.out.cell 2
  have x3 : W.cell? ⟨w.heap.size, 3, none⟩ = some (.int .i64 ui) := K1.out.cell 3
  have y3 : W.cell? ⟨w.heap.size + 1, 3, none⟩ = some (.int .i64 ui) := K2.out.cell 3
  have x4 : W.cell? ⟨w.heap.size, 4, none⟩ = some (.int .i64 gi) := K1.out.cell 4
  have y4 : W.cell? ⟨w.heap.size + 1, 4, none⟩ = some (.int .i64 gi) := K2.out.cell 4
  have x5 : W.cell? ⟨w.heap.size, 5, none⟩ = some (.int .i64 z) := K1.out.cell 5
  have y5 : W.cell? ⟨w.heap.size + 1, 5, none⟩ = some (.int .i64 z') := K2.out.cell 5
  clear hW
  go_enter Tryz.func19, Tryz.ntmps19
  go_wp2_with fail
  go_ret
  exact ⟨rfl, by rw [← HW.out]; exact HB0.out⟩

set_option maxRecDepth 100000 in
set_option maxHeartbeats 8000000 in
theorem same_6 (n : List UInt8) (k : Nat) (md : Int) (ui : Int) (gi : Int) (z : Int) (s : Int) (a : Int) (l : List UInt8) (us : List UInt8) (gr : List UInt8) (mj : Int) (mn : Int) (d : List UInt8) (s' : Int) (a' : Int) (l' : List UInt8) (us' : List UInt8) (gr' : List UInt8) (mj' : Int) (mn' : Int) (d' : List UInt8) (mp mp' : List (Int × Int)) (A1 A2 : Option Addr) (c1 c2 : Nat) (w : World) (hne : (s == s' && a == a') = false) :
    Calls Tryz.prog 19 #[.agg #[.string (bs n), .int .u8 k, .int .i64 md, .int .i64 ui, .int .i64 gi, .int .i64 z, .int .i64 s, .int .i64 a, .string (bs l), .string (bs us), .string (bs gr), .int .i64 mj, .int .i64 mn, .string (bs d), .slice A1 mp.length c1], .agg #[.string (bs n), .int .u8 k, .int .i64 md, .int .i64 ui, .int .i64 gi, .int .i64 z, .int .i64 s', .int .i64 a', .string (bs l'), .string (bs us'), .string (bs gr'), .int .i64 mj', .int .i64 mn', .string (bs d'), .slice A2 mp'.length c2]] w fun r w' => r = .returned (.bool (false)) ∧ Below w.heap.size w w' := by
  obtain ⟨W, hW⟩ : ∃ W, W = (w.alloc (.cells #[.string (bs n), .int .u8 k, .int .i64 md, .int .i64 ui, .int .i64 gi, .int .i64 z, .int .i64 s, .int .i64 a, .string (bs l), .string (bs us), .string (bs gr), .int .i64 mj, .int .i64 mn, .string (bs d), .slice A1 mp.length c1] 26)).alloc (.cells #[.string (bs n), .int .u8 k, .int .i64 md, .int .i64 ui, .int .i64 gi, .int .i64 z, .int .i64 s', .int .i64 a', .string (bs l'), .string (bs us'), .string (bs gr'), .int .i64 mj', .int .i64 mn', .string (bs d'), .slice A2 mp'.length c2] 26) := ⟨_, rfl⟩
  have HB0 := Lib.hid (show Below w.heap.size w W by rw [hW]; exact ((Below.refl _ _).alloc (Nat.le_refl _) _).alloc (by simp) _)
  have K1 := Lib.hid (show Blk W w.heap.size 26 #[.string (bs n), .int .u8 k, .int .i64 md, .int .i64 ui, .int .i64 gi, .int .i64 z, .int .i64 s, .int .i64 a, .string (bs l), .string (bs us), .string (bs gr), .int .i64 mj, .int .i64 mn, .string (bs d), .slice A1 mp.length c1] by rw [hW]; exact (Blk.new w 26 _).alloc _)
  have K2 := Lib.hid (show Blk W (w.heap.size + 1) 26 #[.string (bs n), .int .u8 k, .int .i64 md, .int .i64 ui, .int .i64 gi, .int .i64 z, .int .i64 s', .int .i64 a', .string (bs l'), .string (bs us'), .string (bs gr'), .int .i64 mj', .int .i64 mn', .string (bs d'), .slice A2 mp'.length c2] by
    have := Blk.new (w.alloc (.cells #[.string (bs n), .int .u8 k, .int .i64 md, .int .i64 ui, .int .i64 gi, .int .i64 z, .int .i64 s, .int .i64 a, .string (bs l), .string (bs us), .string (bs gr), .int .i64 mj, .int .i64 mn, .string (bs d), .slice A1 mp.length c1] 26)) 26 #[.string (bs n), .int .u8 k, .int .i64 md, .int .i64 ui, .int .i64 gi, .int .i64 z, .int .i64 s', .int .i64 a', .string (bs l'), .string (bs us'), .string (bs gr'), .int .i64 mj', .int .i64 mn', .string (bs d'), .slice A2 mp'.length c2]
    rw [show (w.alloc (.cells #[.string (bs n), .int .u8 k, .int .i64 md, .int .i64 ui, .int .i64 gi, .int .i64 z, .int .i64 s, .int .i64 a, .string (bs l), .string (bs us), .string (bs gr), .int .i64 mj, .int .i64 mn, .string (bs d), .slice A1 mp.length c1] 26)).heap.size = w.heap.size + 1 by simp] at this
    rw [hW]; exact this)
  have HW := Lib.hid hW
  have l1 := K1.out.lt
  have l2 := K2.out.lt
  have x0 : W.cell? ⟨w.heap.size, 0, none⟩ = some (.string (bs n)) := K1.out.cell 0
  have y0 : W.cell? ⟨w.heap.size + 1, 0, none⟩ = some (.string (bs n)) := K2.out.cell 0
  have x1 : W.cell? ⟨w.heap.size, 1, none⟩ = some (.int .u8 k) := K1.out.cell 1
  have y1 : W.cell? ⟨w.heap.size + 1, 1, none⟩ = some (.int .u8 k) := K2.out.cell 1
  have x2 : W.cell? ⟨w.heap.size, 2, none⟩ = some (.int .i64 md) := K1.out.cell 2
  have y2 : W.cell? ⟨w.heap.size + 1, 2, none⟩ = some (.int .i64 md) := K2.out.cell 2
  have x3 : W.cell? ⟨w.heap.size, 3, none⟩ = some (.int .i64 ui) := K1.out.cell 3
  have y3 : W.cell? ⟨w.heap.size + 1, 3, none⟩ = some (.int .i64 ui) := K2.out.cell 3
  have x4 : W.cell? ⟨w.heap.size, 4, none⟩ = some (.int .i64 gi) := K1.out.cell 4
  have y4 : W.cell? ⟨w.heap.size + 1, 4, none⟩ = some (.int .i64 gi) := K2.out.cell 4
  have x5 : W.cell? ⟨w.heap.size, 5, none⟩ = some (.int .i64 z) := K1.out.cell 5
  have y5 : W.cell? ⟨w.heap.size + 1, 5, none⟩ = some (.int .i64 z) := K2.out.cell 5
  have x6 : W.cell? ⟨w.heap.size, 6, none⟩ = some (.int .i64 s) := K1.out.cell 6
  have y6 : W.cell? ⟨w.heap.size + 1, 6, none⟩ = some (.int .i64 s') := K2.out.cell 6
  have x7 : W.cell? ⟨w.heap.size, 7, none⟩ = some (.int .i64 a) := K1.out.cell 7
  have y7 : W.cell? ⟨w.heap.size + 1, 7, none⟩ = some (.int .i64 a') := K2.out.cell 7
  have hts : ∀ w : World, (binOp .eql 23 (.agg #[.int .i64 s, .int .i64 a]) (.agg #[.int .i64 s', .int .i64 a'])).run Tryz.prog w = .ok (.bool false) w := fun w => by rw [time_eqB, hne]
  clear hW hne
  go_enter Tryz.func19, Tryz.ntmps19
  go_wp2_with fail
  go_ret
  exact ⟨rfl, by rw [← HW.out]; exact HB0.out⟩

set_option maxRecDepth 100000 in
set_option maxHeartbeats 8000000 in
theorem same_8 (n : List UInt8) (k : Nat) (md : Int) (ui : Int) (gi : Int) (z : Int) (s : Int) (a : Int) (l : List UInt8) (us : List UInt8) (gr : List UInt8) (mj : Int) (mn : Int) (d : List UInt8) (l' : List UInt8) (us' : List UInt8) (gr' : List UInt8) (mj' : Int) (mn' : Int) (d' : List UInt8) (mp mp' : List (Int × Int)) (A1 A2 : Option Addr) (c1 c2 : Nat) (w : World) (hne : l ≠ l') :
    Calls Tryz.prog 19 #[.agg #[.string (bs n), .int .u8 k, .int .i64 md, .int .i64 ui, .int .i64 gi, .int .i64 z, .int .i64 s, .int .i64 a, .string (bs l), .string (bs us), .string (bs gr), .int .i64 mj, .int .i64 mn, .string (bs d), .slice A1 mp.length c1], .agg #[.string (bs n), .int .u8 k, .int .i64 md, .int .i64 ui, .int .i64 gi, .int .i64 z, .int .i64 s, .int .i64 a, .string (bs l'), .string (bs us'), .string (bs gr'), .int .i64 mj', .int .i64 mn', .string (bs d'), .slice A2 mp'.length c2]] w fun r w' => r = .returned (.bool (false)) ∧ Below w.heap.size w w' := by
  obtain ⟨W, hW⟩ : ∃ W, W = (w.alloc (.cells #[.string (bs n), .int .u8 k, .int .i64 md, .int .i64 ui, .int .i64 gi, .int .i64 z, .int .i64 s, .int .i64 a, .string (bs l), .string (bs us), .string (bs gr), .int .i64 mj, .int .i64 mn, .string (bs d), .slice A1 mp.length c1] 26)).alloc (.cells #[.string (bs n), .int .u8 k, .int .i64 md, .int .i64 ui, .int .i64 gi, .int .i64 z, .int .i64 s, .int .i64 a, .string (bs l'), .string (bs us'), .string (bs gr'), .int .i64 mj', .int .i64 mn', .string (bs d'), .slice A2 mp'.length c2] 26) := ⟨_, rfl⟩
  have HB0 := Lib.hid (show Below w.heap.size w W by rw [hW]; exact ((Below.refl _ _).alloc (Nat.le_refl _) _).alloc (by simp) _)
  have K1 := Lib.hid (show Blk W w.heap.size 26 #[.string (bs n), .int .u8 k, .int .i64 md, .int .i64 ui, .int .i64 gi, .int .i64 z, .int .i64 s, .int .i64 a, .string (bs l), .string (bs us), .string (bs gr), .int .i64 mj, .int .i64 mn, .string (bs d), .slice A1 mp.length c1] by rw [hW]; exact (Blk.new w 26 _).alloc _)
  have K2 := Lib.hid (show Blk W (w.heap.size + 1) 26 #[.string (bs n), .int .u8 k, .int .i64 md, .int .i64 ui, .int .i64 gi, .int .i64 z, .int .i64 s, .int .i64 a, .string (bs l'), .string (bs us'), .string (bs gr'), .int .i64 mj', .int .i64 mn', .string (bs d'), .slice A2 mp'.length c2] by
    have := Blk.new (w.alloc (.cells #[.string (bs n), .int .u8 k, .int .i64 md, .int .i64 ui, .int .i64 gi, .int .i64 z, .int .i64 s, .int .i64 a, .string (bs l), .string (bs us), .string (bs gr), .int .i64 mj, .int .i64 mn, .string (bs d), .slice A1 mp.length c1] 26)) 26 #[.string (bs n), .int .u8 k, .int .i64 md, .int .i64 ui, .int .i64 gi, .int .i64 z, .int .i64 s, .int .i64 a, .string (bs l'), .string (bs us'), .string (bs gr'), .int .i64 mj', .int .i64 mn', .string (bs d'), .slice A2 mp'.length c2]
    rw [show (w.alloc (.cells #[.string (bs n), .int .u8 k, .int .i64 md, .int .i64 ui, .int .i64 gi, .int .i64 z, .int .i64 s, .int .i64 a, .string (bs l), .string (bs us), .string (bs gr), .int .i64 mj, .int .i64 mn, .string (bs d), .slice A1 mp.length c1] 26)).heap.size = w.heap.size + 1 by simp] at this
    rw [hW]; exact this)
  have HW := Lib.hid hW
  have l1 := K1.out.lt
  have l2 := K2.out.lt
  have x0 : W.cell? ⟨w.heap.size, 0, none⟩ = some (.string (bs n)) := K1.out.cell 0
  have y0 : W.cell? ⟨w.heap.size + 1, 0, none⟩ = some (.string (bs n)) := K2.out.cell 0
  have x1 : W.cell? ⟨w.heap.size, 1, none⟩ = some (.int .u8 k) := K1.out.cell 1
  have y1 : W.cell? ⟨w.heap.size + 1, 1, none⟩ = some (.int .u8 k) := K2.out.cell 1
  have x2 : W.cell? ⟨w.heap.size, 2, none⟩ = some (.int .i64 md) := K1.out.cell 2
  have y2 : W.cell? ⟨w.heap.size + 1, 2, none⟩ = some (.int .i64 md) := K2.out.cell 2
  have x3 : W.cell? ⟨w.heap.size, 3, none⟩ = some (.int .i64 ui) := K1.out.cell 3
  have y3 : W.cell? ⟨w.heap.size + 1, 3, none⟩ = some (.int .i64 ui) := K2.out.cell 3
  have x4 : W.cell? ⟨w.heap.size, 4, none⟩ = some (.int .i64 gi) := K1.out.cell 4
  have y4 : W.cell? ⟨w.heap.size + 1, 4, none⟩ = some (.int .i64 gi) := K2.out.cell 4
  have x5 : W.cell? ⟨w.heap.size, 5, none⟩ = some (.int .i64 z) := K1.out.cell 5
  have y5 : W.cell? ⟨w.heap.size + 1, 5, none⟩ = some (.int .i64 z) := K2.out.cell 5
  have x6 : W.cell? ⟨w.heap.size, 6, none⟩ = some (.int .i64 s) := K1.out.cell 6
  have y6 : W.cell? ⟨w.heap.size + 1, 6, none⟩ = some (.int .i64 s) := K2.out.cell 6
  have x7 : W.cell? ⟨w.heap.size, 7, none⟩ = some (.int .i64 a) := K1.out.cell 7
  have y7 : W.cell? ⟨w.heap.size + 1, 7, none⟩ = some (.int .i64 a) := K2.out.cell 7
  have x8 : W.cell? ⟨w.heap.size, 8, none⟩ = some (.string (bs l)) := K1.out.cell 8
  have y8 : W.cell? ⟨w.heap.size + 1, 8, none⟩ = some (.string (bs l')) := K2.out.cell 8
  have hs := strNe hne
  have hts : ∀ w : World, (binOp .eql 23 (.agg #[.int .i64 s, .int .i64 a]) (.agg #[.int .i64 s, .int .i64 a])).run Tryz.prog w = .ok (.bool true) w := fun w => time_same w s a
  clear hW hne
  go_enter Tryz.func19, Tryz.ntmps19
  go_wp2_with fail
  go_ret
  exact ⟨rfl, by rw [← HW.out]; exact HB0.out⟩

set_option maxRecDepth 100000 in
set_option maxHeartbeats 8000000 in
theorem same_9 (n : List UInt8) (k : Nat) (md : Int) (ui : Int) (gi : Int) (z : Int) (s : Int) (a : Int) (l : List UInt8) (us : List UInt8) (gr : List UInt8) (mj : Int) (mn : Int) (d : List UInt8) (us' : List UInt8) (gr' : List UInt8) (mj' : Int) (mn' : Int) (d' : List UInt8) (mp mp' : List (Int × Int)) (A1 A2 : Option Addr) (c1 c2 : Nat) (w : World) (hne : us ≠ us') :
    Calls Tryz.prog 19 #[.agg #[.string (bs n), .int .u8 k, .int .i64 md, .int .i64 ui, .int .i64 gi, .int .i64 z, .int .i64 s, .int .i64 a, .string (bs l), .string (bs us), .string (bs gr), .int .i64 mj, .int .i64 mn, .string (bs d), .slice A1 mp.length c1], .agg #[.string (bs n), .int .u8 k, .int .i64 md, .int .i64 ui, .int .i64 gi, .int .i64 z, .int .i64 s, .int .i64 a, .string (bs l), .string (bs us'), .string (bs gr'), .int .i64 mj', .int .i64 mn', .string (bs d'), .slice A2 mp'.length c2]] w fun r w' => r = .returned (.bool (false)) ∧ Below w.heap.size w w' := by
  obtain ⟨W, hW⟩ : ∃ W, W = (w.alloc (.cells #[.string (bs n), .int .u8 k, .int .i64 md, .int .i64 ui, .int .i64 gi, .int .i64 z, .int .i64 s, .int .i64 a, .string (bs l), .string (bs us), .string (bs gr), .int .i64 mj, .int .i64 mn, .string (bs d), .slice A1 mp.length c1] 26)).alloc (.cells #[.string (bs n), .int .u8 k, .int .i64 md, .int .i64 ui, .int .i64 gi, .int .i64 z, .int .i64 s, .int .i64 a, .string (bs l), .string (bs us'), .string (bs gr'), .int .i64 mj', .int .i64 mn', .string (bs d'), .slice A2 mp'.length c2] 26) := ⟨_, rfl⟩
  have HB0 := Lib.hid (show Below w.heap.size w W by rw [hW]; exact ((Below.refl _ _).alloc (Nat.le_refl _) _).alloc (by simp) _)
  have K1 := Lib.hid (show Blk W w.heap.size 26 #[.string (bs n), .int .u8 k, .int .i64 md, .int .i64 ui, .int .i64 gi, .int .i64 z, .int .i64 s, .int .i64 a, .string (bs l), .string (bs us), .string (bs gr), .int .i64 mj, .int .i64 mn, .string (bs d), .slice A1 mp.length c1] by rw [hW]; exact (Blk.new w 26 _).alloc _)
  have K2 := Lib.hid (show Blk W (w.heap.size + 1) 26 #[.string (bs n), .int .u8 k, .int .i64 md, .int .i64 ui, .int .i64 gi, .int .i64 z, .int .i64 s, .int .i64 a, .string (bs l), .string (bs us'), .string (bs gr'), .int .i64 mj', .int .i64 mn', .string (bs d'), .slice A2 mp'.length c2] by
    have := Blk.new (w.alloc (.cells #[.string (bs n), .int .u8 k, .int .i64 md, .int .i64 ui, .int .i64 gi, .int .i64 z, .int .i64 s, .int .i64 a, .string (bs l), .string (bs us), .string (bs gr), .int .i64 mj, .int .i64 mn, .string (bs d), .slice A1 mp.length c1] 26)) 26 #[.string (bs n), .int .u8 k, .int .i64 md, .int .i64 ui, .int .i64 gi, .int .i64 z, .int .i64 s, .int .i64 a, .string (bs l), .string (bs us'), .string (bs gr'), .int .i64 mj', .int .i64 mn', .string (bs d'), .slice A2 mp'.length c2]
    rw [show (w.alloc (.cells #[.string (bs n), .int .u8 k, .int .i64 md, .int .i64 ui, .int .i64 gi, .int .i64 z, .int .i64 s, .int .i64 a, .string (bs l), .string (bs us), .string (bs gr), .int .i64 mj, .int .i64 mn, .string (bs d), .slice A1 mp.length c1] 26)).heap.size = w.heap.size + 1 by simp] at this
    rw [hW]; exact this)
  have HW := Lib.hid hW
  have l1 := K1.out.lt
  have l2 := K2.out.lt
  have x0 : W.cell? ⟨w.heap.size, 0, none⟩ = some (.string (bs n)) := K1.out.cell 0
  have y0 : W.cell? ⟨w.heap.size + 1, 0, none⟩ = some (.string (bs n)) := K2.out.cell 0
  have x1 : W.cell? ⟨w.heap.size, 1, none⟩ = some (.int .u8 k) := K1.out.cell 1
  have y1 : W.cell? ⟨w.heap.size + 1, 1, none⟩ = some (.int .u8 k) := K2.out.cell 1
  have x2 : W.cell? ⟨w.heap.size, 2, none⟩ = some (.int .i64 md) := K1.out.cell 2
  have y2 : W.cell? ⟨w.heap.size + 1, 2, none⟩ = some (.int .i64 md) := K2.out.cell 2
  have x3 : W.cell? ⟨w.heap.size, 3, none⟩ = some (.int .i64 ui) := K1.out.cell 3
  have y3 : W.cell? ⟨w.heap.size + 1, 3, none⟩ = some (.int .i64 ui) := K2.out.cell 3
  have x4 : W.cell? ⟨w.heap.size, 4, none⟩ = some (.int .i64 gi) := K1.out.cell 4
  have y4 : W.cell? ⟨w.heap.size + 1, 4, none⟩ = some (.int .i64 gi) := K2.out.cell 4
  have x5 : W.cell? ⟨w.heap.size, 5, none⟩ = some (.int .i64 z) := K1.out.cell 5
  have y5 : W.cell? ⟨w.heap.size + 1, 5, none⟩ = some (.int .i64 z) := K2.out.cell 5
  have x6 : W.cell? ⟨w.heap.size, 6, none⟩ = some (.int .i64 s) := K1.out.cell 6
  have y6 : W.cell? ⟨w.heap.size + 1, 6, none⟩ = some (.int .i64 s) := K2.out.cell 6
  have x7 : W.cell? ⟨w.heap.size, 7, none⟩ = some (.int .i64 a) := K1.out.cell 7
  have y7 : W.cell? ⟨w.heap.size + 1, 7, none⟩ = some (.int .i64 a) := K2.out.cell 7
  have x8 : W.cell? ⟨w.heap.size, 8, none⟩ = some (.string (bs l)) := K1.out.cell 8
  have y8 : W.cell? ⟨w.heap.size + 1, 8, none⟩ = some (.string (bs l)) := K2.out.cell 8
  have x9 : W.cell? ⟨w.heap.size, 9, none⟩ = some (.string (bs us)) := K1.out.cell 9
  have y9 : W.cell? ⟨w.heap.size + 1, 9, none⟩ = some (.string (bs us')) := K2.out.cell 9
  have hs := strNe hne
  have hts : ∀ w : World, (binOp .eql 23 (.agg #[.int .i64 s, .int .i64 a]) (.agg #[.int .i64 s, .int .i64 a])).run Tryz.prog w = .ok (.bool true) w := fun w => time_same w s a
  clear hW hne
  go_enter Tryz.func19, Tryz.ntmps19
  go_wp2_with fail
  go_ret
  exact ⟨rfl, by rw [← HW.out]; exact HB0.out⟩

set_option maxRecDepth 100000 in
set_option maxHeartbeats 8000000 in
theorem same_10 (n : List UInt8) (k : Nat) (md : Int) (ui : Int) (gi : Int) (z : Int) (s : Int) (a : Int) (l : List UInt8) (us : List UInt8) (gr : List UInt8) (mj : Int) (mn : Int) (d : List UInt8) (gr' : List UInt8) (mj' : Int) (mn' : Int) (d' : List UInt8) (mp mp' : List (Int × Int)) (A1 A2 : Option Addr) (c1 c2 : Nat) (w : World) (hne : gr ≠ gr') :
    Calls Tryz.prog 19 #[.agg #[.string (bs n), .int .u8 k, .int .i64 md, .int .i64 ui, .int .i64 gi, .int .i64 z, .int .i64 s, .int .i64 a, .string (bs l), .string (bs us), .string (bs gr), .int .i64 mj, .int .i64 mn, .string (bs d), .slice A1 mp.length c1], .agg #[.string (bs n), .int .u8 k, .int .i64 md, .int .i64 ui, .int .i64 gi, .int .i64 z, .int .i64 s, .int .i64 a, .string (bs l), .string (bs us), .string (bs gr'), .int .i64 mj', .int .i64 mn', .string (bs d'), .slice A2 mp'.length c2]] w fun r w' => r = .returned (.bool (false)) ∧ Below w.heap.size w w' := by
  obtain ⟨W, hW⟩ : ∃ W, W = (w.alloc (.cells #[.string (bs n), .int .u8 k, .int .i64 md, .int .i64 ui, .int .i64 gi, .int .i64 z, .int .i64 s, .int .i64 a, .string (bs l), .string (bs us), .string (bs gr), .int .i64 mj, .int .i64 mn, .string (bs d), .slice A1 mp.length c1] 26)).alloc (.cells #[.string (bs n), .int .u8 k, .int .i64 md, .int .i64 ui, .int .i64 gi, .int .i64 z, .int .i64 s, .int .i64 a, .string (bs l), .string (bs us), .string (bs gr'), .int .i64 mj', .int .i64 mn', .string (bs d'), .slice A2 mp'.length c2] 26) := ⟨_, rfl⟩
  have HB0 := Lib.hid (show Below w.heap.size w W by rw [hW]; exact ((Below.refl _ _).alloc (Nat.le_refl _) _).alloc (by simp) _)
  have K1 := Lib.hid (show Blk W w.heap.size 26 #[.string (bs n), .int .u8 k, .int .i64 md, .int .i64 ui, .int .i64 gi, .int .i64 z, .int .i64 s, .int .i64 a, .string (bs l), .string (bs us), .string (bs gr), .int .i64 mj, .int .i64 mn, .string (bs d), .slice A1 mp.length c1] by rw [hW]; exact (Blk.new w 26 _).alloc _)
  have K2 := Lib.hid (show Blk W (w.heap.size + 1) 26 #[.string (bs n), .int .u8 k, .int .i64 md, .int .i64 ui, .int .i64 gi, .int .i64 z, .int .i64 s, .int .i64 a, .string (bs l), .string (bs us), .string (bs gr'), .int .i64 mj', .int .i64 mn', .string (bs d'), .slice A2 mp'.length c2] by
    have := Blk.new (w.alloc (.cells #[.string (bs n), .int .u8 k, .int .i64 md, .int .i64 ui, .int .i64 gi, .int .i64 z, .int .i64 s, .int .i64 a, .string (bs l), .string (bs us), .string (bs gr), .int .i64 mj, .int .i64 mn, .string (bs d), .slice A1 mp.length c1] 26)) 26 #[.string (bs n), .int .u8 k, .int .i64 md, .int .i64 ui, .int .i64 gi, .int .i64 z, .int .i64 s, .int .i64 a, .string (bs l), .string (bs us), .string (bs gr'), .int .i64 mj', .int .i64 mn', .string (bs d'), .slice A2 mp'.length c2]
    rw [show (w.alloc (.cells #[.string (bs n), .int .u8 k, .int .i64 md, .int .i64 ui, .int .i64 gi, .int .i64 z, .int .i64 s, .int .i64 a, .string (bs l), .string (bs us), .string (bs gr), .int .i64 mj, .int .i64 mn, .string (bs d), .slice A1 mp.length c1] 26)).heap.size = w.heap.size + 1 by simp] at this
    rw [hW]; exact this)
  have HW := Lib.hid hW
  have l1 := K1.out.lt
  have l2 := K2.out.lt
  have x0 : W.cell? ⟨w.heap.size, 0, none⟩ = some (.string (bs n)) := K1.out.cell 0
  have y0 : W.cell? ⟨w.heap.size + 1, 0, none⟩ = some (.string (bs n)) := K2.out.cell 0
  have x1 : W.cell? ⟨w.heap.size, 1, none⟩ = some (.int .u8 k) := K1.out.cell 1
  have y1 : W.cell? ⟨w.heap.size + 1, 1, none⟩ = some (.int .u8 k) := K2.out.cell 1
  have x2 : W.cell? ⟨w.heap.size, 2, none⟩ = some (.int .i64 md) := K1.out.cell 2
  have y2 : W.cell? ⟨w.heap.size + 1, 2, none⟩ = some (.int .i64 md) := K2.out.cell 2
  have x3 : W.cell? ⟨w.heap.size, 3, none⟩ = some (.int .i64 ui) := K1.out.cell 3
  have y3 : W.cell? ⟨w.heap.size + 1, 3, none⟩ = some (.int .i64 ui) := K2.out.cell 3
  have x4 : W.cell? ⟨w.heap.size, 4, none⟩ = some (.int .i64 gi) := K1.out.cell 4
  have y4 : W.cell? ⟨w.heap.size + 1, 4, none⟩ = some (.int .i64 gi) := K2.out.cell 4
  have x5 : W.cell? ⟨w.heap.size, 5, none⟩ = some (.int .i64 z) := K1.out.cell 5
  have y5 : W.cell? ⟨w.heap.size + 1, 5, none⟩ = some (.int .i64 z) := K2.out.cell 5
  have x6 : W.cell? ⟨w.heap.size, 6, none⟩ = some (.int .i64 s) := K1.out.cell 6
  have y6 : W.cell? ⟨w.heap.size + 1, 6, none⟩ = some (.int .i64 s) := K2.out.cell 6
  have x7 : W.cell? ⟨w.heap.size, 7, none⟩ = some (.int .i64 a) := K1.out.cell 7
  have y7 : W.cell? ⟨w.heap.size + 1, 7, none⟩ = some (.int .i64 a) := K2.out.cell 7
  have x8 : W.cell? ⟨w.heap.size, 8, none⟩ = some (.string (bs l)) := K1.out.cell 8
  have y8 : W.cell? ⟨w.heap.size + 1, 8, none⟩ = some (.string (bs l)) := K2.out.cell 8
  have x9 : W.cell? ⟨w.heap.size, 9, none⟩ = some (.string (bs us)) := K1.out.cell 9
  have y9 : W.cell? ⟨w.heap.size + 1, 9, none⟩ = some (.string (bs us)) := K2.out.cell 9
  have x10 : W.cell? ⟨w.heap.size, 10, none⟩ = some (.string (bs gr)) := K1.out.cell 10
  have y10 : W.cell? ⟨w.heap.size + 1, 10, none⟩ = some (.string (bs gr')) := K2.out.cell 10
  have hs := strNe hne
  have hts : ∀ w : World, (binOp .eql 23 (.agg #[.int .i64 s, .int .i64 a]) (.agg #[.int .i64 s, .int .i64 a])).run Tryz.prog w = .ok (.bool true) w := fun w => time_same w s a
  clear hW hne
  go_enter Tryz.func19, Tryz.ntmps19
  go_wp2_with fail
  go_ret
  exact ⟨rfl, by rw [← HW.out]; exact HB0.out⟩

set_option maxRecDepth 100000 in
set_option maxHeartbeats 8000000 in
theorem same_11 (n : List UInt8) (k : Nat) (md : Int) (ui : Int) (gi : Int) (z : Int) (s : Int) (a : Int) (l : List UInt8) (us : List UInt8) (gr : List UInt8) (mj : Int) (mn : Int) (d : List UInt8) (mj' : Int) (mn' : Int) (d' : List UInt8) (mp mp' : List (Int × Int)) (A1 A2 : Option Addr) (c1 c2 : Nat) (w : World) (hne : ((mj : Int) == (mj' : Int)) = false) :
    Calls Tryz.prog 19 #[.agg #[.string (bs n), .int .u8 k, .int .i64 md, .int .i64 ui, .int .i64 gi, .int .i64 z, .int .i64 s, .int .i64 a, .string (bs l), .string (bs us), .string (bs gr), .int .i64 mj, .int .i64 mn, .string (bs d), .slice A1 mp.length c1], .agg #[.string (bs n), .int .u8 k, .int .i64 md, .int .i64 ui, .int .i64 gi, .int .i64 z, .int .i64 s, .int .i64 a, .string (bs l), .string (bs us), .string (bs gr), .int .i64 mj', .int .i64 mn', .string (bs d'), .slice A2 mp'.length c2]] w fun r w' => r = .returned (.bool (false)) ∧ Below w.heap.size w w' := by
  obtain ⟨W, hW⟩ : ∃ W, W = (w.alloc (.cells #[.string (bs n), .int .u8 k, .int .i64 md, .int .i64 ui, .int .i64 gi, .int .i64 z, .int .i64 s, .int .i64 a, .string (bs l), .string (bs us), .string (bs gr), .int .i64 mj, .int .i64 mn, .string (bs d), .slice A1 mp.length c1] 26)).alloc (.cells #[.string (bs n), .int .u8 k, .int .i64 md, .int .i64 ui, .int .i64 gi, .int .i64 z, .int .i64 s, .int .i64 a, .string (bs l), .string (bs us), .string (bs gr), .int .i64 mj', .int .i64 mn', .string (bs d'), .slice A2 mp'.length c2] 26) := ⟨_, rfl⟩
  have HB0 := Lib.hid (show Below w.heap.size w W by rw [hW]; exact ((Below.refl _ _).alloc (Nat.le_refl _) _).alloc (by simp) _)
  have K1 := Lib.hid (show Blk W w.heap.size 26 #[.string (bs n), .int .u8 k, .int .i64 md, .int .i64 ui, .int .i64 gi, .int .i64 z, .int .i64 s, .int .i64 a, .string (bs l), .string (bs us), .string (bs gr), .int .i64 mj, .int .i64 mn, .string (bs d), .slice A1 mp.length c1] by rw [hW]; exact (Blk.new w 26 _).alloc _)
  have K2 := Lib.hid (show Blk W (w.heap.size + 1) 26 #[.string (bs n), .int .u8 k, .int .i64 md, .int .i64 ui, .int .i64 gi, .int .i64 z, .int .i64 s, .int .i64 a, .string (bs l), .string (bs us), .string (bs gr), .int .i64 mj', .int .i64 mn', .string (bs d'), .slice A2 mp'.length c2] by
    have := Blk.new (w.alloc (.cells #[.string (bs n), .int .u8 k, .int .i64 md, .int .i64 ui, .int .i64 gi, .int .i64 z, .int .i64 s, .int .i64 a, .string (bs l), .string (bs us), .string (bs gr), .int .i64 mj, .int .i64 mn, .string (bs d), .slice A1 mp.length c1] 26)) 26 #[.string (bs n), .int .u8 k, .int .i64 md, .int .i64 ui, .int .i64 gi, .int .i64 z, .int .i64 s, .int .i64 a, .string (bs l), .string (bs us), .string (bs gr), .int .i64 mj', .int .i64 mn', .string (bs d'), .slice A2 mp'.length c2]
    rw [show (w.alloc (.cells #[.string (bs n), .int .u8 k, .int .i64 md, .int .i64 ui, .int .i64 gi, .int .i64 z, .int .i64 s, .int .i64 a, .string (bs l), .string (bs us), .string (bs gr), .int .i64 mj, .int .i64 mn, .string (bs d), .slice A1 mp.length c1] 26)).heap.size = w.heap.size + 1 by simp] at this
    rw [hW]; exact this)
  have HW := Lib.hid hW
  have l1 := K1.out.lt
  have l2 := K2.out.lt
  have x0 : W.cell? ⟨w.heap.size, 0, none⟩ = some (.string (bs n)) := K1.out.cell 0
  have y0 : W.cell? ⟨w.heap.size + 1, 0, none⟩ = some (.string (bs n)) := K2.out.cell 0
  have x1 : W.cell? ⟨w.heap.size, 1, none⟩ = some (.int .u8 k) := K1.out.cell 1
  have y1 : W.cell? ⟨w.heap.size + 1, 1, none⟩ = some (.int .u8 k) := K2.out.cell 1
  have x2 : W.cell? ⟨w.heap.size, 2, none⟩ = some (.int .i64 md) := K1.out.cell 2
  have y2 : W.cell? ⟨w.heap.size + 1, 2, none⟩ = some (.int .i64 md) := K2.out.cell 2
  have x3 : W.cell? ⟨w.heap.size, 3, none⟩ = some (.int .i64 ui) := K1.out.cell 3
  have y3 : W.cell? ⟨w.heap.size + 1, 3, none⟩ = some (.int .i64 ui) := K2.out.cell 3
  have x4 : W.cell? ⟨w.heap.size, 4, none⟩ = some (.int .i64 gi) := K1.out.cell 4
  have y4 : W.cell? ⟨w.heap.size + 1, 4, none⟩ = some (.int .i64 gi) := K2.out.cell 4
  have x5 : W.cell? ⟨w.heap.size, 5, none⟩ = some (.int .i64 z) := K1.out.cell 5
  have y5 : W.cell? ⟨w.heap.size + 1, 5, none⟩ = some (.int .i64 z) := K2.out.cell 5
  have x6 : W.cell? ⟨w.heap.size, 6, none⟩ = some (.int .i64 s) := K1.out.cell 6
  have y6 : W.cell? ⟨w.heap.size + 1, 6, none⟩ = some (.int .i64 s) := K2.out.cell 6
  have x7 : W.cell? ⟨w.heap.size, 7, none⟩ = some (.int .i64 a) := K1.out.cell 7
  have y7 : W.cell? ⟨w.heap.size + 1, 7, none⟩ = some (.int .i64 a) := K2.out.cell 7
  have x8 : W.cell? ⟨w.heap.size, 8, none⟩ = some (.string (bs l)) := K1.out.cell 8
  have y8 : W.cell? ⟨w.heap.size + 1, 8, none⟩ = some (.string (bs l)) := K2.out.cell 8
  have x9 : W.cell? ⟨w.heap.size, 9, none⟩ = some (.string (bs us)) := K1.out.cell 9
  have y9 : W.cell? ⟨w.heap.size + 1, 9, none⟩ = some (.string (bs us)) := K2.out.cell 9
  have x10 : W.cell? ⟨w.heap.size, 10, none⟩ = some (.string (bs gr)) := K1.out.cell 10
  have y10 : W.cell? ⟨w.heap.size + 1, 10, none⟩ = some (.string (bs gr)) := K2.out.cell 10
  have x11 : W.cell? ⟨w.heap.size, 11, none⟩ = some (.int .i64 mj) := K1.out.cell 11
  have y11 : W.cell? ⟨w.heap.size + 1, 11, none⟩ = some (.int .i64 mj') := K2.out.cell 11
  have hts : ∀ w : World, (binOp .eql 23 (.agg #[.int .i64 s, .int .i64 a]) (.agg #[.int .i64 s, .int .i64 a])).run Tryz.prog w = .ok (.bool true) w := fun w => time_same w s a
  clear hW
  go_enter Tryz.func19, Tryz.ntmps19
  go_wp2_with fail
  go_ret
  exact ⟨rfl, by rw [← HW.out]; exact HB0.out⟩

set_option maxRecDepth 100000 in
set_option maxHeartbeats 8000000 in
theorem same_12 (n : List UInt8) (k : Nat) (md : Int) (ui : Int) (gi : Int) (z : Int) (s : Int) (a : Int) (l : List UInt8) (us : List UInt8) (gr : List UInt8) (mj : Int) (mn : Int) (d : List UInt8) (mn' : Int) (d' : List UInt8) (mp mp' : List (Int × Int)) (A1 A2 : Option Addr) (c1 c2 : Nat) (w : World) (hne : ((mn : Int) == (mn' : Int)) = false) :
    Calls Tryz.prog 19 #[.agg #[.string (bs n), .int .u8 k, .int .i64 md, .int .i64 ui, .int .i64 gi, .int .i64 z, .int .i64 s, .int .i64 a, .string (bs l), .string (bs us), .string (bs gr), .int .i64 mj, .int .i64 mn, .string (bs d), .slice A1 mp.length c1], .agg #[.string (bs n), .int .u8 k, .int .i64 md, .int .i64 ui, .int .i64 gi, .int .i64 z, .int .i64 s, .int .i64 a, .string (bs l), .string (bs us), .string (bs gr), .int .i64 mj, .int .i64 mn', .string (bs d'), .slice A2 mp'.length c2]] w fun r w' => r = .returned (.bool (false)) ∧ Below w.heap.size w w' := by
  obtain ⟨W, hW⟩ : ∃ W, W = (w.alloc (.cells #[.string (bs n), .int .u8 k, .int .i64 md, .int .i64 ui, .int .i64 gi, .int .i64 z, .int .i64 s, .int .i64 a, .string (bs l), .string (bs us), .string (bs gr), .int .i64 mj, .int .i64 mn, .string (bs d), .slice A1 mp.length c1] 26)).alloc (.cells #[.string (bs n), .int .u8 k, .int .i64 md, .int .i64 ui, .int .i64 gi, .int .i64 z, .int .i64 s, .int .i64 a, .string (bs l), .string (bs us), .string (bs gr), .int .i64 mj, .int .i64 mn', .string (bs d'), .slice A2 mp'.length c2] 26) := ⟨_, rfl⟩
  have HB0 := Lib.hid (show Below w.heap.size w W by rw [hW]; exact ((Below.refl _ _).alloc (Nat.le_refl _) _).alloc (by simp) _)
  have K1 := Lib.hid (show Blk W w.heap.size 26 #[.string (bs n), .int .u8 k, .int .i64 md, .int .i64 ui, .int .i64 gi, .int .i64 z, .int .i64 s, .int .i64 a, .string (bs l), .string (bs us), .string (bs gr), .int .i64 mj, .int .i64 mn, .string (bs d), .slice A1 mp.length c1] by rw [hW]; exact (Blk.new w 26 _).alloc _)
  have K2 := Lib.hid (show Blk W (w.heap.size + 1) 26 #[.string (bs n), .int .u8 k, .int .i64 md, .int .i64 ui, .int .i64 gi, .int .i64 z, .int .i64 s, .int .i64 a, .string (bs l), .string (bs us), .string (bs gr), .int .i64 mj, .int .i64 mn', .string (bs d'), .slice A2 mp'.length c2] by
    have := Blk.new (w.alloc (.cells #[.string (bs n), .int .u8 k, .int .i64 md, .int .i64 ui, .int .i64 gi, .int .i64 z, .int .i64 s, .int .i64 a, .string (bs l), .string (bs us), .string (bs gr), .int .i64 mj, .int .i64 mn, .string (bs d), .slice A1 mp.length c1] 26)) 26 #[.string (bs n), .int .u8 k, .int .i64 md, .int .i64 ui, .int .i64 gi, .int .i64 z, .int .i64 s, .int .i64 a, .string (bs l), .string (bs us), .string (bs gr), .int .i64 mj, .int .i64 mn', .string (bs d'), .slice A2 mp'.length c2]
    rw [show (w.alloc (.cells #[.string (bs n), .int .u8 k, .int .i64 md, .int .i64 ui, .int .i64 gi, .int .i64 z, .int .i64 s, .int .i64 a, .string (bs l), .string (bs us), .string (bs gr), .int .i64 mj, .int .i64 mn, .string (bs d), .slice A1 mp.length c1] 26)).heap.size = w.heap.size + 1 by simp] at this
    rw [hW]; exact this)
  have HW := Lib.hid hW
  have l1 := K1.out.lt
  have l2 := K2.out.lt
  have x0 : W.cell? ⟨w.heap.size, 0, none⟩ = some (.string (bs n)) := K1.out.cell 0
  have y0 : W.cell? ⟨w.heap.size + 1, 0, none⟩ = some (.string (bs n)) := K2.out.cell 0
  have x1 : W.cell? ⟨w.heap.size, 1, none⟩ = some (.int .u8 k) := K1.out.cell 1
  have y1 : W.cell? ⟨w.heap.size + 1, 1, none⟩ = some (.int .u8 k) := K2.out.cell 1
  have x2 : W.cell? ⟨w.heap.size, 2, none⟩ = some (.int .i64 md) := K1.out.cell 2
  have y2 : W.cell? ⟨w.heap.size + 1, 2, none⟩ = some (.int .i64 md) := K2.out.cell 2
  have x3 : W.cell? ⟨w.heap.size, 3, none⟩ = some (.int .i64 ui) := K1.out.cell 3
  have y3 : W.cell? ⟨w.heap.size + 1, 3, none⟩ = some (.int .i64 ui) := K2.out.cell 3
  have x4 : W.cell? ⟨w.heap.size, 4, none⟩ = some (.int .i64 gi) := K1.out.cell 4
  have y4 : W.cell? ⟨w.heap.size + 1, 4, none⟩ = some (.int .i64 gi) := K2.out.cell 4
  have x5 : W.cell? ⟨w.heap.size, 5, none⟩ = some (.int .i64 z) := K1.out.cell 5
  have y5 : W.cell? ⟨w.heap.size + 1, 5, none⟩ = some (.int .i64 z) := K2.out.cell 5
  have x6 : W.cell? ⟨w.heap.size, 6, none⟩ = some (.int .i64 s) := K1.out.cell 6
  have y6 : W.cell? ⟨w.heap.size + 1, 6, none⟩ = some (.int .i64 s) := K2.out.cell 6
  have x7 : W.cell? ⟨w.heap.size, 7, none⟩ = some (.int .i64 a) := K1.out.cell 7
  have y7 : W.cell? ⟨w.heap.size + 1, 7, none⟩ = some (.int .i64 a) := K2.out.cell 7
  have x8 : W.cell? ⟨w.heap.size, 8, none⟩ = some (.string (bs l)) := K1.out.cell 8
  have y8 : W.cell? ⟨w.heap.size + 1, 8, none⟩ = some (.string (bs l)) := K2.out.cell 8
  have x9 : W.cell? ⟨w.heap.size, 9, none⟩ = some (.string (bs us)) := K1.out.cell 9
  have y9 : W.cell? ⟨w.heap.size + 1, 9, none⟩ = some (.string (bs us)) := K2.out.cell 9
  have x10 : W.cell? ⟨w.heap.size, 10, none⟩ = some (.string (bs gr)) := K1.out.cell 10
  have y10 : W.cell? ⟨w.heap.size + 1, 10, none⟩ = some (.string (bs gr)) := K2.out.cell 10
  have x11 : W.cell? ⟨w.heap.size, 11, none⟩ = some (.int .i64 mj) := K1.out.cell 11
  have y11 : W.cell? ⟨w.heap.size + 1, 11, none⟩ = some (.int .i64 mj) := K2.out.cell 11
  have x12 : W.cell? ⟨w.heap.size, 12, none⟩ = some (.int .i64 mn) := K1.out.cell 12
  have y12 : W.cell? ⟨w.heap.size + 1, 12, none⟩ = some (.int .i64 mn') := K2.out.cell 12
  have hts : ∀ w : World, (binOp .eql 23 (.agg #[.int .i64 s, .int .i64 a]) (.agg #[.int .i64 s, .int .i64 a])).run Tryz.prog w = .ok (.bool true) w := fun w => time_same w s a
  clear hW
  go_enter Tryz.func19, Tryz.ntmps19
  go_wp2_with fail
  go_ret
  exact ⟨rfl, by rw [← HW.out]; exact HB0.out⟩

set_option maxRecDepth 100000 in
set_option maxHeartbeats 8000000 in
theorem same_13 (n : List UInt8) (k : Nat) (md : Int) (ui : Int) (gi : Int) (z : Int) (s : Int) (a : Int) (l : List UInt8) (us : List UInt8) (gr : List UInt8) (mj : Int) (mn : Int) (d : List UInt8) (d' : List UInt8) (mp mp' : List (Int × Int)) (A1 A2 : Option Addr) (c1 c2 : Nat) (w : World) (hne : d ≠ d') :
    Calls Tryz.prog 19 #[.agg #[.string (bs n), .int .u8 k, .int .i64 md, .int .i64 ui, .int .i64 gi, .int .i64 z, .int .i64 s, .int .i64 a, .string (bs l), .string (bs us), .string (bs gr), .int .i64 mj, .int .i64 mn, .string (bs d), .slice A1 mp.length c1], .agg #[.string (bs n), .int .u8 k, .int .i64 md, .int .i64 ui, .int .i64 gi, .int .i64 z, .int .i64 s, .int .i64 a, .string (bs l), .string (bs us), .string (bs gr), .int .i64 mj, .int .i64 mn, .string (bs d'), .slice A2 mp'.length c2]] w fun r w' => r = .returned (.bool (false)) ∧ Below w.heap.size w w' := by
  obtain ⟨W, hW⟩ : ∃ W, W = (w.alloc (.cells #[.string (bs n), .int .u8 k, .int .i64 md, .int .i64 ui, .int .i64 gi, .int .i64 z, .int .i64 s, .int .i64 a, .string (bs l), .string (bs us), .string (bs gr), .int .i64 mj, .int .i64 mn, .string (bs d), .slice A1 mp.length c1] 26)).alloc (.cells #[.string (bs n), .int .u8 k, .int .i64 md, .int .i64 ui, .int .i64 gi, .int .i64 z, .int .i64 s, .int .i64 a, .string (bs l), .string (bs us), .string (bs gr), .int .i64 mj, .int .i64 mn, .string (bs d'), .slice A2 mp'.length c2] 26) := ⟨_, rfl⟩
  have HB0 := Lib.hid (show Below w.heap.size w W by rw [hW]; exact ((Below.refl _ _).alloc (Nat.le_refl _) _).alloc (by simp) _)
  have K1 := Lib.hid (show Blk W w.heap.size 26 #[.string (bs n), .int .u8 k, .int .i64 md, .int .i64 ui, .int .i64 gi, .int .i64 z, .int .i64 s, .int .i64 a, .string (bs l), .string (bs us), .string (bs gr), .int .i64 mj, .int .i64 mn, .string (bs d), .slice A1 mp.length c1] by rw [hW]; exact (Blk.new w 26 _).alloc _)
  have K2 := Lib.hid (show Blk W (w.heap.size + 1) 26 #[.string (bs n), .int .u8 k, .int .i64 md, .int .i64 ui, .int .i64 gi, .int .i64 z, .int .i64 s, .int .i64 a, .string (bs l), .string (bs us), .string (bs gr), .int .i64 mj, .int .i64 mn, .string (bs d'), .slice A2 mp'.length c2] by
    have := Blk.new (w.alloc (.cells #[.string (bs n), .int .u8 k, .int .i64 md, .int .i64 ui, .int .i64 gi, .int .i64 z, .int .i64 s, .int .i64 a, .string (bs l), .string (bs us), .string (bs gr), .int .i64 mj, .int .i64 mn, .string (bs d), .slice A1 mp.length c1] 26)) 26 #[.string (bs n), .int .u8 k, .int .i64 md, .int .i64 ui, .int .i64 gi, .int .i64 z, .int .i64 s, .int .i64 a, .string (bs l), .string (bs us), .string (bs gr), .int .i64 mj, .int .i64 mn, .string (bs d'), .slice A2 mp'.length c2]
    rw [show (w.alloc (.cells #[.string (bs n), .int .u8 k, .int .i64 md, .int .i64 ui, .int .i64 gi, .int .i64 z, .int .i64 s, .int .i64 a, .string (bs l), .string (bs us), .string (bs gr), .int .i64 mj, .int .i64 mn, .string (bs d), .slice A1 mp.length c1] 26)).heap.size = w.heap.size + 1 by simp] at this
    rw [hW]; exact this)
  have HW := Lib.hid hW
  have l1 := K1.out.lt
  have l2 := K2.out.lt
  have x0 : W.cell? ⟨w.heap.size, 0, none⟩ = some (.string (bs n)) := K1.out.cell 0
  have y0 : W.cell? ⟨w.heap.size + 1, 0, none⟩ = some (.string (bs n)) := K2.out.cell 0
  have x1 : W.cell? ⟨w.heap.size, 1, none⟩ = some (.int .u8 k) := K1.out.cell 1
  have y1 : W.cell? ⟨w.heap.size + 1, 1, none⟩ = some (.int .u8 k) := K2.out.cell 1
  have x2 : W.cell? ⟨w.heap.size, 2, none⟩ = some (.int .i64 md) := K1.out.cell 2
  have y2 : W.cell? ⟨w.heap.size + 1, 2, none⟩ = some (.int .i64 md) := K2.out.cell 2
  have x3 : W.cell? ⟨w.heap.size, 3, none⟩ = some (.int .i64 ui) := K1.out.cell 3
  have y3 : W.cell? ⟨w.heap.size + 1, 3, none⟩ = some (.int .i64 ui) := K2.out.cell 3
  have x4 : W.cell? ⟨w.heap.size, 4, none⟩ = some (.int .i64 gi) := K1.out.cell 4
  have y4 : W.cell? ⟨w.heap.size + 1, 4, none⟩ = some (.int .i64 gi) := K2.out.cell 4
  have x5 : W.cell? ⟨w.heap.size, 5, none⟩ = some (.int .i64 z) := K1.out.cell 5
  have y5 : W.cell? ⟨w.heap.size + 1, 5, none⟩ = some (.int .i64 z) := K2.out.cell 5
  have x6 : W.cell? ⟨w.heap.size, 6, none⟩ = some (.int .i64 s) := K1.out.cell 6
  have y6 : W.cell? ⟨w.heap.size + 1, 6, none⟩ = some (.int .i64 s) := K2.out.cell 6
  have x7 : W.cell? ⟨w.heap.size, 7, none⟩ = some (.int .i64 a) := K1.out.cell 7
  have y7 : W.cell? ⟨w.heap.size + 1, 7, none⟩ = some (.int .i64 a) := K2.out.cell 7
  have x8 : W.cell? ⟨w.heap.size, 8, none⟩ = some (.string (bs l)) := K1.out.cell 8
  have y8 : W.cell? ⟨w.heap.size + 1, 8, none⟩ = some (.string (bs l)) := K2.out.cell 8
  have x9 : W.cell? ⟨w.heap.size, 9, none⟩ = some (.string (bs us)) := K1.out.cell 9
  have y9 : W.cell? ⟨w.heap.size + 1, 9, none⟩ = some (.string (bs us)) := K2.out.cell 9
  have x10 : W.cell? ⟨w.heap.size, 10, none⟩ = some (.string (bs gr)) := K1.out.cell 10
  have y10 : W.cell? ⟨w.heap.size + 1, 10, none⟩ = some (.string (bs gr)) := K2.out.cell 10
  have x11 : W.cell? ⟨w.heap.size, 11, none⟩ = some (.int .i64 mj) := K1.out.cell 11
  have y11 : W.cell? ⟨w.heap.size + 1, 11, none⟩ = some (.int .i64 mj) := K2.out.cell 11
  have x12 : W.cell? ⟨w.heap.size, 12, none⟩ = some (.int .i64 mn) := K1.out.cell 12
  have y12 : W.cell? ⟨w.heap.size + 1, 12, none⟩ = some (.int .i64 mn) := K2.out.cell 12
  have x13 : W.cell? ⟨w.heap.size, 13, none⟩ = some (.string (bs d)) := K1.out.cell 13
  have y13 : W.cell? ⟨w.heap.size + 1, 13, none⟩ = some (.string (bs d')) := K2.out.cell 13
  have hs := strNe hne
  have hts : ∀ w : World, (binOp .eql 23 (.agg #[.int .i64 s, .int .i64 a]) (.agg #[.int .i64 s, .int .i64 a])).run Tryz.prog w = .ok (.bool true) w := fun w => time_same w s a
  clear hW hne
  go_enter Tryz.func19, Tryz.ntmps19
  go_wp2_with fail
  go_ret
  exact ⟨rfl, by rw [← HW.out]; exact HB0.out⟩

set_option maxRecDepth 100000 in
set_option maxHeartbeats 8000000 in
theorem same_14 (n : List UInt8) (k : Nat) (md : Int) (ui : Int) (gi : Int) (z : Int) (s : Int) (a : Int) (l : List UInt8) (us : List UInt8) (gr : List UInt8) (mj : Int) (mn : Int) (d : List UInt8)  (mp mp' : List (Int × Int)) (A1 A2 : Option Addr) (c1 c2 : Nat) (w : World) (h1 : Pcs w (.slice A1 mp.length c1) mp) (h2 : Pcs w (.slice A2 mp'.length c2) mp') (hl1 : mp.length ≤ 1000) (hl2 : mp'.length ≤ 1000) :
    Calls Tryz.prog 19 #[.agg #[.string (bs n), .int .u8 k, .int .i64 md, .int .i64 ui, .int .i64 gi, .int .i64 z, .int .i64 s, .int .i64 a, .string (bs l), .string (bs us), .string (bs gr), .int .i64 mj, .int .i64 mn, .string (bs d), .slice A1 mp.length c1], .agg #[.string (bs n), .int .u8 k, .int .i64 md, .int .i64 ui, .int .i64 gi, .int .i64 z, .int .i64 s, .int .i64 a, .string (bs l), .string (bs us), .string (bs gr), .int .i64 mj, .int .i64 mn, .string (bs d), .slice A2 mp'.length c2]] w fun r w' => r = .returned (.bool (decide (mp = mp'))) ∧ Below w.heap.size w w' := by
  obtain ⟨W, hW⟩ : ∃ W, W = (w.alloc (.cells #[.string (bs n), .int .u8 k, .int .i64 md, .int .i64 ui, .int .i64 gi, .int .i64 z, .int .i64 s, .int .i64 a, .string (bs l), .string (bs us), .string (bs gr), .int .i64 mj, .int .i64 mn, .string (bs d), .slice A1 mp.length c1] 26)).alloc (.cells #[.string (bs n), .int .u8 k, .int .i64 md, .int .i64 ui, .int .i64 gi, .int .i64 z, .int .i64 s, .int .i64 a, .string (bs l), .string (bs us), .string (bs gr), .int .i64 mj, .int .i64 mn, .string (bs d), .slice A2 mp'.length c2] 26) := ⟨_, rfl⟩
  have HB0 := Lib.hid (show Below w.heap.size w W by rw [hW]; exact ((Below.refl _ _).alloc (Nat.le_refl _) _).alloc (by simp) _)
  have K1 := Lib.hid (show Blk W w.heap.size 26 #[.string (bs n), .int .u8 k, .int .i64 md, .int .i64 ui, .int .i64 gi, .int .i64 z, .int .i64 s, .int .i64 a, .string (bs l), .string (bs us), .string (bs gr), .int .i64 mj, .int .i64 mn, .string (bs d), .slice A1 mp.length c1] by rw [hW]; exact (Blk.new w 26 _).alloc _)
  have K2 := Lib.hid (show Blk W (w.heap.size + 1) 26 #[.string (bs n), .int .u8 k, .int .i64 md, .int .i64 ui, .int .i64 gi, .int .i64 z, .int .i64 s, .int .i64 a, .string (bs l), .string (bs us), .string (bs gr), .int .i64 mj, .int .i64 mn, .string (bs d), .slice A2 mp'.length c2] by
    have := Blk.new (w.alloc (.cells #[.string (bs n), .int .u8 k, .int .i64 md, .int .i64 ui, .int .i64 gi, .int .i64 z, .int .i64 s, .int .i64 a, .string (bs l), .string (bs us), .string (bs gr), .int .i64 mj, .int .i64 mn, .string (bs d), .slice A1 mp.length c1] 26)) 26 #[.string (bs n), .int .u8 k, .int .i64 md, .int .i64 ui, .int .i64 gi, .int .i64 z, .int .i64 s, .int .i64 a, .string (bs l), .string (bs us), .string (bs gr), .int .i64 mj, .int .i64 mn, .string (bs d), .slice A2 mp'.length c2]
    rw [show (w.alloc (.cells #[.string (bs n), .int .u8 k, .int .i64 md, .int .i64 ui, .int .i64 gi, .int .i64 z, .int .i64 s, .int .i64 a, .string (bs l), .string (bs us), .string (bs gr), .int .i64 mj, .int .i64 mn, .string (bs d), .slice A1 mp.length c1] 26)).heap.size = w.heap.size + 1 by simp] at this
    rw [hW]; exact this)
  have HW := Lib.hid hW
  have l1 := K1.out.lt
  have l2 := K2.out.lt
  have x0 : W.cell? ⟨w.heap.size, 0, none⟩ = some (.string (bs n)) := K1.out.cell 0
  have y0 : W.cell? ⟨w.heap.size + 1, 0, none⟩ = some (.string (bs n)) := K2.out.cell 0
  have x1 : W.cell? ⟨w.heap.size, 1, none⟩ = some (.int .u8 k) := K1.out.cell 1
  have y1 : W.cell? ⟨w.heap.size + 1, 1, none⟩ = some (.int .u8 k) := K2.out.cell 1
  have x2 : W.cell? ⟨w.heap.size, 2, none⟩ = some (.int .i64 md) := K1.out.cell 2
  have y2 : W.cell? ⟨w.heap.size + 1, 2, none⟩ = some (.int .i64 md) := K2.out.cell 2
  have x3 : W.cell? ⟨w.heap.size, 3, none⟩ = some (.int .i64 ui) := K1.out.cell 3
  have y3 : W.cell? ⟨w.heap.size + 1, 3, none⟩ = some (.int .i64 ui) := K2.out.cell 3
  have x4 : W.cell? ⟨w.heap.size, 4, none⟩ = some (.int .i64 gi) := K1.out.cell 4
  have y4 : W.cell? ⟨w.heap.size + 1, 4, none⟩ = some (.int .i64 gi) := K2.out.cell 4
  have x5 : W.cell? ⟨w.heap.size, 5, none⟩ = some (.int .i64 z) := K1.out.cell 5
  have y5 : W.cell? ⟨w.heap.size + 1, 5, none⟩ = some (.int .i64 z) := K2.out.cell 5
  have x6 : W.cell? ⟨w.heap.size, 6, none⟩ = some (.int .i64 s) := K1.out.cell 6
  have y6 : W.cell? ⟨w.heap.size + 1, 6, none⟩ = some (.int .i64 s) := K2.out.cell 6
  have x7 : W.cell? ⟨w.heap.size, 7, none⟩ = some (.int .i64 a) := K1.out.cell 7
  have y7 : W.cell? ⟨w.heap.size + 1, 7, none⟩ = some (.int .i64 a) := K2.out.cell 7
  have x8 : W.cell? ⟨w.heap.size, 8, none⟩ = some (.string (bs l)) := K1.out.cell 8
  have y8 : W.cell? ⟨w.heap.size + 1, 8, none⟩ = some (.string (bs l)) := K2.out.cell 8
  have x9 : W.cell? ⟨w.heap.size, 9, none⟩ = some (.string (bs us)) := K1.out.cell 9
  have y9 : W.cell? ⟨w.heap.size + 1, 9, none⟩ = some (.string (bs us)) := K2.out.cell 9
  have x10 : W.cell? ⟨w.heap.size, 10, none⟩ = some (.string (bs gr)) := K1.out.cell 10
  have y10 : W.cell? ⟨w.heap.size + 1, 10, none⟩ = some (.string (bs gr)) := K2.out.cell 10
  have x11 : W.cell? ⟨w.heap.size, 11, none⟩ = some (.int .i64 mj) := K1.out.cell 11
  have y11 : W.cell? ⟨w.heap.size + 1, 11, none⟩ = some (.int .i64 mj) := K2.out.cell 11
  have x12 : W.cell? ⟨w.heap.size, 12, none⟩ = some (.int .i64 mn) := K1.out.cell 12
  have y12 : W.cell? ⟨w.heap.size + 1, 12, none⟩ = some (.int .i64 mn) := K2.out.cell 12
  have x13 : W.cell? ⟨w.heap.size, 13, none⟩ = some (.string (bs d)) := K1.out.cell 13
  have y13 : W.cell? ⟨w.heap.size + 1, 13, none⟩ = some (.string (bs d)) := K2.out.cell 13
  have x14 : W.cell? ⟨w.heap.size, 14, none⟩ = some (.slice A1 mp.length c1) := K1.out.cell 14
  have y14 : W.cell? ⟨w.heap.size + 1, 14, none⟩ = some (.slice A2 mp'.length c2) := K2.out.cell 14
  have hts : ∀ w : World, (binOp .eql 23 (.agg #[.int .i64 s, .int .i64 a]) (.agg #[.int .i64 s, .int .i64 a])).run Tryz.prog w = .ok (.bool true) w := fun w => time_same w s a
  have EP := Lib.hid (eqP_any mp mp' _ _ W (h1.below HB0.out) (h2.below HB0.out) hl1 hl2)
  clear hW h1 h2
  go_enter Tryz.func19, Tryz.ntmps19
  go_wp2_with fail
  rw [← HW.out]
  refine EP.out.mono ?_
  rintro r w1 ⟨rfl, h1⟩
  have B1 := Lib.hid (thenB HB0.out h1)
  clear h1
  go_wp2_with fail
  go_ret
  exact ⟨rfl, B1.out⟩

theorem intNe {a b : Int} (h : a ≠ b) : (a == b) = false := beq_eq_false_iff_ne.2 h
/-- same, of any two members. -/
theorem sameF_any (e f : Ent) (m1 m2 : Value) (w : World) (h1 : Pcs w m1 e.map) (h2 : Pcs w m2 f.map) (hl1 : e.map.length ≤ 1000) (hl2 : f.map.length ≤ 1000) :
    Calls Tryz.prog 19 #[ev e m1, ev f m2] w fun r w' => r = .returned (.bool (decide (e = f))) ∧ Below w.heap.size w w' := by
  obtain ⟨A1, c1, rfl, p1⟩ := id h1
  obtain ⟨A2, c2, rfl, p2⟩ := id h2
  obtain ⟨n, k, md, ui, gi, z, s, a, l, us, gr, mj, mn, d, mp⟩ := e
  obtain ⟨n', k', md', ui', gi', z', s', a', l', us', gr', mj', mn', d', mp'⟩ := f
  unfold ev evc
  simp only at h1 h2 hl1 hl2 p1 p2 ⊢
  by_cases g0 : n = n'
  case neg =>
    have hfin : decide ((⟨n, k, md, ui, gi, z, s, a, l, us, gr, mj, mn, d, mp⟩ : Ent) = ⟨n', k', md', ui', gi', z', s', a', l', us', gr', mj', mn', d', mp'⟩) = false := decide_eq_false fun x => g0 (by injection x)
    rw [hfin]
    exact same_0 n k md ui gi z s a l us gr mj mn d n' k' md' ui' gi' z' s' a' l' us' gr' mj' mn' d' mp mp' A1 A2 c1 c2 w g0
  subst g0
  by_cases g1 : k = k'
  case neg =>
    have hfin : decide ((⟨n, k, md, ui, gi, z, s, a, l, us, gr, mj, mn, d, mp⟩ : Ent) = ⟨n, k', md', ui', gi', z', s', a', l', us', gr', mj', mn', d', mp'⟩) = false := decide_eq_false fun x => g1 (by injection x)
    rw [hfin]
    exact same_1 n k md ui gi z s a l us gr mj mn d k' md' ui' gi' z' s' a' l' us' gr' mj' mn' d' mp mp' A1 A2 c1 c2 w (intNe (by omega))
  subst g1
  by_cases g2 : md = md'
  case neg =>
    have hfin : decide ((⟨n, k, md, ui, gi, z, s, a, l, us, gr, mj, mn, d, mp⟩ : Ent) = ⟨n, k, md', ui', gi', z', s', a', l', us', gr', mj', mn', d', mp'⟩) = false := decide_eq_false fun x => g2 (by injection x)
    rw [hfin]
    exact same_2 n k md ui gi z s a l us gr mj mn d md' ui' gi' z' s' a' l' us' gr' mj' mn' d' mp mp' A1 A2 c1 c2 w (intNe g2)
  subst g2
  by_cases g3 : ui = ui'
  case neg =>
    have hfin : decide ((⟨n, k, md, ui, gi, z, s, a, l, us, gr, mj, mn, d, mp⟩ : Ent) = ⟨n, k, md, ui', gi', z', s', a', l', us', gr', mj', mn', d', mp'⟩) = false := decide_eq_false fun x => g3 (by injection x)
    rw [hfin]
    exact same_3 n k md ui gi z s a l us gr mj mn d ui' gi' z' s' a' l' us' gr' mj' mn' d' mp mp' A1 A2 c1 c2 w (intNe g3)
  subst g3
  by_cases g4 : gi = gi'
  case neg =>
    have hfin : decide ((⟨n, k, md, ui, gi, z, s, a, l, us, gr, mj, mn, d, mp⟩ : Ent) = ⟨n, k, md, ui, gi', z', s', a', l', us', gr', mj', mn', d', mp'⟩) = false := decide_eq_false fun x => g4 (by injection x)
    rw [hfin]
    exact same_4 n k md ui gi z s a l us gr mj mn d gi' z' s' a' l' us' gr' mj' mn' d' mp mp' A1 A2 c1 c2 w (intNe g4)
  subst g4
  by_cases g5 : z = z'
  case neg =>
    have hfin : decide ((⟨n, k, md, ui, gi, z, s, a, l, us, gr, mj, mn, d, mp⟩ : Ent) = ⟨n, k, md, ui, gi, z', s', a', l', us', gr', mj', mn', d', mp'⟩) = false := decide_eq_false fun x => g5 (by injection x)
    rw [hfin]
    exact same_5 n k md ui gi z s a l us gr mj mn d z' s' a' l' us' gr' mj' mn' d' mp mp' A1 A2 c1 c2 w (intNe g5)
  subst g5
  by_cases g6 : s = s' ∧ a = a'
  case neg =>
    have hne : (s == s' && a == a') = false := by
      cases hx : (s == s' && a == a')
      · rfl
      · rw [Bool.and_eq_true, beq_iff_eq, beq_iff_eq] at hx; exact absurd hx g6
    have hfin : decide ((⟨n, k, md, ui, gi, z, s, a, l, us, gr, mj, mn, d, mp⟩ : Ent) = ⟨n, k, md, ui, gi, z, s', a', l', us', gr', mj', mn', d', mp'⟩) = false := decide_eq_false fun x => g6 (by injection x; exact ⟨by assumption, by assumption⟩)
    rw [hfin]
    exact same_6 n k md ui gi z s a l us gr mj mn d s' a' l' us' gr' mj' mn' d' mp mp' A1 A2 c1 c2 w hne
  obtain ⟨rfl, rfl⟩ := g6
  by_cases g8 : l = l'
  case neg =>
    have hfin : decide ((⟨n, k, md, ui, gi, z, s, a, l, us, gr, mj, mn, d, mp⟩ : Ent) = ⟨n, k, md, ui, gi, z, s, a, l', us', gr', mj', mn', d', mp'⟩) = false := decide_eq_false fun x => g8 (by injection x)
    rw [hfin]
    exact same_8 n k md ui gi z s a l us gr mj mn d l' us' gr' mj' mn' d' mp mp' A1 A2 c1 c2 w g8
  subst g8
  by_cases g9 : us = us'
  case neg =>
    have hfin : decide ((⟨n, k, md, ui, gi, z, s, a, l, us, gr, mj, mn, d, mp⟩ : Ent) = ⟨n, k, md, ui, gi, z, s, a, l, us', gr', mj', mn', d', mp'⟩) = false := decide_eq_false fun x => g9 (by injection x)
    rw [hfin]
    exact same_9 n k md ui gi z s a l us gr mj mn d us' gr' mj' mn' d' mp mp' A1 A2 c1 c2 w g9
  subst g9
  by_cases g10 : gr = gr'
  case neg =>
    have hfin : decide ((⟨n, k, md, ui, gi, z, s, a, l, us, gr, mj, mn, d, mp⟩ : Ent) = ⟨n, k, md, ui, gi, z, s, a, l, us, gr', mj', mn', d', mp'⟩) = false := decide_eq_false fun x => g10 (by injection x)
    rw [hfin]
    exact same_10 n k md ui gi z s a l us gr mj mn d gr' mj' mn' d' mp mp' A1 A2 c1 c2 w g10
  subst g10
  by_cases g11 : mj = mj'
  case neg =>
    have hfin : decide ((⟨n, k, md, ui, gi, z, s, a, l, us, gr, mj, mn, d, mp⟩ : Ent) = ⟨n, k, md, ui, gi, z, s, a, l, us, gr, mj', mn', d', mp'⟩) = false := decide_eq_false fun x => g11 (by injection x)
    rw [hfin]
    exact same_11 n k md ui gi z s a l us gr mj mn d mj' mn' d' mp mp' A1 A2 c1 c2 w (intNe g11)
  subst g11
  by_cases g12 : mn = mn'
  case neg =>
    have hfin : decide ((⟨n, k, md, ui, gi, z, s, a, l, us, gr, mj, mn, d, mp⟩ : Ent) = ⟨n, k, md, ui, gi, z, s, a, l, us, gr, mj, mn', d', mp'⟩) = false := decide_eq_false fun x => g12 (by injection x)
    rw [hfin]
    exact same_12 n k md ui gi z s a l us gr mj mn d mn' d' mp mp' A1 A2 c1 c2 w (intNe g12)
  subst g12
  by_cases g13 : d = d'
  case neg =>
    have hfin : decide ((⟨n, k, md, ui, gi, z, s, a, l, us, gr, mj, mn, d, mp⟩ : Ent) = ⟨n, k, md, ui, gi, z, s, a, l, us, gr, mj, mn, d', mp'⟩) = false := decide_eq_false fun x => g13 (by injection x)
    rw [hfin]
    exact same_13 n k md ui gi z s a l us gr mj mn d d' mp mp' A1 A2 c1 c2 w g13
  subst g13
  have hfin : decide ((⟨n, k, md, ui, gi, z, s, a, l, us, gr, mj, mn, d, mp⟩ : Ent) = ⟨n, k, md, ui, gi, z, s, a, l, us, gr, mj, mn, d, mp'⟩) = decide (mp = mp') := by simp
  rw [hfin]
  exact same_14 n k md ui gi z s a l us gr mj mn d mp mp' A1 A2 c1 c2 w h1 h2 hl1 hl2

end Go.Proofs.YtkhkjacnoiopcaaGreatDoor
