/-
  strings.IndexAny and ContainsAny at texts that are not ASCII; chars are two or more ASCII bytes.
-/
import Derived.Test.YtjafjhhmjfpmoaaDoorShelf
import Derived.Test.YtjafjhhmjfpmoaaDoorBase
import Derived.Laws.RangeAny
import Derived.Laws.Runes
import Derived.Deep.LoopGhost
import Derived.Lib.IndexAny
import Derived.WalkMore
import Derived.BigQuiet
import Derived.Deep.QuietTactic
set_option linter.unusedSimpArgs false
namespace Go
/-- What a rune that is no ASCII byte covers are bytes from 128 on. -/
theorem decode_cover (s : ByteArray) (pos : Nat) (h : pos < s.size) (ha : 128 ≤ (s[pos]'h).toNat) :
    pos + (Utf8.decode s pos).2 ≤ s.size ∧ ∀ k, pos ≤ k → k < pos + (Utf8.decode s pos).2 → 128 ≤ (s.get! k).toNat := by
  have hn : ¬ (s[pos]'h).toNat < 128 := by omega
  have g0 : s.get! pos = s[pos]'h := get_at s pos h
  have one : pos + 1 ≤ s.size ∧ ∀ k, pos ≤ k → k < pos + 1 → 128 ≤ (s.get! k).toNat := ⟨by omega, fun k h1 h2 => by
    obtain rfl : k = pos := by omega
    rw [g0]; exact ha⟩
  simp only [Utf8.decode, get_at s pos h, hn, if_false]
  split
  · rename_i hc
    split
    · simp only [Bool.and_eq_true, decide_eq_true_eq, beq_iff_eq] at hc
      refine ⟨by simp; omega, fun k h1 h2 => ?_⟩
      simp at h2
      rcases (by omega : k = pos ∨ k = pos + 1) with rfl | rfl
      · rw [g0]; exact ha
      · omega
    · exact one
  · split
    · rename_i hc
      split
      · simp only [Bool.and_eq_true, decide_eq_true_eq, beq_iff_eq] at hc
        refine ⟨by simp; omega, fun k h1 h2 => ?_⟩
        simp at h2
        rcases (by omega : k = pos ∨ k = pos + 1 ∨ k = pos + 2) with rfl | rfl | rfl
        · rw [g0]; exact ha
        · omega
        · omega
      · exact one
    · split
      · rename_i hc
        split
        · simp only [Bool.and_eq_true, decide_eq_true_eq, beq_iff_eq] at hc
          refine ⟨by simp; omega, fun k h1 h2 => ?_⟩
          simp at h2
          rcases (by omega : k = pos ∨ k = pos + 1 ∨ k = pos + 2 ∨ k = pos + 3) with rfl | rfl | rfl | rfl
          · rw [g0]; exact ha
          · omega
          · omega
          · omega
        · exact one
      · exact one

/-- A rune more of a text, in whatever world its iterator stands. -/
def World.setIter (W : World) (p : Nat) (s : ByteArray) (pos : Nat) : World := { W with heap := W.heap.setIfInBounds p (.stringIter s pos) }
theorem run_next_some {P : Program} (W : World) (p : Nat) (s : ByteArray) (pos : Nat) (ty : TypeId) (hW : W.heap[p]? = some (.stringIter s pos)) (h : pos < s.size) :
    (Instr.next (.pointer (some ⟨p, 0, none⟩)) true ty).run P W = .ok (.tuple #[.bool true, .int .i64 pos, .int .i32 (Utf8.decode s pos).1]) (W.setIter p s (pos + (Utf8.decode s pos).2)) := by
  simp only [Instr.next, getObj, setObj, Sem.run_bind, Sem.run, hW, Result.andThen, h, if_true, World.setIter]
  simp [goInt]
theorem run_next_none {P : Program} (W : World) (p : Nat) (s : ByteArray) (pos : Nat) (ty : TypeId) (hW : W.heap[p]? = some (.stringIter s pos)) (h : ¬ pos < s.size) :
    (Instr.next (.pointer (some ⟨p, 0, none⟩)) true ty).run P W = .ok (.tuple #[.bool false]) W := by
  simp [Instr.next, getObj, Sem.run, hW, h]
theorem World.setIter_at (W : World) (p : Nat) (s : ByteArray) (pos : Nat) (h : p < W.heap.size) : (W.setIter p s pos).heap[p]? = some (.stringIter s pos) := by
  unfold World.setIter
  simp [h]
theorem World.setIter_below {w W : World} {p : Nat} (h : RowKit.Below w.heap.size w W) (hp : w.heap.size ≤ p) (s : ByteArray) (pos : Nat) : RowKit.Below w.heap.size w (W.setIter p s pos) := by
  obtain ⟨h1, h2, h3, h4, h5⟩ := h
  refine ⟨h1, h2, h3, by unfold World.setIter; simpa using h4, fun j hj => ?_⟩
  rw [← h5 j hj]
  unfold World.setIter
  simp only [Array.getElem?_setIfInBounds]
  rw [if_neg (by omega)]
end Go
namespace Go.Proofs.YtjafjhhmjfpmoaaDoor
open Go.RowKit

theorem ascii_mem {s : ByteArray} (h : ∀ (j : Nat) b, s.data.toList[j]? = some b → b.toNat < 128) : ∀ b ∈ s.data.toList, b.toNat < 128 := fun b hb => by
  obtain ⟨k, hk, e⟩ := List.getElem_of_mem hb
  exact h k b (by rw [List.getElem?_eq_getElem hk, e])

theorem ib_none (c : UInt8) : ∀ l : List UInt8, c ∉ l → Lib.indexByte l c = -1
  | [], _ => rfl
  | b :: l, h => by
    have h1 : (b == c) = false := by
      rw [beq_eq_false_iff_ne]; intro e; exact h (by simp [e])
    have h2 := ib_none c l (fun m => h (by simp [m]))
    rw [Lib.indexByte, h1, h2]; rfl
theorem ib_high (s : ByteArray) (x : UInt8) (hs : ∀ b ∈ s.data.toList, b.toNat < 128) (hx : 128 ≤ x.toNat) (w : World) :
    Calls Tryd.prog 90 #[.string s, .int .u8 (x.toNat : Int)] w fun e w' => e = .returned (.int .i64 (-1)) ∧ w' = w := by
  have h := Tryd.strings_IndexByte s (x.toNat : Int) w
  rw [show ((x.toNat : Int)).toNat.toUInt8 = x by simp, ib_none x _ (fun m => by have := hs x m; omega)] at h
  exact h

set_option maxHeartbeats 4000000 in
set_option maxRecDepth 1000000 in
/-- No rune from 128 on is in an ASCII text. -/
theorem rune_high (s : ByteArray) (r : Int) (w : World) (h0 : 128 ≤ r) (h1 : r ≤ 2147483647) (hs : s.size ≤ 1000) (hascii : ∀ (j : Nat) b, s.data.toList[j]? = some b → b.toNat < 128) :
    Calls Tryd.prog 75 #[.string s, .int .i32 r] w fun e w' => e = .returned (.int .i64 (-1)) ∧ Below w.heap.size w w' := by
  have HA := Lib.hid hascii
  clear hascii
  by_cases hr : r = 65533
  · subst hr
    go_enter Tryd.func75, Tryd.ntmps75
    go_wp2
    go_loopg [5, 6] s.size (fun g _ _ wx => ∃ i : Nat, i + g = s.size ∧ wx = w.iter s i)
    case atStart => exact ⟨0, by omega, rfl⟩
    case round =>
      obtain ⟨i, hig, rfl⟩ := hrel
      cases gk with
      | zero =>
        obtain rfl : i = s.size := by omega
        have hnx := run_next_end (P := Tryd.prog) w s s.size
        go_wp2
        go_ret
        exact ⟨rfl, (Below.refl _ _).alloc (Nat.le_refl _) _⟩
      | succ g =>
        have hi : i < s.size := by omega
        obtain ⟨x, hx⟩ : ∃ x : UInt8, s[i]'hi = x := ⟨_, rfl⟩
        have hx128 : x.toNat < 128 := HA.out i x (by rw [← hx]; exact Lib.data_getElem? s i hi)
        have hnx := fun ty => run_next_ascii (P := Tryd.prog) w s i ty hi (by rw [hx]; exact hx128)
        rw [hx] at hnx
        have hne : ((x.toNat : Int) == 65533) = false := by simp; omega
        clear hx
        go_wp2
        go_roundg g
        case measure => omega
        case rel => exact ⟨i + 1, by omega, rfl⟩
  · have hr1 : (r == 65533) = false := by simpa using hr
    by_cases hv : Lib.validRune r = true
    · go_enter Tryd.func75, Tryd.ntmps75
      go_wp2_with (go_at_call 91; refine (Tryd.utf8_ValidRune _ _).mono ?_; rintro e w' ⟨rfl, hw⟩; rw [hw, hv])
      go_step3
      go_wp2
      have hval : Utf8.valid r = true := by
        unfold Lib.validRune at hv
        have := of_decide_eq_true hv
        simp only [Utf8.valid]
        simp; omega
      obtain ⟨f1, f2, f3⟩ := encode_facts r hval h0
      obtain ⟨E, hE⟩ : ∃ E, E = Utf8.encode r := ⟨_, rfl⟩
      rw [← hE] at f1 f2 f3 ⊢
      have hm : E.size = 2 ∨ E.size = 3 ∨ E.size = 4 := by omega
      clear hE hv hval
      rcases hm with hm | hm | hm
      · have he : (E.size : Int) = 2 := by omega
        have hw : wrap64 ((E.size : Int) - 1) = 1 := by rw [he]; first | rfl | simp [wrap64]
        rw [hw]
        by_cases hl : s.size ≤ 1
        · have hl' : (s.size : Int) ≤ 1 := by omega
          refine wp_loop_rounds 2 ?_
          rw [rounds_succ]
          go_wp2_with fail
          rw [Exit.noGoto_ret]
          go_ret
          exact ⟨rfl, Below.refl _ _⟩
        · have hl' : (1 : Int) < s.size := by omega
          have hl2 : (2 : Int) ≤ s.size := by omega
          refine wp_loop_rounds 2 ?_
          rw [rounds_succ]
          obtain ⟨y, hy⟩ : ∃ y : UInt8, s[1]'(by omega) = y := ⟨_, rfl⟩
          obtain ⟨x, hx⟩ : ∃ x : UInt8, E[1]'(by omega) = x := ⟨_, rfl⟩
          have hy1 : y.toNat < 128 := HA.out 1 y (by rw [← hy]; exact Lib.data_getElem? s 1 (by omega))
          have hx1 : 128 ≤ x.toNat := by have := f3 (by omega); simp only [hm] at this; rw [← hx]; exact this
          have hyx : ((y.toNat : Int) != (x.toNat : Int)) = true := by simp; omega
          have ib := fun w => ib_high (s.extract 2 s.size) x (fun b hb => ascii_mem HA.out b (mem_extract hb)) hx1 w
          have IB := Lib.hid ib
          clear ib
          go_wp2_with fail
          go_step3
          go_wp2_with fail
          go_quiet (fail)
          go_wp2_with fail
          go_quiet ((go_at_call 90; refine (IB.out _).mono ?_; rintro e w2 ⟨rfl, rfl⟩; exact ⟨rfl, _, rfl⟩))
          go_wp2_with fail
          rw [Exit.noGoto_ret]
          go_wp2_with fail
          rw [Exit.noGoto_ret]
          go_ret
          exact ⟨rfl, rfl, rfl, rfl, Nat.le_refl _, fun _ _ => rfl⟩
      · have he : (E.size : Int) = 3 := by omega
        have hw : wrap64 ((E.size : Int) - 1) = 2 := by rw [he]; first | rfl | simp [wrap64]
        rw [hw]
        by_cases hl : s.size ≤ 2
        · have hl' : (s.size : Int) ≤ 2 := by omega
          refine wp_loop_rounds 2 ?_
          rw [rounds_succ]
          go_wp2_with fail
          rw [Exit.noGoto_ret]
          go_ret
          exact ⟨rfl, Below.refl _ _⟩
        · have hl' : (2 : Int) < s.size := by omega
          have hl2 : (3 : Int) ≤ s.size := by omega
          refine wp_loop_rounds 2 ?_
          rw [rounds_succ]
          obtain ⟨y, hy⟩ : ∃ y : UInt8, s[2]'(by omega) = y := ⟨_, rfl⟩
          obtain ⟨x, hx⟩ : ∃ x : UInt8, E[2]'(by omega) = x := ⟨_, rfl⟩
          have hy1 : y.toNat < 128 := HA.out 2 y (by rw [← hy]; exact Lib.data_getElem? s 2 (by omega))
          have hx1 : 128 ≤ x.toNat := by have := f3 (by omega); simp only [hm] at this; rw [← hx]; exact this
          have hyx : ((y.toNat : Int) != (x.toNat : Int)) = true := by simp; omega
          have ib := fun w => ib_high (s.extract 3 s.size) x (fun b hb => ascii_mem HA.out b (mem_extract hb)) hx1 w
          have IB := Lib.hid ib
          clear ib
          go_wp2_with fail
          go_step3
          go_wp2_with fail
          go_quiet (fail)
          go_wp2_with fail
          go_quiet ((go_at_call 90; refine (IB.out _).mono ?_; rintro e w2 ⟨rfl, rfl⟩; exact ⟨rfl, _, rfl⟩))
          go_wp2_with fail
          rw [Exit.noGoto_ret]
          go_wp2_with fail
          rw [Exit.noGoto_ret]
          go_ret
          exact ⟨rfl, rfl, rfl, rfl, Nat.le_refl _, fun _ _ => rfl⟩
      · have he : (E.size : Int) = 4 := by omega
        have hw : wrap64 ((E.size : Int) - 1) = 3 := by rw [he]; first | rfl | simp [wrap64]
        rw [hw]
        by_cases hl : s.size ≤ 3
        · have hl' : (s.size : Int) ≤ 3 := by omega
          refine wp_loop_rounds 2 ?_
          rw [rounds_succ]
          go_wp2_with fail
          rw [Exit.noGoto_ret]
          go_ret
          exact ⟨rfl, Below.refl _ _⟩
        · have hl' : (3 : Int) < s.size := by omega
          have hl2 : (4 : Int) ≤ s.size := by omega
          refine wp_loop_rounds 2 ?_
          rw [rounds_succ]
          obtain ⟨y, hy⟩ : ∃ y : UInt8, s[3]'(by omega) = y := ⟨_, rfl⟩
          obtain ⟨x, hx⟩ : ∃ x : UInt8, E[3]'(by omega) = x := ⟨_, rfl⟩
          have hy1 : y.toNat < 128 := HA.out 3 y (by rw [← hy]; exact Lib.data_getElem? s 3 (by omega))
          have hx1 : 128 ≤ x.toNat := by have := f3 (by omega); simp only [hm] at this; rw [← hx]; exact this
          have hyx : ((y.toNat : Int) != (x.toNat : Int)) = true := by simp; omega
          have ib := fun w => ib_high (s.extract 4 s.size) x (fun b hb => ascii_mem HA.out b (mem_extract hb)) hx1 w
          have IB := Lib.hid ib
          clear ib
          go_wp2_with fail
          go_step3
          go_wp2_with fail
          go_quiet (fail)
          go_wp2_with fail
          go_quiet ((go_at_call 90; refine (IB.out _).mono ?_; rintro e w2 ⟨rfl, rfl⟩; exact ⟨rfl, _, rfl⟩))
          go_wp2_with fail
          rw [Exit.noGoto_ret]
          go_wp2_with fail
          rw [Exit.noGoto_ret]
          go_ret
          exact ⟨rfl, rfl, rfl, rfl, Nat.le_refl _, fun _ _ => rfl⟩
    · have hv' : Lib.validRune r = false := by simpa using hv
      go_enter Tryd.func75, Tryd.ntmps75
      go_wp2_with (go_at_call 91; refine (Tryd.utf8_ValidRune _ _).mono ?_; rintro e w' ⟨rfl, hw⟩; rw [hw, hv'])
      go_ret
      exact ⟨rfl, Below.refl _ _⟩

theorem noAny_cover {s chars : ByteArray} {i n : Nat} (h : Lib.NoAny s.data.toList chars.data.toList i) (hc : ∀ b ∈ chars.data.toList, b.toNat < 128)
    (hn : i + n ≤ s.size) (hb : ∀ k, i ≤ k → k < i + n → 128 ≤ (s.get! k).toNat) : Lib.NoAny s.data.toList chars.data.toList (i + n) := fun j b hj e => by
  by_cases hij : j < i
  · exact h j b hij e
  · have hjs : j < s.size := by omega
    have h1 := hb j (by omega) hj
    have h2 : s.get! j = b := by
      have := Lib.data_getElem? s j hjs
      rw [e] at this
      have e2 : s.get! j = s[j]'hjs := get_at s j hjs
      rw [e2]; exact (Option.some.inj this).symm
    rw [h2] at h1
    cases hcc : chars.data.toList.contains b
    · rfl
    · have := hc b (List.contains_iff_mem.1 hcc)
      omega

set_option maxHeartbeats 8000000 in
set_option maxRecDepth 1000000 in
/-- strings.IndexAny at s of at most 8 bytes, whatever they are; chars of two or more ASCII bytes. -/
theorem any_short (s chars : ByteArray) (w : World) (h2 : 2 ≤ chars.size) (hcs : chars.size ≤ 1000) (h8 : s.size ≤ 8) (hac : ∀ (j : Nat) b, chars.data.toList[j]? = some b → b.toNat < 128) :
    Calls Tryd.prog 54 #[.string s, .string chars] w fun e w' => e = .returned (.int .i64 (Lib.indexAny s.data.toList chars.data.toList)) ∧ Below w.heap.size w w' := by
  have HA := Lib.hid hac
  clear hac
  have hemp : chars.toList.isEmpty = false := by
    rw [Lib.toList_data]
    cases h : chars.data.toList with
    | nil => have := Lib.size_eq chars; rw [h, List.length_nil] at this; omega
    | cons _ _ => rfl
  have hn1 : ((chars.size : Int) == 1) = false := beq_eq_false_iff_ne.2 (by omega)
  have h8z : decide ((8 : Int) < (s.size : Int)) = false := decide_eq_false (by omega)
  go_enter Tryd.func54, Tryd.ntmps54
  go_wp2_with (go_at_call 76; refine (Tryd.strings_shouldUseASCIISet _ _).mono ?_; rintro e w' ⟨rfl, hw⟩; rw [hw, h8z])
  go_loopg [9, 10] s.size (fun g _ _ wx => ∃ i : Nat, i ≤ s.size ∧ g = s.size - i ∧ w.heap.size < wx.heap.size ∧ wx.heap[w.heap.size]? = some (.stringIter s i) ∧ Below w.heap.size w wx ∧ Lib.NoAny s.data.toList chars.data.toList i)
  case atStart => exact ⟨0, by omega, by omega, by simp [World.iter], World.iter_heap w s 0, (Below.refl _ _).alloc (Nat.le_refl _) _, Lib.NoAny.zero _ _⟩
  case round =>
    obtain ⟨i, hi, hg, hlt, hit, hbw, hno⟩ := hrel
    have HN := Lib.hid hno
    have HW := Lib.hid hbw
    have HI := Lib.hid hit
    have HG := Lib.hid hg
    clear hno hbw hit hg
    by_cases his : i < s.size
    · obtain ⟨x, hx⟩ : ∃ x : UInt8, s[i]'his = x := ⟨_, rfl⟩
      have hxl : s.data.toList[i]? = some x := by rw [← hx]; exact Lib.data_getElem? s i his
      by_cases hx128 : x.toNat < 128
      · have hd : Utf8.decode s i = (x.toNat, 1) := by rw [decode_ascii s i his (by rw [hx]; exact hx128), hx]
        have hnx := fun ty => run_next_some (P := Tryd.prog) wr w.heap.size s i ty HI.out his
        rw [hd] at hnx
        have hat := World.setIter_at wr w.heap.size s (i + 1) hlt
        have hbl := World.setIter_below HW.out (Nat.le_refl _) s (i + 1)
        have hsz : w.heap.size < (wr.setIter w.heap.size s (i + 1)).heap.size := by unfold World.setIter; simpa using hlt
        obtain ⟨W2, hW2⟩ : ∃ W2, W2 = wr.setIter w.heap.size s (i + 1) := ⟨_, rfl⟩
        rw [← hW2] at hat hbl hsz
        have hnx2 : ∀ ty, (Instr.next (.pointer (some ⟨w.heap.size, 0, none⟩)) true ty).run Tryd.prog wr = .ok (.tuple #[.bool true, .int .i64 i, .int .i32 x.toNat]) W2 := fun ty => by rw [hW2]; exact hnx ty
        have HAT := Lib.hid hat
        have HBL := Lib.hid hbl
        have HX := Lib.hid hxl
        clear hnx hat hbl hW2 hd hx hxl
        have hcon := Lib.contains_iff_indexByte chars.data.toList x
        have hback : ((x.toNat : Int)).toNat.toUInt8 = x := by simp
        cases hin : chars.data.toList.contains x
        · rw [hin] at hcon
          have hltz : ¬ ((0 : Int) ≤ Lib.indexByte chars.data.toList x) := of_decide_eq_false hcon.symm
          clear hcon
          go_wp2_with (go_at_call 75; refine (Tryd.strings_IndexRune_ascii _ _ _ (by omega) (by omega)).mono ?_; rintro e w' ⟨rfl, hw⟩; rw [hw, hback])
          go_roundg (s.size - (i + 1))
          case measure => have := HG.out; omega
          case rel => exact ⟨i + 1, by omega, by omega, hsz, HAT.out, HBL.out, HN.out.succ HX.out hin⟩
        · rw [hin] at hcon
          have hge : (0 : Int) ≤ Lib.indexByte chars.data.toList x := of_decide_eq_true hcon.symm
          clear hcon
          go_wp2_with (go_at_call 75; refine (Tryd.strings_IndexRune_ascii _ _ _ (by omega) (by omega)).mono ?_; rintro e w' ⟨rfl, hw⟩; rw [hw, hback])
          go_ret
          exact ⟨by rw [Lib.indexAny_hit HN.out HX.out hin]; rfl, HBL.out⟩
      · have hhi : 128 ≤ (s[i]'his).toNat := by rw [hx]; omega
        have hdh := decode_high s i his hhi
        have hdl := decode_le s i
        have hdc := decode_cover s i his hhi
        have hnx := fun ty => run_next_some (P := Tryd.prog) wr w.heap.size s i ty HI.out his
        obtain ⟨R, hR⟩ : ∃ R, R = (Utf8.decode s i).1 := ⟨_, rfl⟩
        obtain ⟨k, hk⟩ : ∃ k, k = (Utf8.decode s i).2 := ⟨_, rfl⟩
        rw [← hR] at hnx hdh hdl
        rw [← hk] at hnx hdh hdc
        obtain ⟨hd1, hd2⟩ := hdh
        have hno2 := noAny_cover HN.out (ascii_mem HA.out) hdc.1 hdc.2
        have hdc1 := hdc.1
        have hat := World.setIter_at wr w.heap.size s (i + k) hlt
        have hbl := World.setIter_below HW.out (Nat.le_refl _) s (i + k)
        have hsz : w.heap.size < (wr.setIter w.heap.size s (i + k)).heap.size := by unfold World.setIter; simpa using hlt
        obtain ⟨W2, hW2⟩ : ∃ W2, W2 = wr.setIter w.heap.size s (i + k) := ⟨_, rfl⟩
        rw [← hW2] at hat hbl hsz
        have hnx2 : ∀ ty, (Instr.next (.pointer (some ⟨w.heap.size, 0, none⟩)) true ty).run Tryd.prog wr = .ok (.tuple #[.bool true, .int .i64 i, .int .i32 R]) W2 := fun ty => by rw [hW2]; exact hnx ty
        have hrh := rune_high chars (R : Int) W2 (by omega) (by omega) hcs HA.out
        have RH := Lib.hid hrh
        have HAT := Lib.hid hat
        have HBL := Lib.hid hbl
        have HN2 := Lib.hid hno2
        clear hnx hat hbl hW2 hx hxl hdc hno2 hrh hR hk hhi
        go_wp2_with fail
        refine RH.out.mono ?_
        rintro e w3 ⟨rfl, h3⟩
        have H3 := Lib.hid h3
        clear h3
        go_wp2_with fail
        go_roundg (s.size - (i + k))
        case measure => have := HG.out; omega
        case rel => exact ⟨i + k, hdc1, rfl, Nat.lt_of_lt_of_le hsz H3.out.size, (H3.out.block _ hsz).trans HAT.out, thenB HBL.out H3.out, HN2.out⟩
    · obtain rfl : i = s.size := by omega
      have hnx := fun ty => run_next_none (P := Tryd.prog) wr w.heap.size s s.size ty HI.out his
      go_wp2
      go_ret
      exact ⟨by rw [Lib.indexAny_none (by rw [← Lib.size_eq]; exact HN.out)]; rfl, HW.out⟩

/-- strings.ContainsAny; chars are two or more ASCII bytes. -/
theorem contains_any (s chars : ByteArray) (w : World) (h2 : 2 ≤ chars.size) (hcs : chars.size ≤ 1000) (hs : s.size < 4294967281) (hac : ∀ (j : Nat) b, chars.data.toList[j]? = some b → b.toNat < 128) :
    Calls Tryd.prog 44 #[.string s, .string chars] w fun e w' => e = .returned (.bool (Lib.containsAny s.data.toList chars.data.toList)) ∧ Below w.heap.size w w' := by
  have h : Calls Tryd.prog 54 #[.string s, .string chars] w fun e w' => e = .returned (.int .i64 (Lib.indexAny s.data.toList chars.data.toList)) ∧ Below w.heap.size w w' := by
    by_cases h8 : s.size ≤ 8
    · exact any_short s chars w h2 hcs h8 hac
    · refine (Any.strings_IndexAny_long Tryd.lays153 (zero_of_info (v := .agg (Array.replicate 256 (.bool false))) (n := 256) (by kernel_rfl)).1 (zero_of_info (v := .agg (Array.replicate 256 (.bool false))) (n := 256) (by kernel_rfl)).2 s chars w h2 (by omega) hs (by omega) hac).mono ?_
      rintro e w' ⟨h1, rfl⟩
      exact ⟨h1, ((Below.refl _ _).alloc (Nat.le_refl _) _).alloc (by simp) _⟩
  have H := Lib.hid h
  clear h
  go_enter Tryd.func44, Tryd.ntmps44
  go_wp2_with (go_at_call 54; refine H.out.mono ?_; rintro e w' ⟨rfl, hw⟩)
  go_ret
  exact ⟨rfl, hw⟩

theorem containsAny_mem (s chars : List UInt8) : Lib.containsAny s chars = true ↔ ∃ b ∈ s, b ∈ chars := by
  unfold Lib.containsAny
  rw [decide_eq_true_iff]
  induction s with
  | nil => simp [Lib.indexAny]
  | cons b l ih =>
    have hge := Lib.indexAny_ge chars l
    rw [Lib.indexAny]
    by_cases hc : chars.contains b = true
    · rw [if_pos hc]
      simp only [Int.le_refl, true_iff]
      exact ⟨b, by simp, List.contains_iff_mem.1 hc⟩
    · rw [if_neg hc]
      have hb : b ∉ chars := fun m => hc (List.contains_iff_mem.2 m)
      have e : (∃ x ∈ b :: l, x ∈ chars) ↔ ∃ x ∈ l, x ∈ chars := by simp [hb]
      rw [e, ← ih]
      by_cases hm : Lib.indexAny l chars = -1
      · rw [hm]; simp
      · rw [if_neg (by simpa using hm)]; omega

end Go.Proofs.YtjafjhhmjfpmoaaDoor
