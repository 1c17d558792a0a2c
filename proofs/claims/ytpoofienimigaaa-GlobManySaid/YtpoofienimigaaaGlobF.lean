/-
  glob.Match, Right and Quote: what they answer.
-/
import Derived.Test.YtpoofienimigaaaGlobE
import Derived.Test.YtpoofienimigaaaBuilder
import Derived.Test.YtpoofienimigaaaShelf
namespace Go.Proofs.Ytpoofienimigaaa
open Go.RowKit

/-- An error's number as a value of type error. -/
def errV (n : Nat) : Value := if n = 0 then .nilIface else .iface 36 (.int .i64 n)

theorem match_some (p s : ByteArray) (l : List Glb.Tok) (w : World) (hp : p.size ≤ 120) (hs : s.size ≤ 120) (ht : Glb.toks p.data.toList = some l) :
    Calls Try.prog 9 #[.string p, .string s] w fun e w' => e = .returned (.tuple #[.bool (Glb.matchB l s.data.toList), .nilIface]) ∧ Below w.heap.size w w' := by
  have hl : l.length ≤ p.size := by have := Glb.parse_len _ _ _ ht; simpa using this
  have hp' : ((p.size : Int) ≤ 120) := by omega
  have hs' : ((s.size : Int) ≤ 120) := by omega
  have HT := Lib.hid ht
  clear ht
  go_enter Try.func9, Try.ntmps9
  go_wp2_with fail
  refine (parse_walk p w (by omega)).mono ?_
  rw [HT.out]
  rintro e w1 ⟨v, rfl, hv, hb⟩
  have HV := Lib.hid hv
  have HB := Lib.hid hb
  clear hv hb
  go_wp2_with fail
  refine (matches_walk w.heap.size v l s w1 HV.out (by omega) (by omega)).mono ?_
  rintro e w2 ⟨rfl, hb2⟩
  have HB2 := Lib.hid hb2
  clear hb2
  go_wp2_with fail
  go_ret2
  exact ⟨rfl, HB.out.trans (HB2.out.mono HB.out.size)⟩

theorem match_none (p s : ByteArray) (w : World) (hp : p.size ≤ 120) (hs : s.size ≤ 120) (ht : Glb.toks p.data.toList = none) :
    Calls Try.prog 9 #[.string p, .string s] w fun e w' => e = .returned (.tuple #[.bool false, .iface 36 (.int .i64 3)]) ∧ Below w.heap.size w w' := by
  have hp' : ((p.size : Int) ≤ 120) := by omega
  have hs' : ((s.size : Int) ≤ 120) := by omega
  have HT := Lib.hid ht
  clear ht
  go_enter Try.func9, Try.ntmps9
  go_wp2_with fail
  refine (parse_walk p w (by omega)).mono ?_
  rw [HT.out]
  rintro e w1 ⟨rfl, hb⟩
  have HB := Lib.hid hb
  clear hb
  go_wp2_with fail
  go_ret2
  exact ⟨rfl, HB.out⟩

theorem match_big (p s : ByteArray) (w : World) (h : 120 < p.size ∨ 120 < s.size) :
    Calls Try.prog 9 #[.string p, .string s] w fun e w' => e = .returned (.tuple #[.bool false, .iface 36 (.int .i64 4)]) ∧ Below w.heap.size w w' := by
  by_cases hp : 120 < p.size
  · have hp' : ((120 : Int) < p.size) := by omega
    have hd : decide ((120 : Int) < p.size) = true := by simpa using hp'
    clear h
    go_enter Try.func9, Try.ntmps9
    go_wp2_with fail
    go_ret2
    exact ⟨rfl, Below.refl _ _⟩
  · have hp' : ((p.size : Int) ≤ 120) := by omega
    have hs' : ((120 : Int) < s.size) := by omega
    clear h
    go_enter Try.func9, Try.ntmps9
    go_wp2_with fail
    go_ret2
    exact ⟨rfl, Below.refl _ _⟩

/-- glob.Match, whatever comes in. -/
theorem match_any (p s : ByteArray) (w : World) :
    Calls Try.prog 9 #[.string p, .string s] w fun e w' => e = .returned (.tuple #[.bool (Glb.mres p.data.toList s.data.toList).1, errV (Glb.mres p.data.toList s.data.toList).2]) ∧ Below w.heap.size w w' := by
  have lp : p.data.toList.length = p.size := by simp
  have ls : s.data.toList.length = s.size := by simp
  unfold Glb.mres
  rw [lp, ls]
  by_cases hp : 120 < p.size
  · rw [if_pos hp]; exact match_big p s w (.inl hp)
  · rw [if_neg hp]
    by_cases hs : 120 < s.size
    · rw [if_pos hs]; exact match_big p s w (.inr hs)
    · rw [if_neg hs]
      cases ht : Glb.toks p.data.toList with
      | none => exact match_none p s w (by omega) (by omega) ht
      | some l => exact match_some p s l w (by omega) (by omega) ht

theorem right_any (p : ByteArray) (w : World) :
    Calls Try.prog 14 #[.string p] w fun e w' => e = .returned (.bool (decide (p.size ≤ 120) && (Glb.toks p.data.toList).isSome)) ∧ Below w.heap.size w w' := by
  by_cases hp : 120 < p.size
  · have hp' : ((120 : Int) < p.size) := by omega
    have hd : decide (p.size ≤ 120) = false := by simp; omega
    go_enter Try.func14, Try.ntmps14
    go_wp2_with fail
    go_ret
    exact ⟨by rw [hd]; rfl, Below.refl _ _⟩
  · have hp' : ((p.size : Int) ≤ 120) := by omega
    have hd := Lib.hid (show decide (p.size ≤ 120) = true by simp; omega)
    go_enter Try.func14, Try.ntmps14
    go_wp2_with fail
    refine (parse_walk p w (by omega)).mono ?_
    cases ht : Glb.toks p.data.toList with
    | none =>
      rintro e w1 ⟨rfl, hb⟩
      have HB := Lib.hid hb
      have HT := Lib.hid ht
      clear hb ht
      go_wp2_with fail
      go_ret
      exact ⟨by rw [hd.out, HT.out]; rfl, HB.out⟩
    | some l =>
      rintro e w1 ⟨v, rfl, hv, hb⟩
      have HB := Lib.hid hb
      have HT := Lib.hid ht
      clear hb hv ht
      go_wp2_with fail
      go_ret
      exact ⟨by rw [hd.out, HT.out]; rfl, HB.out⟩

/-- Where a byte stands among those that a pattern reads otherwise. -/
def idx (c : UInt8) : Int := Lib.indexByte [42, 63, 91, 92] c
theorem idx_special (c : UInt8) : Glb.special c = decide (0 ≤ idx c) := by
  have hm : -1 ≤ Lib.indexByte ([] : List UInt8) c := Lib.indexByte_ge [] c
  by_cases h1 : c = 42
  · subst h1; decide
  by_cases h2 : c = 63
  · subst h2; decide
  by_cases h3 : c = 91
  · subst h3; decide
  by_cases h4 : c = 92
  · subst h4; decide
  have e1 : ((42 : UInt8) == c) = false := by simpa using fun h => h1 h.symm
  have e2 : ((63 : UInt8) == c) = false := by simpa using fun h => h2 h.symm
  have e3 : ((91 : UInt8) == c) = false := by simpa using fun h => h3 h.symm
  have e4 : ((92 : UInt8) == c) = false := by simpa using fun h => h4 h.symm
  simp [Glb.special, idx, Lib.indexByte, h1, h2, h3, h4, e1, e2, e3, e4]

theorem special_any (c : UInt8) (w : World) : Calls Try.prog 19 #[.string ⟨#[42, 63, 91, 92]⟩, .int .u8 c.toNat] w fun e w' => e = .returned (.int .i64 (idx c)) ∧ w' = w := by
  have := Try.strings_IndexByte ⟨#[42, 63, 91, 92]⟩ c.toNat w
  have e : ((c.toNat : Int)).toNat.toUInt8 = c := by simp
  rw [e] at this
  exact this

theorem take_snoc (s : ByteArray) (k : Nat) (h : k < s.size) : s.data.toList.take (k + 1) = s.data.toList.take k ++ [s[k]] := by
  rw [List.take_succ_eq_append_getElem (by simpa using h)]; rfl

set_option maxHeartbeats 1000000 in
theorem quote_any (s : ByteArray) (w : World) (hs : s.size ≤ 1000000) :
    Calls Try.prog 10 #[.string s] w fun e w' => e = .returned (.string ⟨(Glb.quote s.data.toList).toArray⟩) ∧ Below w.heap.size w w' := by
  go_enter Try.func10, Try.ntmps10
  go_wp2_with fail
  obtain ⟨w1, hw1⟩ : ∃ w1, w1 = w.alloc (Obj.cells #[Value.pointer none, Value.slice none 0 0] 43) := ⟨_, rfl⟩
  rw [← hw1]
  have hb1 : Lib.IsBuilder 43 5 w.heap.size w.heap.size [] w1 := by
    rw [hw1]
    exact .inl ⟨Nat.le_refl _, .slice none 0 0, heap_alloc_new w _, World.ownsRow_nil _ _ _ _, by simp [Value.ownBlock]⟩
  have hbl : Below w.heap.size w w1 := by rw [hw1]; exact (Below.refl _ _).alloc (Nat.le_refl _) _
  clear hw1
  go_loopg [7] (s.size) (fun g iv wr => ∃ k : Nat, iv = .int .i64 k ∧ k ≤ s.size ∧ g + k = s.size ∧ Lib.IsBuilder 43 5 w.heap.size w.heap.size (Lib.byteCells (Glb.quote (s.data.toList.take k))) wr ∧ Below w.heap.size w wr)
  case atStart => exact ⟨0, rfl, by omega, by omega, by simpa [Glb.quote, Lib.byteCells] using hb1, hbl⟩
  case round =>
    obtain ⟨k, rfl, hk, hg, hB, hb⟩ := hrel
    clear hb1 hbl
    have HB := Lib.hid hB
    have Hb := Lib.hid hb
    have Hg := Lib.hid hg
    clear hB hb hg
    by_cases hk2 : k < s.size
    · have hk3 : (k : Int) < s.size := by omega
      have hq := Glb.quote_len (s.data.toList.take k)
      have hl : (Lib.byteCells (Glb.quote (s.data.toList.take k))).length ≤ 2 * k := by
        rw [Lib.byteCells_length]
        have : (s.data.toList.take k).length ≤ k := List.length_take_le _ _
        omega
      have hts := take_snoc s k hk2
      by_cases hx : 0 ≤ idx s[k]
      · have hsp : Glb.special s[k] = true := by rw [idx_special]; simpa using hx
        have hqt : Lib.byteCells (Glb.quote (s.data.toList.take (k + 1))) = Lib.byteCells (Glb.quote (s.data.toList.take k)) ++ [.int .u8 92] ++ [.int .u8 s[k].toNat] := by
          rw [hts, Glb.quote_append]; simp [Glb.quote, hsp, Lib.byteCells]
        have HQ := Lib.hid hqt
        clear hts hsp hqt hq
        go_wp2_with fail
        refine (special_any s[k] _).mono ?_
        rintro e w2 ⟨rfl, rfl⟩
        go_wp2_with fail
        refine (writeByte_any _ _ _ 92 _ HB.out (by omega) Hb.out.size).mono ?_
        rintro e w3 ⟨rfl, h3, hb3⟩
        have HB3 := Lib.hid (show Lib.IsBuilder 43 5 w.heap.size w.heap.size _ w3 from .inr h3)
        have Hb3 := Lib.hid (Hb.out.trans hb3)
        clear h3 hb3
        go_wp2_with fail
        refine (writeByte_any _ _ _ (s[k].toNat : Int) _ HB3.out (by simp; omega) Hb3.out.size).mono ?_
        rintro e w4 ⟨rfl, h4, hb4⟩
        have HB4 := Lib.hid (show Lib.IsBuilder 43 5 w.heap.size w.heap.size _ w4 from .inr h4)
        have Hb4 := Lib.hid (Hb3.out.trans hb4)
        clear h4 hb4
        go_wp2_with fail
        go_roundg (s.size - (k + 1))
        case measure => have := Hg.out; omega
        case rel => exact ⟨k + 1, by go_num, by omega, by omega, by rw [HQ.out]; exact HB4.out, Hb4.out⟩
      · have hx' : idx s[k] < 0 := by omega
        have hsp : Glb.special s[k] = false := by rw [idx_special]; simpa using hx'
        have hqt : Lib.byteCells (Glb.quote (s.data.toList.take (k + 1))) = Lib.byteCells (Glb.quote (s.data.toList.take k)) ++ [.int .u8 s[k].toNat] := by
          rw [hts, Glb.quote_append]; simp [Glb.quote, hsp, Lib.byteCells]
        have HQ := Lib.hid hqt
        clear hts hsp hqt hq hx
        go_wp2_with fail
        refine (special_any s[k] _).mono ?_
        rintro e w2 ⟨rfl, rfl⟩
        go_wp2_with fail
        refine (writeByte_any _ _ _ (s[k].toNat : Int) _ HB.out (by omega) Hb.out.size).mono ?_
        rintro e w4 ⟨rfl, h4, hb4⟩
        have HB4 := Lib.hid (show Lib.IsBuilder 43 5 w.heap.size w.heap.size _ w4 from .inr h4)
        have Hb4 := Lib.hid (Hb.out.trans hb4)
        clear h4 hb4
        go_wp2_with fail
        go_roundg (s.size - (k + 1))
        case measure => have := Hg.out; omega
        case rel => exact ⟨k + 1, by go_num, by omega, by omega, by rw [HQ.out]; exact HB4.out, Hb4.out⟩
    · have hf : s.data.toList.take k = s.data.toList := List.take_of_length_le (by simp; omega)
      have HB2 : Hid (Lib.IsBuilder 43 5 w.heap.size w.heap.size (Lib.byteCells (Glb.quote s.data.toList)) wr) := by
        have := HB.out
        rw [hf] at this
        exact this
      have hk3 : (s.size : Int) ≤ k := by omega
      clear hf HB
      go_wp2_with fail
      refine (Try.Builder_String_any _ _ _ _ HB2.out Hb.out.size).mono ?_
      rintro e w2 ⟨rfl, hb2⟩
      have Hb2 := Lib.hid (Hb.out.trans hb2)
      clear hb2
      go_wp2_with fail
      go_ret
      exact ⟨rfl, Hb2.out⟩

end Go.Proofs.Ytpoofienimigaaa
