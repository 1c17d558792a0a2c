/-
  glob.Match and Right: what they answer; 'matched'.
-/
import Derived.Test.YtpoofienimigaaaGlobE
import Derived.Test.YtpoofienimigaaaGlobLaws
namespace Go.Proofs.Ytpoofienimigaaa
open Go.RowKit

/-- An error's number as a value of type error. -/
def errV (n : Nat) : Value := if n = 0 then .nilIface else .iface 36 (.int .i64 n)

theorem match_some (p s : ByteArray) (l : List Glb.Tok) (w : World) (hp : p.size ≤ 120) (hs : s.size ≤ 120) (ht : Glb.toks p.data.toList = some l) :
    Calls Try.prog 9 #[.string p, .string s] w fun e w' => e = .returned (.tuple #[.bool (Glb.matchB l s.data.toList), .nilIface]) ∧ Below w.heap.size w w' := by
  have hl : l.length ≤ p.size := by have := Glb.parse_len _ _ _ ht; simpa using this
  have hp' : ((p.size : Int) ≤ 120) := by omega
  have hs' : ((s.size : Int) ≤ 120) := by omega
  have HT := Lib.hid ht
  clear ht
  go_enter Try.func9, Try.ntmps9
  go_wp2_with fail
  refine (parse_walk p w (by omega)).mono ?_
  rw [HT.out]
  rintro e w1 ⟨v, rfl, hv, hb⟩
  have HV := Lib.hid hv
  have HB := Lib.hid hb
  clear hv hb
  go_wp2_with fail
  refine (matches_walk w.heap.size v l s w1 HV.out (by omega) (by omega)).mono ?_
  rintro e w2 ⟨rfl, hb2⟩
  have HB2 := Lib.hid hb2
  clear hb2
  go_wp2_with fail
  go_ret2
  exact ⟨rfl, HB.out.trans (HB2.out.mono HB.out.size)⟩

theorem match_none (p s : ByteArray) (w : World) (hp : p.size ≤ 120) (hs : s.size ≤ 120) (ht : Glb.toks p.data.toList = none) :
    Calls Try.prog 9 #[.string p, .string s] w fun e w' => e = .returned (.tuple #[.bool false, .iface 36 (.int .i64 3)]) ∧ Below w.heap.size w w' := by
  have hp' : ((p.size : Int) ≤ 120) := by omega
  have hs' : ((s.size : Int) ≤ 120) := by omega
  have HT := Lib.hid ht
  clear ht
  go_enter Try.func9, Try.ntmps9
  go_wp2_with fail
  refine (parse_walk p w (by omega)).mono ?_
  rw [HT.out]
  rintro e w1 ⟨rfl, hb⟩
  have HB := Lib.hid hb
  clear hb
  go_wp2_with fail
  go_ret2
  exact ⟨rfl, HB.out⟩

theorem match_big (p s : ByteArray) (w : World) (h : 120 < p.size ∨ 120 < s.size) :
    Calls Try.prog 9 #[.string p, .string s] w fun e w' => e = .returned (.tuple #[.bool false, .iface 36 (.int .i64 4)]) ∧ Below w.heap.size w w' := by
  by_cases hp : 120 < p.size
  · have hp' : ((120 : Int) < p.size) := by omega
    have hd : decide ((120 : Int) < p.size) = true := by simpa using hp'
    clear h
    go_enter Try.func9, Try.ntmps9
    go_wp2_with fail
    go_ret2
    exact ⟨rfl, Below.refl _ _⟩
  · have hp' : ((p.size : Int) ≤ 120) := by omega
    have hs' : ((120 : Int) < s.size) := by omega
    clear h
    go_enter Try.func9, Try.ntmps9
    go_wp2_with fail
    go_ret2
    exact ⟨rfl, Below.refl _ _⟩

/-- glob.Match, whatever comes in. -/
theorem match_any (p s : ByteArray) (w : World) :
    Calls Try.prog 9 #[.string p, .string s] w fun e w' => e = .returned (.tuple #[.bool (Glb.mres p.data.toList s.data.toList).1, errV (Glb.mres p.data.toList s.data.toList).2]) ∧ Below w.heap.size w w' := by
  have lp : p.data.toList.length = p.size := by simp
  have ls : s.data.toList.length = s.size := by simp
  unfold Glb.mres
  rw [lp, ls]
  by_cases hp : 120 < p.size
  · rw [if_pos hp]; exact match_big p s w (.inl hp)
  · rw [if_neg hp]
    by_cases hs : 120 < s.size
    · rw [if_pos hs]; exact match_big p s w (.inr hs)
    · rw [if_neg hs]
      cases ht : Glb.toks p.data.toList with
      | none => exact match_none p s w (by omega) (by omega) ht
      | some l => exact match_some p s l w (by omega) (by omega) ht

theorem right_any (p : ByteArray) (w : World) :
    Calls Try.prog 14 #[.string p] w fun e w' => e = .returned (.bool (decide (p.size ≤ 120) && (Glb.toks p.data.toList).isSome)) ∧ Below w.heap.size w w' := by
  by_cases hp : 120 < p.size
  · have hp' : ((120 : Int) < p.size) := by omega
    have hd : decide (p.size ≤ 120) = false := by simp; omega
    go_enter Try.func14, Try.ntmps14
    go_wp2_with fail
    go_ret
    exact ⟨by rw [hd]; rfl, Below.refl _ _⟩
  · have hp' : ((p.size : Int) ≤ 120) := by omega
    have hd := Lib.hid (show decide (p.size ≤ 120) = true by simp; omega)
    go_enter Try.func14, Try.ntmps14
    go_wp2_with fail
    refine (parse_walk p w (by omega)).mono ?_
    cases ht : Glb.toks p.data.toList with
    | none =>
      rintro e w1 ⟨rfl, hb⟩
      have HB := Lib.hid hb
      have HT := Lib.hid ht
      clear hb ht
      go_wp2_with fail
      go_ret
      exact ⟨by rw [hd.out, HT.out]; rfl, HB.out⟩
    | some l =>
      rintro e w1 ⟨v, rfl, hv, hb⟩
      have HB := Lib.hid hb
      have HT := Lib.hid ht
      clear hb hv ht
      go_wp2_with fail
      go_ret
      exact ⟨by rw [hd.out, HT.out]; rfl, HB.out⟩

theorem mfact1 : Glb.mres [42, 46, 91, 99, 104, 93] [120, 46, 99] = (true, 0) := by decide +kernel
theorem mfact2 : Glb.mres [42, 46, 99] [97, 47, 120, 46, 99] = (false, 0) := by decide +kernel
theorem mfact3 : Glb.mres [42, 42, 46, 99] [97, 47, 120, 46, 99] = (true, 0) := by decide +kernel
theorem mfact4 : (Glb.toks [91, 97]).isSome = false := by decide +kernel

/-- Match at texts whose answer is known. -/
theorem match_is (p s : ByteArray) (w : World) (x : Bool) (h : Glb.mres p.data.toList s.data.toList = (x, 0)) :
    Calls Try.prog 9 #[.string p, .string s] w fun e w' => e = .returned (.tuple #[.bool x, .nilIface]) ∧ Below w.heap.size w w' := by
  refine (match_any p s w).mono ?_
  rw [h]
  exact fun _ _ h => h

theorem match_lit (p s : List UInt8) (w : World) (x : Bool) (h : Glb.mres p s = (x, 0)) :
    Calls Try.prog 9 #[.string ⟨p.toArray⟩, .string ⟨s.toArray⟩] w fun e w' => e = .returned (.tuple #[.bool x, .nilIface]) ∧ Below w.heap.size w w' :=
  match_is ⟨p.toArray⟩ ⟨s.toArray⟩ w x h

set_option maxHeartbeats 1000000 in
theorem matched_any (w : World) : Calls Try.prog 8 #[] w fun e w' => e = .returned (.bool true) ∧ Below w.heap.size w w' := by
  go_enter Try.func8, Try.ntmps8
  go_wp2_with fail
  refine (match_lit [42, 46, 91, 99, 104, 93] [120, 46, 99] _ true mfact1).mono ?_
  rintro e w1 ⟨rfl, hb1⟩
  have B1 := Lib.hid hb1
  clear hb1
  go_wp2_with fail
  refine (match_lit [42, 46, 99] [97, 47, 120, 46, 99] _ false mfact2).mono ?_
  rintro e w2 ⟨rfl, hb2⟩
  have B2 := Lib.hid (B1.out.trans (hb2.mono B1.out.size))
  clear hb2
  go_wp2_with fail
  refine (match_lit [42, 42, 46, 99] [97, 47, 120, 46, 99] _ true mfact3).mono ?_
  rintro e w3 ⟨rfl, hb3⟩
  have B3 := Lib.hid (B2.out.trans (hb3.mono B2.out.size))
  clear hb3
  go_wp2_with fail
  refine (right_any ⟨#[91, 97]⟩ _).mono ?_
  rw [show (decide ((⟨#[91, 97]⟩ : ByteArray).size ≤ 120) && (Glb.toks (⟨#[91, 97]⟩ : ByteArray).data.toList).isSome) = false from mfact4]
  rintro e w4 ⟨rfl, hb4⟩
  have B4 := Lib.hid (B3.out.trans (hb4.mono B3.out.size))
  clear hb4
  go_wp2_with fail
  go_ret
  exact ⟨rfl, B4.out⟩

/-- What Match answers, as a value and an error's value: none, or a number. -/
theorem match_named (p s : ByteArray) : ∃ (x : Bool) (E : Value), (∀ w : World, Calls Try.prog 9 #[.string p, .string s] w fun e w' => e = .returned (.tuple #[.bool x, E]) ∧ Below w.heap.size w w') ∧
    ((E = .nilIface ∧ Glb.mres p.data.toList s.data.toList = (x, 0)) ∨ ∃ n : Int, E = .iface 36 (.int .i64 n)) := by
  refine ⟨(Glb.mres p.data.toList s.data.toList).1, errV (Glb.mres p.data.toList s.data.toList).2, fun w => match_any p s w, ?_⟩
  by_cases h : (Glb.mres p.data.toList s.data.toList).2 = 0
  · left
    rw [h]
    exact ⟨rfl, Prod.ext rfl h⟩
  · right
    exact ⟨_, by rw [errV, if_neg h]⟩

end Go.Proofs.Ytpoofienimigaaa
