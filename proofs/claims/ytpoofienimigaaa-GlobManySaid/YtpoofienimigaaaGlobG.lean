/-
  The statements' facts: 'matched', and what a quoted name matches.
-/
import Derived.Test.YtpoofienimigaaaGlobF
import Derived.Test.YtpoofienimigaaaGlobLaws
namespace Go.Proofs.Ytpoofienimigaaa
open Go.RowKit

theorem mfact1 : Glb.mres [42, 46, 91, 99, 104, 93] [120, 46, 99] = (true, 0) := by decide +kernel
theorem mfact2 : Glb.mres [42, 46, 99] [97, 47, 120, 46, 99] = (false, 0) := by decide +kernel
theorem mfact3 : Glb.mres [42, 42, 46, 99] [97, 47, 120, 46, 99] = (true, 0) := by decide +kernel
theorem mfact4 : (Glb.toks [91, 97]).isSome = false := by decide +kernel

/-- Match at texts whose answer is known. -/
theorem match_is (p s : ByteArray) (w : World) (x : Bool) (h : Glb.mres p.data.toList s.data.toList = (x, 0)) :
    Calls Try.prog 9 #[.string p, .string s] w fun e w' => e = .returned (.tuple #[.bool x, .nilIface]) ∧ Below w.heap.size w w' := by
  refine (match_any p s w).mono ?_
  rw [h]
  exact fun _ _ h => h

theorem match_lit (p s : List UInt8) (w : World) (x : Bool) (h : Glb.mres p s = (x, 0)) :
    Calls Try.prog 9 #[.string ⟨p.toArray⟩, .string ⟨s.toArray⟩] w fun e w' => e = .returned (.tuple #[.bool x, .nilIface]) ∧ Below w.heap.size w w' :=
  match_is ⟨p.toArray⟩ ⟨s.toArray⟩ w x h

set_option maxHeartbeats 1000000 in
theorem matched_any (w : World) : Calls Try.prog 8 #[] w fun e w' => e = .returned (.bool true) ∧ Below w.heap.size w w' := by
  go_enter Try.func8, Try.ntmps8
  go_wp2_with fail
  refine (match_lit [42, 46, 91, 99, 104, 93] [120, 46, 99] _ true mfact1).mono ?_
  rintro e w1 ⟨rfl, hb1⟩
  have B1 := Lib.hid hb1
  clear hb1
  go_wp2_with fail
  refine (match_lit [42, 46, 99] [97, 47, 120, 46, 99] _ false mfact2).mono ?_
  rintro e w2 ⟨rfl, hb2⟩
  have B2 := Lib.hid (B1.out.trans (hb2.mono B1.out.size))
  clear hb2
  go_wp2_with fail
  refine (match_lit [42, 42, 46, 99] [97, 47, 120, 46, 99] _ true mfact3).mono ?_
  rintro e w3 ⟨rfl, hb3⟩
  have B3 := Lib.hid (B2.out.trans (hb3.mono B2.out.size))
  clear hb3
  go_wp2_with fail
  refine (right_any ⟨#[91, 97]⟩ _).mono ?_
  rw [show (decide ((⟨#[91, 97]⟩ : ByteArray).size ≤ 120) && (Glb.toks (⟨#[91, 97]⟩ : ByteArray).data.toList).isSome) = false from mfact4]
  rintro e w4 ⟨rfl, hb4⟩
  have B4 := Lib.hid (B3.out.trans (hb4.mono B3.out.size))
  clear hb4
  go_wp2_with fail
  go_ret
  exact ⟨rfl, B4.out⟩

/-- Quote, its answer under a name of its own. -/
theorem quote_named (s : ByteArray) (hs : s.size ≤ 1000000) : ∃ q : ByteArray, q.data.toList = Glb.quote s.data.toList ∧ q.size ≤ 2 * s.size ∧
    ∀ w : World, Calls Try.prog 10 #[.string s] w fun e w' => e = .returned (.string q) ∧ Below w.heap.size w w' :=
  ⟨⟨(Glb.quote s.data.toList).toArray⟩, rfl, by
    have h := Glb.quote_len s.data.toList
    have e : s.data.toList.length = s.size := by simp
    show (Glb.quote s.data.toList).toArray.size ≤ _
    rw [List.size_toArray]; omega, fun w => quote_any s w hs⟩

end Go.Proofs.Ytpoofienimigaaa
