/-
  The walk of GlobQuote.
-/
import Derived.Test.YtpoofienimigaaaGlobG
namespace Go.Proofs.Ytpoofienimigaaa
open Go.RowKit

theorem bytes_eq (a b : ByteArray) : ((a.data == b.data) == (a.toList == b.toList)) = true := by
  rw [ByteArray.toList_eq, ByteArray.toList_eq]
  by_cases h : a.data = b.data
  · rw [h]; simp
  · have h' : ¬ a.data.toList = b.data.toList := fun e => h (Array.toList_inj.1 e)
    have e1 : (a.data == b.data) = false := by simpa using h
    have e2 : (a.data.toList == b.data.toList) = false := by simpa using h'
    rw [e1, e2]; rfl

set_option maxHeartbeats 2000000 in
theorem globQuote_walk (a : ByteArray) (_wa : a.size ≤ maxLen) (b : ByteArray) (_wb : b.size ≤ maxLen) (w : World) : Calls Try.prog 3 #[.string a, .string b] w fun e w' => e = .returned (.bool true) ∧ Below w.heap.size w w' := by
  by_cases hbig : 50 < a.size ∨ 100 < b.size
  · by_cases ha : 50 < a.size
    · have ha' : (50 : Int) < a.size := by omega
      clear hbig ha
      go_enter Try.func3, Try.ntmps3
      go_wp2_with fail
      refine (matched_any _).mono ?_
      rintro e w1 ⟨rfl, hb1⟩
      have B1 := Lib.hid hb1
      clear hb1
      go_wp2_with fail
      go_ret
      exact ⟨rfl, B1.out⟩
    · have ha' : (a.size : Int) ≤ 50 := by omega
      have hb' : (100 : Int) < b.size := by omega
      clear hbig ha
      go_enter Try.func3, Try.ntmps3
      go_wp2_with fail
      refine (matched_any _).mono ?_
      rintro e w1 ⟨rfl, hb1⟩
      have B1 := Lib.hid hb1
      clear hb1
      go_wp2_with fail
      go_ret
      exact ⟨rfl, B1.out⟩
  · have ha : (a.size : Int) ≤ 50 := by omega
    have hb : (b.size : Int) ≤ 100 := by omega
    have la : a.data.toList.length = a.size := by simp
    have lb : b.data.toList.length = b.size := by simp
    have HA := Lib.hid (Glb.quote_law a.data.toList b.data.toList (by omega) (by omega))
    have HB := Lib.hid (Glb.quote_law a.data.toList a.data.toList (by omega) (by omega))
    clear hbig la lb
    go_enter Try.func3, Try.ntmps3
    go_wp2_with fail
    refine (matched_any _).mono ?_
    rintro e w1 ⟨rfl, hb1⟩
    have B1 := Lib.hid hb1
    clear hb1
    go_wp2_with fail
    refine (quote_any a _ (by omega)).mono ?_
    rintro e w2 ⟨rfl, hb2⟩
    have B2 := Lib.hid (B1.out.trans (hb2.mono B1.out.size))
    clear hb2
    go_wp2_with fail
    refine (match_is ⟨(Glb.quote a.data.toList).toArray⟩ b _ (a.data.toList == b.data.toList) HA.out).mono ?_
    rintro e w3 ⟨rfl, hb3⟩
    have B3 := Lib.hid (B2.out.trans (hb3.mono B2.out.size))
    clear hb3
    go_wp2_with fail
    refine (quote_any a _ (by omega)).mono ?_
    rintro e w4 ⟨rfl, hb4⟩
    have B4 := Lib.hid (B3.out.trans (hb4.mono B3.out.size))
    clear hb4
    go_wp2_with fail
    refine (match_is ⟨(Glb.quote a.data.toList).toArray⟩ a _ (a.data.toList == a.data.toList) HB.out).mono ?_
    rw [show (a.data.toList == a.data.toList) = true by simp]
    rintro e w5 ⟨rfl, hb5⟩
    have B5 := Lib.hid (B4.out.trans (hb5.mono B4.out.size))
    clear hb5
    go_wp2_with fail
    go_ret
    exact ⟨by simpa using bytes_eq a b, B5.out⟩

end Go.Proofs.Ytpoofienimigaaa
