/-
  number.Write.
-/
import Derived.Test.YtdhnjbiigpiecaaDoorNumD
import Derived.Test.YtdhnjbiigpiecaaDoorNumB
import Derived.Test.YtdhnjbiigpiecaaDoorNumN
import Derived.Test.YtdhnjbiigpiecaaDoorPick
import Derived.Test.YtdhnjbiigpiecaaDoorNumLaws2
import Derived.Lib.IfaceEq
import Derived.LaidEql
namespace Go.Proofs.YtdhnjbiigpiecaaDoor
open Go.RowKit

/-- that n is written by the base 256 in W bytes -/
def InBin (n : Int) (W : Nat) : Prop := 8 ≤ W ∧ (n < 0 ∨ (Num.most W : Int) < n) ∧ (W = 8 → -36028797018963968 ≤ n ∧ n ≤ 36028797018963967)

theorem binary_named (n : Int) (W : Nat) (h1 : 8 ≤ W) (h2 : W ≤ 20) (hn1 : -9223372036854775808 ≤ n) (hn2 : n ≤ 9223372036854775807) :
    ∃ (s : ByteArray) (E : Value), (∀ w : World, Calls Tryd.prog 45 #[.int .i64 n, .int .i64 W] w fun e w' => e = .returned (.tuple #[.string s, E]) ∧ Below w.heap.size w w') ∧
      ((E = .nilIface ∧ s = ⟨(binLaw n W).toArray⟩ ∧ (W = 8 → -36028797018963968 ≤ n ∧ n ≤ 36028797018963967)) ∨ (W = 8 ∧ (n < -36028797018963968 ∨ 36028797018963967 < n) ∧ s = ⟨#[]⟩ ∧ E = .iface 32 (.int .i64 2))) := by
  by_cases h8 : W = 8
  · subst h8
    by_cases hr : n < -36028797018963968 ∨ 36028797018963967 < n
    · exact ⟨_, _, fun w => (binary_range n 8 w rfl hr).mono fun e w' ⟨he, hw⟩ => ⟨he, hw ▸ Below.refl _ _⟩, .inr ⟨rfl, hr, rfl, rfl⟩⟩
    · exact ⟨_, _, fun w => binary_eight n w (by omega) (by omega), .inl ⟨rfl, rfl, fun _ => by omega⟩⟩
  · exact ⟨_, _, fun w => binary_long n W w (by omega) h2 hn1 hn2, .inl ⟨rfl, rfl, fun h => absurd h h8⟩⟩

set_option maxRecDepth 100000 in
set_option maxHeartbeats 1000000 in
theorem write_named (n : Int) (W : Nat) (bin : Bool) (h1 : 2 ≤ W) (h2 : W ≤ 20) (hn1 : -9223372036854775808 ≤ n) (hn2 : n ≤ 9223372036854775807) :
    ∃ (s : ByteArray) (E : Value), (∀ w : World, Calls Tryd.prog 30 #[.int .i64 n, .int .i64 W, .bool bin] w fun e w' => e = .returned (.tuple #[.string s, E]) ∧ Below w.heap.size w w') ∧
      ((E = .nilIface ∧ ((∃ m : Nat, n = m ∧ m ≤ Num.most W ∧ s = ⟨(Num.octal m W).toArray⟩) ∨ (InBin n W ∧ bin = true ∧ s = ⟨(binLaw n W).toArray⟩))) ∨
        (E = .iface 32 (.int .i64 2) ∧ (n < 0 ∨ (Num.most W : Int) < n) ∧ (bin = false ∨ W < 8 ∨ (W = 8 ∧ (n < -36028797018963968 ∨ 36028797018963967 < n))))) := by
  obtain ⟨s, E, ms, hs⟩ := octal_named n W h1 h2
  have MS := Lib.hid ms
  clear ms
  have heq := fun w => Lib.run_eql_iface_int (P := Tryd.prog) w (t := 25) (tx := 32) (k := .i64) 2 2 Tryd.underlying25 (by kernel_rfl) Tryd.underlying32
  have heqN : ∀ w, (binOp .eql 25 .nilIface (.iface 32 (.int .i64 2))).run Tryd.prog w = .ok (.bool false) w := fun w => run_eql_iface_nil_left _ _ _ Tryd.underlying25
  rcases hs with ⟨rfl, hm⟩ | ⟨hr, rfl, rfl⟩
  · refine ⟨s, .nilIface, fun w => ?_, .inl ⟨rfl, .inl hm⟩⟩
    go_enter Tryd.func30, Tryd.ntmps30
    go_wp2_with fail
    refine (MS.out _).mono ?_
    rintro e w1 ⟨rfl, h1⟩
    have B1 := Lib.hid h1
    clear h1
    go_wp2_with fail
    go_ret2
    exact ⟨rfl, B1.out⟩
  · by_cases h8 : W < 8
    · have h8' : (W : Int) < 8 := by omega
      refine ⟨⟨#[]⟩, _, fun w => ?_, .inr ⟨rfl, hr, .inr (.inl h8)⟩⟩
      cases bin
      · go_enter Tryd.func30, Tryd.ntmps30
        go_wp2_with fail
        refine (MS.out _).mono ?_
        rintro e w1 ⟨rfl, h1⟩
        have B1 := Lib.hid h1
        clear h1
        go_wp2_with fail
        go_ret2
        exact ⟨rfl, B1.out⟩
      · go_enter Tryd.func30, Tryd.ntmps30
        go_wp2_with fail
        refine (MS.out _).mono ?_
        rintro e w1 ⟨rfl, h1⟩
        have B1 := Lib.hid h1
        clear h1
        go_wp2_with fail
        go_ret2
        exact ⟨rfl, B1.out⟩
    · have h8' : (8 : Int) ≤ W := by omega
      cases bin
      · refine ⟨⟨#[]⟩, _, fun w => ?_, .inr ⟨rfl, hr, .inl rfl⟩⟩
        go_enter Tryd.func30, Tryd.ntmps30
        go_wp2_with fail
        refine (MS.out _).mono ?_
        rintro e w1 ⟨rfl, h1⟩
        have B1 := Lib.hid h1
        clear h1
        go_wp2_with fail
        go_ret2
        exact ⟨rfl, B1.out⟩
      · obtain ⟨t, E2, mt, ht⟩ := binary_named n W (by omega) h2 hn1 hn2
        have MT := Lib.hid mt
        clear mt
        refine ⟨t, E2, fun w => ?_, ?_⟩
        · clear ht hr
          go_enter Tryd.func30, Tryd.ntmps30
          go_wp2_with fail
          refine (MS.out _).mono ?_
          rintro e w1 ⟨rfl, h1⟩
          have B1 := Lib.hid h1
          clear h1
          go_wp2_with fail
          refine (MT.out _).mono ?_
          rintro e w2 ⟨rfl, h2⟩
          have B2 := Lib.hid (thenB B1.out h2)
          clear h2 B1
          go_wp2_with fail
          go_ret2
          exact ⟨rfl, B2.out⟩
        · rcases ht with ⟨rfl, rfl, hh⟩ | ⟨h, h', rfl, rfl⟩
          · exact .inl ⟨rfl, .inr ⟨⟨by omega, hr, hh⟩, rfl, rfl⟩⟩
          · exact .inr ⟨rfl, hr, .inr (.inr ⟨h, h'⟩)⟩

end Go.Proofs.YtdhnjbiigpiecaaDoor
