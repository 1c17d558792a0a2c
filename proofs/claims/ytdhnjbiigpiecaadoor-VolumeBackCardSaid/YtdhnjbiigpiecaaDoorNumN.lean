/-
  number.Octal, as a text and an error's value.
-/
import Derived.Test.YtdhnjbiigpiecaaDoorNumA
namespace Go.Proofs.YtdhnjbiigpiecaaDoor
open Go.RowKit

theorem octal_named (n : Int) (W : Nat) (h1 : 2 ≤ W) (h2 : W ≤ 20) : ∃ (s : ByteArray) (E : Value), (∀ w : World, Calls Tryd.prog 44 #[.int .i64 n, .int .i64 W] w fun e w' => e = .returned (.tuple #[.string s, E]) ∧ Below w.heap.size w w') ∧
    ((E = .nilIface ∧ ∃ m : Nat, n = m ∧ m ≤ Num.most W ∧ s = ⟨(Num.octal m W).toArray⟩) ∨ ((n < 0 ∨ (Num.most W : Int) < n) ∧ s = ⟨#[]⟩ ∧ E = .iface 32 (.int .i64 2))) := by
  by_cases h : n < 0 ∨ (Num.most W : Int) < n
  · exact ⟨⟨#[]⟩, _, fun w => (octal_range n W w h1 h2 h).mono fun e w' ⟨he, hw⟩ => ⟨he, hw ▸ Below.refl _ _⟩, .inr ⟨h, rfl, rfl⟩⟩
  · obtain ⟨m, rfl⟩ := Int.eq_ofNat_of_zero_le (show 0 ≤ n by omega)
    exact ⟨_, _, fun w => octal_any m W w h1 h2 (by omega), .inl ⟨rfl, m, rfl, by omega, rfl⟩⟩

end Go.Proofs.YtdhnjbiigpiecaaDoor
