/-
  number.Read, whatever stands in the field.
-/
import Derived.Test.YtdhnjbiigpiecaaDoorNumD
namespace Go.Proofs.YtdhnjbiigpiecaaDoor
open Go.RowKit

/-- the number in a field; none: there is none -/
def rd (l : List UInt8) : Option Int := match l with
  | [] => none
  | c :: cs => if c.toNat < 128 then (match readGo (trimmed (c :: cs)) 0 with | some (some n) => some (n : Int) | _ => none) else wide (c :: cs)

theorem ans_wide (r : Option Int) : ∃ (n : Int) (E : Value), wideAns r = .tuple #[.int .i64 n, E] ∧ ((E = .nilIface ∧ r = some n) ∨ ((∃ k : Int, E = .iface 32 (.int .i64 k)) ∧ r = none)) := by
  cases r with
  | none => exact ⟨_, _, rfl, .inr ⟨⟨_, rfl⟩, rfl⟩⟩
  | some n => exact ⟨_, _, rfl, .inl ⟨rfl, rfl⟩⟩
theorem ans_read (r : Option (Option Nat)) : ∃ (n : Int) (E : Value), readAns r = .tuple #[.int .i64 n, E] ∧ ((E = .nilIface ∧ ∃ m : Nat, n = m ∧ r = some (some m)) ∨ ((∃ k : Int, E = .iface 32 (.int .i64 k)) ∧ ∀ m : Nat, r ≠ some (some m))) := by
  cases r with
  | none => exact ⟨_, _, rfl, .inr ⟨⟨_, rfl⟩, fun m h => by cases h⟩⟩
  | some r =>
    cases r with
    | none => exact ⟨_, _, rfl, .inr ⟨⟨_, rfl⟩, fun m h => by cases h⟩⟩
    | some n => exact ⟨_, _, rfl, .inl ⟨rfl, n, rfl, rfl⟩⟩

theorem bytes_cons (s : ByteArray) (h0 : 0 < s.size) : s.data.toList = s[0] :: s.data.toList.drop 1 := by
  have := drop_at s 0 h0
  rw [List.drop_zero] at this
  exact this

set_option maxHeartbeats 1000000 in
theorem read_high (s : ByteArray) (h0 : 0 < s.size) (hs : s.size < 100) (hhi : 128 ≤ (s[0]'h0).toNat) (n : Int) (E : Value) (hE : wideAns (wide s.data.toList) = .tuple #[.int .i64 n, E]) (w : World) :
    Calls Tryd.prog 49 #[.string s] w fun e w' => e = .returned (.tuple #[.int .i64 n, E]) ∧ w' = w := by
  have k1 : (128 : Int) ≤ (s[0].toNat : Int) := by omega
  have hne := ne_empty h0
  have hw := fun w => wide_any s h0 hs w
  rw [hE] at hw
  have HW := Lib.hid hw
  clear hw hE
  go_enter Tryd.func49, Tryd.ntmps49
  go_wp2_with fail
  refine (HW.out _).mono ?_
  rintro e w1 ⟨rfl, rfl⟩
  go_wp2_with fail
  go_ret2
  exact ⟨rfl, rfl⟩

theorem read_named (s : ByteArray) (h0 : 0 < s.size) (hs : s.size < 100) : ∃ (n : Int) (E : Value), (∀ w : World, Calls Tryd.prog 49 #[.string s] w fun e w' => e = .returned (.tuple #[.int .i64 n, E]) ∧ Below w.heap.size w w') ∧
    ((E = .nilIface ∧ rd s.data.toList = some n) ∨ ((∃ k : Int, E = .iface 32 (.int .i64 k)) ∧ rd s.data.toList = none)) := by
  have hc := bytes_cons s h0
  by_cases hl : (s[0]'h0).toNat < 128
  · obtain ⟨n, E, hE, h⟩ := ans_read (readGo (trimmed s.data.toList) 0)
    refine ⟨n, E, fun w => hE ▸ read_low s h0 (by omega) hl w, ?_⟩
    rw [hc] at h ⊢
    simp only [rd]
    rw [if_pos hl]
    rcases h with ⟨rfl, m, rfl, hr⟩ | ⟨hk, hr⟩
    · left; rw [hr]; exact ⟨rfl, rfl⟩
    · right
      refine ⟨hk, ?_⟩
      split
      · rename_i m hm; exact absurd hm (hr m)
      · rfl
  · obtain ⟨n, E, hE, h⟩ := ans_wide (wide s.data.toList)
    refine ⟨n, E, fun w => (read_high s h0 hs (by omega) n E hE w).mono fun e w' ⟨he, hw⟩ => ⟨he, hw ▸ Below.refl _ _⟩, ?_⟩
    rw [hc] at h ⊢
    simp only [rd]
    rw [if_neg hl]
    rcases h with ⟨rfl, hr⟩ | ⟨hk, hr⟩
    · exact .inl ⟨rfl, hr⟩
    · exact .inr ⟨hk, hr⟩

end Go.Proofs.YtdhnjbiigpiecaaDoor
