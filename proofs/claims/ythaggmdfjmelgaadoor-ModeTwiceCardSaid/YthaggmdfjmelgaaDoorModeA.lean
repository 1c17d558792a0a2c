/-
  mode.who, mode.what.
-/
import Derived.Test.YthaggmdfjmelgaaDoorTxt
import Derived.Test.YthaggmdfjmelgaaDoorModePlain
import Derived.Laws.BitsAllLaws
import Derived.Deep.LoopGhost
import Derived.Deep.DeepCutAuto
namespace Go.Proofs.YthaggmdfjmelgaaDoor
open Go.RowKit

theorem ofInt_w (x : BitVec 12) : BitVec.ofInt 64 (x.toNat : Int) = x.setWidth 64 := by
  apply BitVec.eq_of_toNat_eq
  rw [BitVec.toNat_ofInt, BitVec.toNat_setWidth]
  have := x.isLt
  omega
theorem wrap_w (x : BitVec 12) : IntKind.i64.wrap (((x.setWidth 64).toNat : Nat) : Int) = (x.toNat : Int) := by
  have := x.isLt
  rw [BitVec.toNat_setWidth, Nat.mod_eq_of_lt (by omega), IntKind.wrap_i64]
  omega
theorem bits_or (x y : BitVec 12) : bits .or .i64 (x.toNat : Int) (y.toNat : Int) = ((x ||| y).toNat : Int) := by
  show IntKind.i64.wrap ((BitVec.ofInt 64 _ ||| BitVec.ofInt 64 _).toNat : Int) = _
  rw [ofInt_w, ofInt_w, ← BitVec.setWidth_or, wrap_w]
theorem bits_and (x y : BitVec 12) : bits .and .i64 (x.toNat : Int) (y.toNat : Int) = ((x &&& y).toNat : Int) := by
  show IntKind.i64.wrap ((BitVec.ofInt 64 _ &&& BitVec.ofInt 64 _).toNat : Int) = _
  rw [ofInt_w, ofInt_w, ← BitVec.setWidth_and, wrap_w]
theorem bits_not (x y : BitVec 12) : bits .andNot .i64 (x.toNat : Int) (y.toNat : Int) = ((x &&& ~~~y).toNat : Int) := by
  show IntKind.i64.wrap ((BitVec.ofInt 64 _ &&& ~~~BitVec.ofInt 64 _).toNat : Int) = _
  rw [ofInt_w, ofInt_w, ← wrap_w]
  refine congrArg (fun z : BitVec 64 => IntKind.i64.wrap (z.toNat : Int)) (BitVec.eq_of_getLsbD_eq fun i hi => ?_)
  simp only [BitVec.getLsbD_and, BitVec.getLsbD_not, BitVec.getLsbD_setWidth, hi, decide_true, Bool.true_and]
  by_cases h : i < 12
  · simp [h]
  · rw [BitVec.getLsbD_of_ge x i (by omega)]; rfl
theorem w_lo (x : BitVec 12) : (0 : Int) ≤ x.toNat := by omega
theorem w_hi (x : BitVec 12) : (x.toNat : Int) ≤ 4095 := by have := x.isLt; omega
theorem w_eq (x y : BitVec 12) : ((x.toNat : Int) == (y.toNat : Int)) = (x == y) := by
  rw [Bool.eq_iff_iff]
  simp only [beq_iff_eq]
  exact ⟨fun h => BitVec.eq_of_toNat_eq (Int.ofNat_inj.1 h), fun h => by rw [h]⟩

theorem who_any (c : UInt8) (w : World) : Calls Tryd.prog 29 #[.int .u8 c.toNat] w fun e w' => e = .returned (.int .i64 (Mode.whoM c).toNat) ∧ w' = w := by
  by_cases h1 : c = 117
  · subst h1
    go_enter Tryd.func29, Tryd.ntmps29
    go_wp2_with fail
    go_ret
    exact ⟨rfl, rfl⟩
  by_cases h2 : c = 103
  · subst h2
    go_enter Tryd.func29, Tryd.ntmps29
    go_wp2_with fail
    go_ret
    exact ⟨rfl, rfl⟩
  by_cases h3 : c = 111
  · subst h3
    go_enter Tryd.func29, Tryd.ntmps29
    go_wp2_with fail
    go_ret
    exact ⟨rfl, rfl⟩
  by_cases h4 : c = 97
  · subst h4
    go_enter Tryd.func29, Tryd.ntmps29
    go_wp2_with fail
    go_ret
    exact ⟨rfl, rfl⟩
  have e : Mode.whoM c = 0#12 := by simp [Mode.whoM, h1, h2, h3, h4]
  rw [e]
  have e1 : ((c.toNat : Int) == 117) = false := u8_ne (d := 117) h1
  have e2 : ((c.toNat : Int) == 103) = false := u8_ne (d := 103) h2
  have e3 : ((c.toNat : Int) == 111) = false := u8_ne (d := 111) h3
  have e4 : ((c.toNat : Int) == 97) = false := u8_ne (d := 97) h4
  clear h1 h2 h3 h4 e
  go_enter Tryd.func29, Tryd.ntmps29
  go_wp2_with fail
  go_ret
  exact ⟨rfl, rfl⟩

def whatV : Option (BitVec 12) → Value
  | some n => .tuple #[.int .i64 n.toNat, .bool true]
  | none => .tuple #[.int .i64 0, .bool false]

set_option maxHeartbeats 1000000 in
theorem what_any (c : UInt8) (m : BitVec 12) (dir : Bool) (w : World) : Calls Tryd.prog 31 #[.int .u8 c.toNat, .int .i64 m.toNat, .bool dir] w fun e w' => e = .returned (whatV (Mode.whatM c m dir)) ∧ w' = w := by
  by_cases h1 : c = 114
  · subst h1
    go_enter Tryd.func31, Tryd.ntmps31
    go_wp2_with fail
    go_ret2
    exact ⟨rfl, rfl⟩
  by_cases h2 : c = 119
  · subst h2
    go_enter Tryd.func31, Tryd.ntmps31
    go_wp2_with fail
    go_ret2
    exact ⟨rfl, rfl⟩
  by_cases h3 : c = 120
  · subst h3
    go_enter Tryd.func31, Tryd.ntmps31
    go_wp2_with fail
    go_ret2
    exact ⟨rfl, rfl⟩
  by_cases h5 : c = 115
  · subst h5
    go_enter Tryd.func31, Tryd.ntmps31
    go_wp2_with fail
    go_ret2
    exact ⟨rfl, rfl⟩
  by_cases h6 : c = 116
  · subst h6
    go_enter Tryd.func31, Tryd.ntmps31
    go_wp2_with fail
    go_ret2
    exact ⟨rfl, rfl⟩
  by_cases h4 : c = 88
  · subst h4
    cases dir
    · have hb : bits .and .i64 (m.toNat : Int) 73 = ((m &&& 0o111#12).toNat : Int) := bits_and m 0o111#12
      by_cases hz : m &&& 0o111#12 = 0#12
      · have e : Mode.whatM 88 m false = some 0#12 := by simp [Mode.whatM, hz]
        have hn : (((m.toNat &&& 73 : Nat) : Int) != 0) = false := by rw [show m.toNat &&& 73 = (m &&& 0o111#12).toNat from rfl, hz]; rfl
        rw [e]
        clear e hz
        go_enter Tryd.func31, Tryd.ntmps31
        go_wp2_with fail
        go_ret2
        exact ⟨rfl, rfl⟩
      · have e : Mode.whatM 88 m false = some 0o111#12 := by simp [Mode.whatM, hz]
        have hn : (((m.toNat &&& 73 : Nat) : Int) != 0) = true := by
          rw [show m.toNat &&& 73 = (m &&& 0o111#12).toNat from rfl, show (0 : Int) = ((0#12).toNat : Int) from rfl, bne, w_eq]; simpa using hz
        rw [e]
        clear e hz
        go_enter Tryd.func31, Tryd.ntmps31
        go_wp2_with fail
        go_ret2
        exact ⟨rfl, rfl⟩
    · have e : Mode.whatM 88 m true = some 0o111#12 := by simp [Mode.whatM]
      rw [e]
      clear e
      go_enter Tryd.func31, Tryd.ntmps31
      go_wp2_with fail
      go_ret2
      exact ⟨rfl, rfl⟩
  have e : Mode.whatM c m dir = none := by simp [Mode.whatM, h1, h2, h3, h4, h5, h6]
  rw [e]
  have e1 : ((c.toNat : Int) == 114) = false := u8_ne (d := 114) h1
  have e2 : ((c.toNat : Int) == 119) = false := u8_ne (d := 119) h2
  have e3 : ((c.toNat : Int) == 120) = false := u8_ne (d := 120) h3
  have e4 : ((c.toNat : Int) == 88) = false := u8_ne (d := 88) h4
  have e5 : ((c.toNat : Int) == 115) = false := u8_ne (d := 115) h5
  have e6 : ((c.toNat : Int) == 116) = false := u8_ne (d := 116) h6
  clear h1 h2 h3 h4 h5 h6 e
  go_enter Tryd.func31, Tryd.ntmps31
  go_wp2_with fail
  go_ret2
  exact ⟨rfl, rfl⟩

end Go.Proofs.YthaggmdfjmelgaaDoor
