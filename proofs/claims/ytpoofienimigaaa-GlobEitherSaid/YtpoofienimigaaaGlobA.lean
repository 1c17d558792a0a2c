/-
  The pattern reader: one element; does a range follow?
-/
import Derived.Test.YtpoofienimigaaaBase
import Derived.Test.YtpoofienimigaaaGlobPlain
namespace Go.Proofs.Ytpoofienimigaaa
open Go.RowKit

/-- The reader at address b, at place k of the text s. -/
def Rdr (w : World) (b : Nat) (s : ByteArray) (k : Nat) : Prop := Blk w b 57 #[.string s, .int .i64 k]

theorem drop_at (s : ByteArray) (k : Nat) (h : k < s.size) : s.data.toList.drop k = s[k] :: s.data.toList.drop (k + 1) := by
  have h' : k < s.data.toList.length := by simpa using h
  rw [List.drop_eq_getElem_cons h']; rfl
theorem drop_over (s : ByteArray) (k : Nat) (h : s.size ≤ k) : s.data.toList.drop k = [] := List.drop_of_length_le (by simpa using h)

theorem rdr_set {w : World} {b : Nat} {s : ByteArray} {k : Nat} (h : Rdr w b s k) (q : Int) (j : Nat) (hq : q = j) : Rdr (w.setCell ⟨b, 1, none⟩ (.int .i64 q)) b s j := by
  subst hq; exact h.set_ 1 _

/-- What one element leaves behind: the reader stands at k'. -/
def OneAt (w w' : World) (b : Nat) (s : ByteArray) (k : Nat) (r : List UInt8) : Prop :=
  ∃ k', k < k' ∧ k' ≤ s.size ∧ r = s.data.toList.drop k' ∧ Rdr w' b s k' ∧ w.grownBy w' (some b)

theorem one_esc (b : Nat) (s : ByteArray) (k : Nat) (w : World) (hr : Rdr w b s k) (hs : s.size ≤ 1000) (hk : k + 1 < s.size) (h92 : s[k] = 92) :
    Calls Try.prog 38 #[.pointer (some ⟨b, 0, none⟩)] w fun e w' =>
      e = .returned (.tuple #[.int .u8 s[k+1].toNat, .bool true]) ∧ OneAt w w' b s k (s.data.toList.drop (k + 2)) := by
  have c0 := hr.cell 0
  have c1 := hr.cell 1
  have f1 := hr.frozen 1
  simp at c0 c1
  have hk0 : k < s.size := by omega
  have hk1 : (k : Int) + 1 < s.size := by omega
  have HR := Lib.hid hr
  clear hr
  go_enter Try.func38, Try.ntmps38
  go_wp2
  go_quiet (fail)
  go_wp2
  go_quiet (fail)
  go_wp2
  have ew : IntKind.i64.wrap ((k : Int) + 1) = (k : Int) + 1 := IntWalk.i64_in _ (by omega)
  have en : (0 : Int) ≤ (k : Int) + 1 := by omega
  have et : ((k : Int) + 1).toNat = k + 1 := by omega
  go_quiet (fail)
  go_wp2
  go_ret2
  refine ⟨rfl, k + 2, by omega, by omega, rfl, ?_, ?_⟩
  · exact (rdr_set ((rdr_set (HR.out.drewN _) ((k : Int) + 1) (k + 1) (by omega)).drewN _) ((k : Int) + 1 + 1) (k + 2) (by omega)).drewN _
  · exact only_drewN (only_setCell (only_drewN (only_setCell (only_drewN (only_refl w _) _) (.inl rfl) _) _) (.inl rfl) _) _

theorem one_byte (b : Nat) (s : ByteArray) (k : Nat) (w : World) (hr : Rdr w b s k) (hs : s.size ≤ 1000) (hk0 : k < s.size) (h92 : s[k] ≠ 92) :
    Calls Try.prog 38 #[.pointer (some ⟨b, 0, none⟩)] w fun e w' =>
      e = .returned (.tuple #[.int .u8 s[k].toNat, .bool true]) ∧ OneAt w w' b s k (s.data.toList.drop (k + 1)) := by
  have c0 := hr.cell 0
  have c1 := hr.cell 1
  have f1 := hr.frozen 1
  simp at c0 c1
  have hk1 : (k : Int) < s.size := by omega
  have h92' : ((s[k].toNat : Int) == 92) = false := u8_ne (d := 92) h92
  have HR := Lib.hid hr
  clear hr h92
  go_enter Try.func38, Try.ntmps38
  go_wp2
  go_quiet (fail)
  go_wp2
  go_quiet (fail)
  go_wp2
  have ew : IntKind.i64.wrap (k : Int) = (k : Int) := IntWalk.i64_in _ (by omega)
  go_quiet (fail)
  go_wp2
  go_ret2
  refine ⟨rfl, k + 1, by omega, by omega, rfl, ?_, ?_⟩
  · exact (rdr_set (HR.out.drewN _) ((k : Int) + 1) (k + 1) (by omega)).drewN _
  · exact only_drewN (only_setCell (only_drewN (only_refl w _) _) (.inl rfl) _) _

theorem one_end (b : Nat) (s : ByteArray) (k : Nat) (w : World) (hr : Rdr w b s k) (_hs : s.size ≤ 1000) (hk0 : s.size ≤ k) (_hk2 : k ≤ 1000) :
    Calls Try.prog 38 #[.pointer (some ⟨b, 0, none⟩)] w fun e w' =>
      e = .returned (.tuple #[.int .u8 0, .bool false]) ∧ w.grownBy w' (some b) := by
  have c0 := hr.cell 0
  have c1 := hr.cell 1
  have f1 := hr.frozen 1
  simp at c0 c1
  have hk1 : (s.size : Int) ≤ (k : Int) := by omega
  have hd : decide (k < s.size) = false := by simp; omega
  have HR := Lib.hid hr
  clear hr
  go_enter Try.func38, Try.ntmps38
  go_wp2
  go_quiet (fail)
  go_wp2
  go_quiet (fail)
  go_wp2
  go_ret2
  exact ⟨rfl, only_drewN (only_drewN (only_refl w _) _) _⟩

theorem one_half (b : Nat) (s : ByteArray) (k : Nat) (w : World) (hr : Rdr w b s k) (hs : s.size ≤ 1000) (hk0 : k < s.size) (hk2 : s.size = k + 1) (h92 : s[k] = 92) :
    Calls Try.prog 38 #[.pointer (some ⟨b, 0, none⟩)] w fun e w' =>
      e = .returned (.tuple #[.int .u8 0, .bool false]) ∧ w.grownBy w' (some b) := by
  have c0 := hr.cell 0
  have c1 := hr.cell 1
  have f1 := hr.frozen 1
  simp at c0 c1
  have hk1 : (s.size : Int) ≤ (k : Int) + 1 := by omega
  have HR := Lib.hid hr
  have H2 := Lib.hid hk2
  clear hr hk2
  go_enter Try.func38, Try.ntmps38
  go_wp2
  go_quiet (fail)
  go_wp2
  go_quiet (fail)
  go_wp2
  go_ret2
  exact ⟨rfl, only_drewN (only_setCell (only_drewN (only_refl w _) _) (.inl rfl) _) _⟩

/-- one element: there is one. -/
theorem one_some (b : Nat) (s : ByteArray) (k : Nat) (w : World) (c : UInt8) (r : List UInt8) (hr : Rdr w b s k) (hs : s.size ≤ 1000) (h : Glb.one (s.data.toList.drop k) = some (c, r)) :
    Calls Try.prog 38 #[.pointer (some ⟨b, 0, none⟩)] w fun e w' =>
      e = .returned (.tuple #[.int .u8 c.toNat, .bool true]) ∧ OneAt w w' b s k r := by
  by_cases hk : k < s.size
  · rw [drop_at s k hk] at h
    by_cases h92 : s[k] = 92
    · by_cases hk2 : k + 1 < s.size
      · rw [drop_at s (k + 1) hk2] at h
        simp [Glb.one, h92] at h
        obtain ⟨rfl, rfl⟩ := h
        exact one_esc b s k w hr hs hk2 h92
      · rw [drop_over s (k + 1) (by omega)] at h
        simp [Glb.one, h92] at h
    · simp [Glb.one, h92] at h
      obtain ⟨rfl, rfl⟩ := h
      exact one_byte b s k w hr hs hk h92
  · rw [drop_over s k (by omega)] at h
    simp [Glb.one] at h

/-- one element: there is none. -/
theorem one_none (b : Nat) (s : ByteArray) (k : Nat) (w : World) (hr : Rdr w b s k) (hs : s.size ≤ 1000) (hk2 : k ≤ 1000) (h : Glb.one (s.data.toList.drop k) = none) :
    Calls Try.prog 38 #[.pointer (some ⟨b, 0, none⟩)] w fun e w' =>
      e = .returned (.tuple #[.int .u8 0, .bool false]) ∧ w.grownBy w' (some b) := by
  by_cases hk : k < s.size
  · rw [drop_at s k hk] at h
    by_cases h92 : s[k] = 92
    · by_cases hk2 : k + 1 < s.size
      · rw [drop_at s (k + 1) hk2] at h
        simp [Glb.one, h92] at h
      · exact one_half b s k w hr hs hk (by omega) h92
    · simp [Glb.one, h92] at h
  · exact one_end b s k w hr hs (by omega) hk2

theorem ranged_any (b : Nat) (s : ByteArray) (k : Nat) (w : World) (hr : Rdr w b s k) (_hs : s.size ≤ 1000) (_hk2 : k ≤ 1000) :
    Calls Try.prog 49 #[.pointer (some ⟨b, 0, none⟩)] w fun e w' =>
      e = .returned (.bool (Glb.ranged (s.data.toList.drop k))) ∧ ∃ n, w' = w.drewN n := by
  have c0 := hr.cell 0
  have c1 := hr.cell 1
  simp at c0 c1
  by_cases hk : k + 1 < s.size
  · have hfin : Glb.ranged (s.data.toList.drop k) = (s[k] == 45 && s[k+1] != 93) := by
      rw [drop_at s k (by omega), drop_at s (k + 1) hk]; rfl
    rw [hfin]
    clear hfin
    have ew : IntKind.i64.wrap ((k : Int) + 1) = (k : Int) + 1 := IntWalk.i64_in _ (by omega)
    have en : (0 : Int) ≤ (k : Int) + 1 := by omega
    have et : ((k : Int) + 1).toNat = k + 1 := by omega
    have hk0 : k < s.size := by omega
    have hk1 : (k : Int) + 1 < s.size := by omega
    by_cases h45 : s[k] = 45
    · have h45' : ((s[k].toNat : Int) == 45) = true := u8_eq (d := 45) h45
      by_cases h93 : s[k+1] = 93
      · have hfin : (s[k] == 45 && s[k+1] != 93) = false := by simp [h45, h93]
        have h93' : ((s[k+1].toNat : Int) != 93) = false := by rw [h93]; rfl
        rw [hfin]
        clear hfin h45 h93
        go_enter Try.func49, Try.ntmps49
        go_wp2
        go_quiet (fail)
        go_wp2
        go_ret
        exact ⟨rfl, _, rfl⟩
      · have hfin : (s[k] == 45 && s[k+1] != 93) = true := by simp [h45, h93]
        have h93' : ((s[k+1].toNat : Int) != 93) = true := u8_bne (d := 93) h93
        rw [hfin]
        clear hfin h45 h93
        go_enter Try.func49, Try.ntmps49
        go_wp2
        go_quiet (fail)
        go_wp2
        go_ret
        exact ⟨rfl, _, rfl⟩
    · have h45' : ((s[k].toNat : Int) == 45) = false := u8_ne (d := 45) h45
      have hfin : (s[k] == 45 && s[k+1] != 93) = false := by simp [h45]
      rw [hfin]
      clear hfin h45
      go_enter Try.func49, Try.ntmps49
      go_wp2
      go_quiet (fail)
      go_wp2
      go_ret
      exact ⟨rfl, _, rfl⟩
  · have hfin : Glb.ranged (s.data.toList.drop k) = false := by
      by_cases hk' : k < s.size
      · rw [drop_at s k hk', drop_over s (k + 1) (by omega)]; rfl
      · rw [drop_over s k (by omega)]; rfl
    rw [hfin]
    clear hfin
    have ew : IntKind.i64.wrap ((k : Int) + 1) = (k : Int) + 1 := IntWalk.i64_in _ (by omega)
    have hkb : decide ((k : Int) + 1 < s.size) = false := by simp; omega
    clear hk
    go_enter Try.func49, Try.ntmps49
    go_wp2
    go_quiet (fail)
    go_wp2
    go_ret
    exact ⟨rfl, _, rfl⟩

end Go.Proofs.Ytpoofienimigaaa
