/-
  The fact of modes; octal digits.
-/
import Derived.Test.YthaggmdfjmelgaaDoorModeE
import Derived.Test.YthaggmdfjmelgaaDoorPick
namespace Go.Proofs.YthaggmdfjmelgaaDoor
open Go.RowKit

set_option maxRecDepth 100000 in
set_option maxHeartbeats 2000000 in
theorem moded_any (w : World) : Calls Tryd.prog 7 #[] w fun e w' => e = .returned (.bool true) ∧ Below w.heap.size w w' := by
  have p1 : ∀ w, Calls Tryd.prog 9 #[.string ⟨#[114, 119, 115, 114, 45, 120, 114, 45, 84]⟩] w fun e w' => e = .returned (.tuple #[.int .i64 3052, .nilIface]) ∧ w' = w := fun w => by
    have h := parse_full ⟨#[114, 119, 115, 114, 45, 120, 114, 45, 84]⟩ rfl w
    rw [show Mode.parse (⟨#[114, 119, 115, 114, 45, 120, 114, 45, 84]⟩ : ByteArray).data.toList = some 3052 by decide] at h
    exact h
  have c1 : ∀ w, Calls Tryd.prog 11 #[.int .i64 420, .string ⟨#[117, 43, 120, 44, 103, 61, 114, 119, 44, 111, 45, 114]⟩, .bool false] w fun e w' => e = .returned (.tuple #[.int .i64 496, .nilIface]) ∧ Below w.heap.size w w' := fun w => by
    have h := change_any 420#12 ⟨#[117, 43, 120, 44, 103, 61, 114, 119, 44, 111, 45, 114]⟩ false (by decide) w
    rw [show Mode.change 420#12 (⟨#[117, 43, 120, 44, 103, 61, 114, 119, 44, 111, 45, 114]⟩ : ByteArray).data.toList false = some (some 496#12) by decide +kernel] at h
    exact h
  have t1 : ∀ w, Calls Tryd.prog 10 #[.int .i64 3052] w fun e w' => e = .returned (.string ⟨#[114, 119, 115, 114, 45, 120, 114, 45, 84]⟩) ∧ Below w.heap.size w w' := fun w => by
    have h := text_any 3052 (by decide) w
    rw [show Mode.text 3052 = [114, 119, 115, 114, 45, 120, 114, 45, 84] by decide +kernel] at h
    exact h
  have P1 := Lib.hid p1
  have C1 := Lib.hid c1
  have T1 := Lib.hid t1
  clear p1 c1 t1
  go_enter Tryd.func7, Tryd.ntmps7
  go_wp2_with (first
    | (go_at_call 9; refine (P1.out _).mono ?_; rintro e w1 ⟨rfl, rfl⟩)
    | (go_at_call 11; refine (C1.out _).mono ?_; rintro e w2 ⟨rfl, h⟩; have B := Lib.hid h; clear h)
    | (go_at_call 10; refine (T1.out _).mono ?_; rintro e w3 ⟨rfl, h⟩; have B2 := Lib.hid (thenB B.out h); clear h))
  go_ret
  exact ⟨rfl, B2.out⟩

theorem below_alloc {a w : World} (h : Below a.heap.size a w) (o : Obj) : Below a.heap.size a (w.alloc o) := h.alloc h.size o
theorem convert_row {P : Program} (w : World) (src dst e t : TypeId) (g cap n : Nat) (l : List UInt8) (cs : Array Value) (hs : P.underlying src = some (.slice e)) (he : P.underlying e = some (.int .u8)) (hd : P.underlying dst = some .string)
    (hl : l.length = n) (hc : ∀ (j : Nat) (h : j < l.length), cs[j]? = some (.int .u8 (l[j].toNat : Int))) (hb : Blk w g t cs) :
    (convert src dst (.slice (some ⟨g, 0, none⟩) n cap)).run P w = .ok (.string ⟨l.toArray⟩) w := by
  subst hl
  refine run_convert_bytes_back w src dst e _ cap l hs he hd fun j hj => ?_
  have hplain : (⟨g, 0, none⟩ : Addr).add j = ⟨g, j, none⟩ := by unfold Addr.add; split <;> simp_all
  rw [hplain, hb.cell j, hc j hj]
theorem conv_digit (n : Nat) (w : World) : (convert 39 9 (.slice (some ⟨w.heap.size, 0, none⟩) 1 1)).run Tryd.prog (w.alloc (.cells #[.int .u8 (48 + (n : Int) % 8)] 5)) = .ok (.string ⟨#[(48 + n % 8).toUInt8]⟩) (w.alloc (.cells #[.int .u8 (48 + (n : Int) % 8)] 5)) := by
  have e : ((48 + n % 8).toUInt8.toNat : Int) = 48 + (n : Int) % 8 := by
    have : (48 + n % 8).toUInt8.toNat = 48 + n % 8 := by simp [UInt8.toNat_ofNat']; omega
    rw [this]; omega
  refine convert_row (P := Tryd.prog) _ 39 9 5 5 w.heap.size 1 1 [(48 + n % 8).toUInt8] #[.int .u8 (48 + (n : Int) % 8)] Tryd.underlying39 Tryd.underlying5 Tryd.underlying9 rfl (fun j hj => ?_) (Blk.new w _ _)
  have : j = 0 := by simp at hj; omega
  subst this
  rw [← e]; rfl

set_option maxRecDepth 100000 in
set_option maxHeartbeats 2000000 in
theorem octal_any (m : Nat) (hm : m < 4096) (w : World) : Calls Tryd.prog 12 #[.int .i64 m] w fun e w' => e = .returned (.string ⟨(Mode.digits 5 m []).toArray⟩) ∧ Below w.heap.size w w' := by
  obtain ⟨r, hr⟩ : ∃ r, Mode.digits 5 m [] = r := ⟨_, rfl⟩
  rw [hr]
  go_enter Tryd.func12, Tryd.ntmps12
  go_wp2_with fail
  go_loopg [0, 3] 5 (fun g nv sv wr => ∃ (n : Nat) (t : ByteArray), nv = .int .i64 n ∧ sv = .string t ∧ 1 ≤ g ∧ n < 8 ^ (g - 1) ∧ g ≤ 5 ∧ (t.data.toList = [] → g = 5) ∧ t.size + g ≤ 5 ∧ Hid (Mode.digits g n t.data.toList = r) ∧ Below w.heap.size w wr)
  case atStart => exact ⟨m, ⟨#[]⟩, rfl, rfl, by omega, by omega, by omega, fun _ => rfl, by decide, hr, Below.refl _ _⟩
  case round =>
    clear hr
    obtain ⟨n, t, rfl, rfl, h1, hn, h5, ht, hts, hR, hb⟩ := hrel
    by_cases hgo : 0 < n ∨ t.data.toList = []
    · have hg2 : 2 ≤ gk := by
        rcases hgo with h | h
        · rcases Nat.lt_or_ge 1 gk with h2 | h2
          · exact h2
          · have : gk = 1 := by omega
            subst this; simp at hn; omega
        · have := ht h; omega
      obtain ⟨g, rfl⟩ : ∃ g, gk = g + 1 := ⟨gk - 1, by omega⟩
      have hn2 : n / 8 < 8 ^ (g - 1) := by
        rw [Nat.add_sub_cancel] at hn
        obtain ⟨k, rfl⟩ : ∃ k, g = k + 1 := ⟨g - 1, by omega⟩
        rw [Nat.pow_succ] at hn
        rw [Nat.add_sub_cancel]
        omega
      have hR2 := hR.out
      rw [Mode.digits, if_pos hgo] at hR2
      have HN2 := Lib.hid hn2
      have HR : Hid (Mode.digits g (n / 8) ((48 + n % 8).toUInt8 :: t.data.toList) = r) := hR2
      have hn9 : n < 4096 := by
        have : (8 : Nat) ^ (g + 1 - 1) ≤ 8 ^ 4 := Nat.pow_le_pow_right (by omega) (by omega)
        omega
      have hcd := conv_digit n
      obtain ⟨D, hD⟩ : ∃ D, (48 + n % 8).toUInt8 = D := ⟨_, rfl⟩
      rw [hD] at HR
      rw [hD] at hcd
      have hadd := fun w => run_string_add_sum (P := Tryd.prog) w ⟨#[D]⟩ t (by show 1 + _ ≤ _; omega)
      have hways : 0 < n ∨ (n = 0 ∧ t.toList.isEmpty = true) := by
        rcases hgo with h | h
        · exact .inl h
        · rcases Nat.eq_zero_or_pos n with h0 | h0
          · exact .inr ⟨h0, by rw [Lib.toList_data, h]; rfl⟩
          · exact .inl h0
      have HDD := Lib.hid hD
      clear hn hn2 hR hR2 hgo ht hD
      have HB := Lib.hid hb
      clear hb
      have HG := Lib.hid hg2
      have HT := Lib.hid hts
      have H5 := Lib.hid h5
      clear hg2 h1 h5 hts
      rcases hways with h0 | ⟨h0, he⟩
      · have h03 : (0 : Int) < n := by omega
        go_wp2_with fail
        go_roundg g
        case measure => omega
        case rel => exact ⟨n / 8, ⟨#[D]⟩ ++ t, by go_num, rfl, by have := HG.out; omega, HN2.out, by have := H5.out; omega, fun h => (by rw [cat_list] at h; cases h), by rw [ByteArray.size_append]; show 1 + _ + _ ≤ _; have := HT.out; omega, (by rw [cat_list]; exact HR.out), below_alloc HB.out _⟩
      · subst h0
        have hcd0 : ∀ w : World, (convert 39 9 (.slice (some ⟨w.heap.size, 0, none⟩) 1 1)).run Tryd.prog (w.alloc (.cells #[.int .u8 48] 5)) = .ok (.string ⟨#[D]⟩) (w.alloc (.cells #[.int .u8 48] 5)) := by
          intro w; rw [← HDD.out]; exact conv_digit 0 w
        clear hcd
        go_wp2_with fail
        go_roundg g
        case measure => omega
        case rel => exact ⟨0, ⟨#[D]⟩ ++ t, rfl, rfl, by have := HG.out; omega, HN2.out, by have := H5.out; omega, fun h => (by rw [cat_list] at h; cases h), by rw [ByteArray.size_append]; show 1 + _ + _ ≤ _; have := HT.out; omega, (by rw [cat_list]; exact HR.out), below_alloc HB.out _⟩
    · have h0 : n = 0 := by omega
      subst h0
      have ht0 : t.data.toList ≠ [] := fun h => hgo (.inr h)
      have he : t.toList.isEmpty = false := by
        rw [Lib.toList_data]; cases hl : t.data.toList with
        | nil => exact absurd hl ht0
        | cons c cs => rfl
      have hz : t.data.toList = r := by
        have h2 := hR.out
        obtain ⟨g, rfl⟩ : ∃ g, gk = g + 1 := ⟨gk - 1, by omega⟩
        rw [Mode.digits, if_neg hgo] at h2
        exact h2
      clear hR hgo ht hn
      go_wp2_with fail
      go_ret
      refine ⟨?_, hb⟩
      rw [← hz]
      exact congrArg (fun x => Ending.returned (Value.string x)) (ba_ext rfl)

end Go.Proofs.YthaggmdfjmelgaaDoor
