/-
  pax: what the library asks of the world; strconv.Itoa, Atoi; strings.Cut; Right and text.
-/
import Derived.Test.YtjafjhhmjfpmoaaDoorPaxPlain
import Derived.Test.YtjafjhhmjfpmoaaDoorAnyOf
import Derived.Test.YtjafjhhmjfpmoaaDoorStrs
import Derived.Test.YtjafjhhmjfpmoaaDoorShelf
import Derived.Lib.LaidTab
import Derived.LaidSub
import Derived.MakeChecks
namespace Go.Proofs.YtjafjhhmjfpmoaaDoor
open Go.RowKit

/-- What the library asks of the world: its bound, its error and its table of powers. -/
def Env (w : World) : Prop := (∃ m, w.cell? ⟨0, 0, none⟩ = some (.int .i64 m)) ∧ (∃ ev, w.cell? ⟨1, 0, none⟩ = some ev ∧ (ev = .nilIface ∨ ∃ te pe, ev = .iface te pe)) ∧ Lib.TabIs Tryd.prog w "internal/strconv.uint64pow10" .u64 Lib.pow10Tab
theorem pow_no : Tryd.prog.globalNamed "internal/strconv.uint64pow10" = some 3 := by kernel_rfl
theorem Env.below {w w' : World} (h : Env w) (hb : Below w.heap.size w w') : Env w' := by
  obtain ⟨⟨m, h1⟩, ⟨ev, h3, h4⟩, h2⟩ := h
  have l1 := World.block_lt_of_cell? w ⟨0, 0, none⟩ h1
  have l3 := World.block_lt_of_cell? w ⟨1, 0, none⟩ h3
  have l2 := World.block_lt_of_cell? w ⟨3, 0, none⟩ (h2.cell pow_no 0 (by decide))
  refine ⟨⟨m, (hb.cell (p := ⟨0, 0, none⟩) l1).trans h1⟩, ⟨ev, (hb.cell (p := ⟨1, 0, none⟩) l3).trans h3, h4⟩, ?_⟩
  unfold Lib.TabIs at h2 ⊢
  rw [← h2]
  unfold World.var?
  rw [pow_no]
  simp only [Option.bind_some]
  rw [hb.block _ l2]

theorem grow_below (w : World) (k : Nat) (os : Array Obj) : Below w.heap.size w (Sort.grow (w.drewN k) os) :=
  ⟨rfl, rfl, rfl, by show w.heap.size ≤ (w.heap ++ os).size; rw [Array.size_append]; omega, fun _ hj => Sort.heap_grow_old (w.drewN k) os hj⟩
theorem itoa_any (n : Nat) (h : n ≤ 9000000000000000000) (w : World) (hE : Env w) : Calls Tryd.prog 45 #[.int .i64 n] w fun e w' => e = .returned (.string (bs (Lib.decDigits n))) ∧ Below w.heap.size w w' := by
  have := Tryd.strconv_Itoa (n : Int) (by omega) (by omega) w hE.2.2
  refine this.mono fun e w' ⟨he, k, os, hw⟩ => ⟨?_, hw ▸ grow_below w k os⟩
  rw [he]
  unfold Lib.itoa
  rw [if_neg (by omega)]; rfl

/-- strings.Cut at one byte. -/
theorem cut_is (c : UInt8) : ∀ s : List UInt8, Lib.cut s [c] = Px.cut1 c s
  | [] => by simp [Lib.cut, Lib.index, Px.cut1]
  | x :: r => by
    have ih := cut_is c r
    have hge := Lib.index_ge r [c]
    by_cases hx : x = c
    · subst hx
      simp [Lib.cut, Lib.index, Px.cut1]
    · have hi : Lib.index (x :: r) [c] = if Lib.index r [c] == -1 then -1 else Lib.index r [c] + 1 := by
        have : ([c] : List UInt8).isPrefixOf (x :: r) = false := by
          simp [List.isPrefixOf]; exact fun e => hx e.symm
        rw [Lib.index, this]; simp
      unfold Lib.cut at ih ⊢
      rw [hi]
      simp only [Px.cut1, hx, if_false]
      by_cases hm : Lib.index r [c] = -1
      · rw [hm] at ih ⊢
        simp at ih ⊢
        rw [← ih]; simp
      · have hm0 : 0 ≤ Lib.index r [c] := by omega
        rw [if_pos hm0] at ih
        have hb : (Lib.index r [c] == -1) = false := by simpa using hm
        rw [hb]
        simp only [Bool.false_eq_true, if_false]
        rw [if_pos (by omega), ← ih]
        have ht : (Lib.index r [c] + 1).toNat = (Lib.index r [c]).toNat + 1 := by omega
        rw [ht]; rfl
theorem cut_any (s : ByteArray) (c : UInt8) (hs : s.size ≤ 100000) (w : World) (hE : Env w) :
    Calls Tryd.prog 16 #[.string s, .string ⟨#[c]⟩] w fun e w' => e = .returned (.tuple #[.string (bs (Px.cut1 c s.data.toList).1), .string (bs (Px.cut1 c s.data.toList).2.1), .bool (Px.cut1 c s.data.toList).2.2]) ∧ Below w.heap.size w w' := by
  obtain ⟨m, hm⟩ := hE.1
  have h := Tryd.strings_Cut s ⟨#[c]⟩ m w (by omega) hm
  refine h.mono fun e w' ⟨he, n, hw⟩ => ⟨?_, hw ▸ ⟨rfl, rfl, rfl, Nat.le_refl _, fun _ _ => rfl⟩⟩
  rw [he, ← cut_is c]; rfl

/-- A record as a value. -/
def prv (k v : ByteArray) : Value := .agg #[.string k, .string v]

theorem keyB (l : List UInt8) : Lib.containsAny l [61, 10] = (l.contains 61 || l.contains 10) := by
  rw [Bool.eq_iff_iff, containsAny_mem, Bool.or_eq_true, List.contains_iff_mem, List.contains_iff_mem]
  constructor
  · rintro ⟨b, hb, hc⟩
    simp at hc
    rcases hc with rfl | rfl
    · exact .inl hb
    · exact .inr hb
  · rintro (h | h)
    · exact ⟨61, h, by simp⟩
    · exact ⟨10, h, by simp⟩

theorem right_any (k v : ByteArray) (hk : k.size ≤ 100000) (hv : v.size ≤ 100000) (w : World) :
    Calls Tryd.prog 29 #[prv k v] w fun e w' => e = .returned (.bool (Px.right (k.data.toList, v.data.toList))) ∧ Below w.heap.size w w' := by
  have h := fun w => contains_any k ⟨#[61, 10]⟩ w (by decide) (by decide) (by omega) (fun j b hj => by rcases j with _ | _ | j <;> simp at hj <;> (subst hj; decide))
  have e0 : Px.right (k.data.toList, v.data.toList) = (!k.toList.isEmpty && !Lib.containsAny k.data.toList [61, 10] && decide ((k.size : Int) + v.size ≤ 200)) := by
    unfold Px.right
    rw [keyB, Lib.toList_data, list_size, list_size]
    congr 1
    exact decide_eq_decide.2 (by omega)
  obtain ⟨b2, hb2⟩ : ∃ b, b = Lib.containsAny k.data.toList [61, 10] := ⟨_, rfl⟩
  have h' : ∀ w, Calls Tryd.prog 44 #[.string k, .string ⟨#[61, 10]⟩] w fun e w' => e = .returned (.bool b2) ∧ Below w.heap.size w w' := by rw [hb2]; exact h
  rw [← hb2] at e0
  rw [e0]
  have H := Lib.hid h'
  unfold prv
  clear h h' e0 hb2
  cases he : k.toList.isEmpty
  · cases b2
    · go_enter Tryd.func29, Tryd.ntmps29
      go_wp2_with fail
      refine (H.out _).mono ?_
      rintro e w1 ⟨rfl, h1⟩
      have z := (Blk.new w 32 #[.string k, .string v]).below h1 (by simp)
      have c0 := z.cell 0
      have c1 := z.cell 1
      have B1 := Lib.hid (thenB ((Below.refl _ w).alloc (Nat.le_refl _) _) h1)
      clear h1 z
      go_wp2_with fail
      go_ret
      exact ⟨by simp, B1.out⟩
    · go_enter Tryd.func29, Tryd.ntmps29
      go_wp2_with fail
      refine (H.out _).mono ?_
      rintro e w1 ⟨rfl, h1⟩
      have z := (Blk.new w 32 #[.string k, .string v]).below h1 (by simp)
      have c0 := z.cell 0
      have c1 := z.cell 1
      have B1 := Lib.hid (thenB ((Below.refl _ w).alloc (Nat.le_refl _) _) h1)
      clear h1 z
      go_wp2_with fail
      go_ret
      exact ⟨rfl, B1.out⟩
  · go_enter Tryd.func29, Tryd.ntmps29
    go_wp2_with fail
    go_ret
    exact ⟨rfl, (Below.refl _ _).alloc (Nat.le_refl _) _⟩

end Go.Proofs.YtjafjhhmjfpmoaaDoor
