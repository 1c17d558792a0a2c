/-
  path.In and path.Up.
-/
import Derived.Test.YtehooifcgfkngaaDoorPathB
import Derived.RegionTactic
namespace Go.Proofs.YtehooifcgfkngaaDoor
open Go.RowKit

theorem nil_list {x : ByteArray} (h : x.data.toList = []) : x = ⟨#[]⟩ := ba_ext h

theorem in_any (a d : ByteArray) (w : World) (ha : a.size ≤ 1000000) (hd : d.size ≤ 1000000) :
    Calls Tryd.prog 53 #[.string a, .string d] w fun e w' => e = .returned (.bool (Pth.inn a.data.toList d.data.toList)) ∧ Below w.heap.size w w' := by
  have e0 : Pth.inn a.data.toList d.data.toList = (d.data.toList == [] || a.data.toList == d.data.toList || (d.data.toList ++ [47]).isPrefixOf a.data.toList) := rfl
  by_cases h0 : d.data.toList = []
  · have hr : Pth.inn a.data.toList d.data.toList = true := by rw [e0, h0]; rfl
    have HR := Lib.hid hr
    have k1 : d.toList = [] := by rw [str_list]; exact h0
    clear hr e0 h0
    go_enter Tryd.func53, Tryd.ntmps53
    go_wp2_with fail
    go_ret
    rw [HR.out]
    exact ⟨rfl, Below.refl _ _⟩
  · by_cases h1 : a.data.toList = d.data.toList
    · have hr : Pth.inn a.data.toList d.data.toList = true := by rw [e0, h1]; simp
      have HR := Lib.hid hr
      have had : a = d := ba_ext h1
      have k1 : ¬ d.toList = [] := by rw [str_list]; exact h0
      have k2 : d.toList.isEmpty = false := by rw [str_list]; simpa using h0
      clear hr e0 h0 h1
      subst had
      go_enter Tryd.func53, Tryd.ntmps53
      go_wp2_with fail
      go_ret
      rw [HR.out]
      exact ⟨by simp, Below.refl _ _⟩
    · have hr : Pth.inn a.data.toList d.data.toList = (d.data.toList ++ [47]).isPrefixOf a.data.toList := by rw [e0, beq_eq_false_iff_ne.2 h0, beq_eq_false_iff_ne.2 h1]; rfl
      have hp := fun w => Tryd.strings_HasPrefix a (d ++ ⟨#[47]⟩) w
      have ep : Lib.hasPrefix a.data.toList (d ++ (⟨#[47]⟩ : ByteArray)).data.toList = Pth.inn a.data.toList d.data.toList := by
        rw [hr, cat_list]; rfl
      rw [ep] at hp
      obtain ⟨bb, hbb⟩ : ∃ bb, bb = Pth.inn a.data.toList d.data.toList := ⟨_, rfl⟩
      rw [← hbb] at hp ⊢
      have HP := Lib.hid hp
      have k1 : ¬ d.toList = [] := by rw [str_list]; exact h0
      have k2 : d.toList.isEmpty = false := by rw [str_list]; simpa using h0
      have k3 : (a.toList == d.toList) = false := by rw [str_list, str_list]; simpa using h1
      clear hr hp ep hbb e0 h0 h1
      go_enter Tryd.func53, Tryd.ntmps53
      go_wp2_with fail
      refine (HP.out _).mono ?_
      rintro e w1 ⟨rfl, rfl⟩
      go_wp2_with fail
      go_ret
      exact ⟨rfl, Below.refl _ _⟩

theorem last_none (s : ByteArray) (h : (47 : UInt8) ∉ s.data.toList) : Lib.lastIndexByte s 47 = -1 := by
  rcases Lib.lastIdx_spec s 47 s.size with ⟨h1, _⟩ | ⟨i, hi, _, h2, _⟩
  · exact h1
  · exfalso
    have hi' : i < s.data.size := hi
    rw [getElem!_pos s.data i hi'] at h2
    have e : s.data[i] = 47 := UInt8.toNat_inj.1 (by have : ((47 : UInt8).toNat : Int) = 47 := rfl; omega)
    exact h (by rw [← e]; exact List.getElem_mem (l := s.data.toList) (n := i) (by simpa using hi'))
theorem last_some (a b : List UInt8) (h : (47 : UInt8) ∉ b) : Lib.lastIndexByte (bs (a ++ 47 :: b)) 47 = a.length := by
  have hsz : (bs (a ++ 47 :: b)).size = a.length + 1 + b.length := by rw [bs_size]; simp; omega
  have get : ∀ j (hj : j < (a ++ 47 :: b).length), (bs (a ++ 47 :: b)).data[j]! = (a ++ 47 :: b)[j] := fun j hj => by
    rw [getElem!_pos _ j (by simpa [bs] using hj)]; simp [bs]
  rcases Lib.lastIdx_spec (bs (a ++ 47 :: b)) 47 (bs (a ++ 47 :: b)).size with ⟨_, h2⟩ | ⟨i, hi, h1, h2, h3⟩
  · exfalso
    refine h2 a.length (by omega) ?_
    rw [get _ (by simp)]; simp
  · have e : i = a.length := by
      rcases Nat.lt_trichotomy i a.length with hlt | rfl | hgt
      · exfalso
        refine h3 a.length hlt (by omega) ?_
        rw [get _ (by simp)]; simp
      · rfl
      · exfalso
        obtain ⟨m, rfl⟩ : ∃ m, i = a.length + (m + 1) := ⟨i - a.length - 1, by omega⟩
        have hmb : m < b.length := by omega
        rw [get _ (by simp; omega)] at h2
        have eb : (a ++ 47 :: b)[a.length + (m + 1)]'(by simp; omega) = b[m] := by
          rw [List.getElem_append_right (by omega)]; simp
        rw [eb] at h2
        have e : b[m] = 47 := UInt8.toNat_inj.1 (by have : ((47 : UInt8).toNat : Int) = 47 := rfl; omega)
        exact h (by rw [← e]; exact List.getElem_mem _)
    rw [← e]; exact h1

theorem up_none (s : ByteArray) (w : World) (hs : s.size ≤ 1000000) (h : (47 : UInt8) ∉ s.data.toList) :
    Calls Tryd.prog 22 #[.string s] w fun e w' => e = .returned (.tuple #[.string ⟨#[]⟩, .string s]) ∧ Below w.heap.size w w' := by
  have hl := fun w => Tryd.strings_LastIndexByte s 47 (by omega) w
  rw [last_none s h] at hl
  have HL := Lib.hid hl
  clear hl h
  go_enter Tryd.func22, Tryd.ntmps22
  go_wp2_with fail
  refine (HL.out _).mono ?_
  rintro e w1 ⟨rfl, rfl⟩
  go_wp2_with fail
  go_region
  all_goals go_wp2_with fail
  all_goals go_ret2
  all_goals exact ⟨by rw [show (max (-1 : Int) 0).toNat = 0 from rfl, show s.extract 0 0 = ⟨#[]⟩ from ba_ext (by rw [ext_list]; rfl)]; rfl, (Below.refl _ _).drew⟩

theorem up_some (a b : List UInt8) (w : World) (hs : a.length + b.length ≤ 100000) (h : (47 : UInt8) ∉ b) :
    Calls Tryd.prog 22 #[.string (bs (a ++ 47 :: b))] w fun e w' => e = .returned (.tuple #[.string (bs a), .string (bs b)]) ∧ Below w.heap.size w w' := by
  have hsz : (bs (a ++ 47 :: b)).size = a.length + 1 + b.length := by rw [bs_size]; simp; omega
  have hl := fun w => Tryd.strings_LastIndexByte (bs (a ++ 47 :: b)) 47 (by omega) w
  rw [last_some a b h] at hl
  obtain ⟨s, hS⟩ : ∃ s, s = bs (a ++ 47 :: b) := ⟨_, rfl⟩
  rw [← hS] at hl hsz ⊢
  have e1 : s.extract 0 a.length = bs a := ba_ext (by rw [ext_to, hS, bs_list, bs_list]; simp)
  have e2 : s.extract (a.length + 1) s.size = bs b := ba_ext (by rw [ext_end, hS, bs_list, bs_list]; simp)
  obtain ⟨n, hn⟩ : ∃ n, n = a.length := ⟨_, rfl⟩
  rw [← hn] at hl e1 e2 hsz
  have hn1 : n + 1 ≤ s.size := by omega
  have hn2 : n ≤ 100000 := by omega
  have hn3 : (n : Int) + 1 ≤ s.size := by omega
  have hn4 : (n : Int) ≤ s.size := by omega
  have HL := Lib.hid hl
  have E1 := Lib.hid e1
  have E2 := Lib.hid e2
  clear hl h hS e1 e2 hn hsz
  have hmx : max (n : Int) 0 = n := by omega
  have hw1 : IntKind.i64.wrap ((n : Int) + 1) = (n : Int) + 1 := IntWalk.i64_in _ (by omega)
  have hw2 : ((n : Int) + 1).toNat = n + 1 := by omega
  have hn0 : (0 : Int) ≤ (n : Int) + 1 := by omega
  go_enter Tryd.func22, Tryd.ntmps22
  go_wp2_with fail
  refine (HL.out _).mono ?_
  rintro e w1 ⟨rfl, rfl⟩
  go_wp2_with fail
  go_region
  all_goals go_wp2_with fail
  all_goals go_ret2
  all_goals exact ⟨by rw [E1.out, E2.out]; rfl, (Below.refl _ _).drew⟩

end Go.Proofs.YtehooifcgfkngaaDoor
