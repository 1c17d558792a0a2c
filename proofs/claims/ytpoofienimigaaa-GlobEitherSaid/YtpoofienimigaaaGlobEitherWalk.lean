/-
  The walk of GlobEither.
-/
import Derived.Test.YtpoofienimigaaaGlobM
import Derived.Test.YtpoofienimigaaaGlobEitherLaws
import Derived.Test.YtpoofienimigaaaAnyOf
import Derived.Deep.RegionHeld3
import Derived.Lib.ConvBytes
import Derived.OpenShut
namespace Go.Proofs.Ytpoofienimigaaa
open Go.RowKit

theorem whole_any (s : ByteArray) (hs : s.size ≤ 40) (w : World) :
    Calls Try.prog 15 #[.string s] w fun e w' => e = .returned (.bool (!s.toList.isEmpty && !Lib.containsAny s.data.toList [93, 92])) ∧ Below w.heap.size w w' := by
  have h := fun w => contains_any s ⟨#[93, 92]⟩ w (by decide) (by decide) (by omega) (fun j b hj => by rcases j with _ | _ | j <;> simp at hj <;> (subst hj; decide))
  have H := Lib.hid h
  clear h
  cases he : s.toList.isEmpty
  · go_enter Try.func15, Try.ntmps15
    go_wp2_with fail
    refine (H.out _).mono ?_
    rintro e w1 ⟨rfl, h1⟩
    have B1 := Lib.hid h1
    clear h1
    go_wp2_with fail
    go_ret
    exact ⟨rfl, B1.out⟩
  · go_enter Try.func15, Try.ntmps15
    go_wp2_with fail
    go_ret
    exact ⟨rfl, Below.refl _ _⟩

theorem convert_row {P : Program} (w : World) (src dst e t : TypeId) (g cap n : Nat) (l : List UInt8) (cs : Array Value) (hs : P.underlying src = some (.slice e)) (he : P.underlying e = some (.int .u8)) (hd : P.underlying dst = some .string)
    (hl : l.length = n) (hc : ∀ (j : Nat) (h : j < l.length), cs[j]? = some (.int .u8 (l[j].toNat : Int))) (hb : Blk w g t cs) :
    (convert src dst (.slice (some ⟨g, 0, none⟩) n cap)).run P w = .ok (.string ⟨l.toArray⟩) w := by
  subst hl
  refine run_convert_bytes_back w src dst e _ cap l hs he hd fun j hj => ?_
  have hplain : (⟨g, 0, none⟩ : Addr).add j = ⟨g, j, none⟩ := by unfold Addr.add; split <;> simp_all
  rw [hplain, hb.cell j, hc j hj]

theorem convert_one (d : UInt8) (w : World) : (convert 32 9 (.slice (some ⟨w.heap.size, 0, none⟩) 1 1)).run Try.prog (w.alloc (.cells #[.int .u8 (d.toNat : Int)] 5)) = .ok (.string ⟨#[d]⟩) (w.alloc (.cells #[.int .u8 (d.toNat : Int)] 5)) :=
  convert_row (P := Try.prog) _ 32 9 5 5 w.heap.size 1 1 [d] #[.int .u8 (d.toNat : Int)] Try.underlying32 Try.underlying5 Try.underlying9 rfl (fun j hj => by
    have h0 : j = 0 := by simp at hj; omega
    subst h0; rfl) (Blk.new w _ _)

set_option maxRecDepth 100000 in
set_option maxHeartbeats 4000000 in
theorem globEither_walk (a : ByteArray) (sa : a.size ≤ 140737488351232) (c : Int) (hc : (Lit.int .u8 c).wf = true) (w : World) :
    Calls Try.prog 6 #[.string a, .int .u8 c] w fun e w' => e = .returned (.bool true) ∧ Below w.heap.size w w' := by
  obtain ⟨d, rfl⟩ : ∃ d : UInt8, c = (d.toNat : Int) := by
    have h : 0 ≤ c ∧ c < 256 := by have := bounds_u8 hc; omega
    exact ⟨UInt8.ofNat c.toNat, by simp [UInt8.toNat_ofNat']; omega⟩
  go_enter Try.func6, Try.ntmps6
  go_wp2_with fail
  refine (matched_any _).mono ?_
  rintro e w1 ⟨rfl, h1⟩
  have B1 := Lib.hid h1
  clear h1
  by_cases hb : 40 < a.size
  · have hb' : (40 : Int) < a.size := by omega
    clear hb
    go_wp2_with fail
    go_ret
    exact ⟨rfl, B1.out⟩
  have hb' : ¬ (40 : Int) < a.size := by omega
  have q1 : ∀ w, Calls Try.prog 13 #[.string a, .string ⟨#[33]⟩] w fun e w' => e = .returned (.bool (Lib.hasPrefix a.data.toList [33])) ∧ w' = w := fun w => Try.strings_HasPrefix a ⟨#[33]⟩ w
  have q2 : ∀ w, Calls Try.prog 13 #[.string a, .string ⟨#[94]⟩] w fun e w' => e = .returned (.bool (Lib.hasPrefix a.data.toList [94])) ∧ w' = w := fun w => Try.strings_HasPrefix a ⟨#[94]⟩ w
  cases hp1 : Lib.hasPrefix a.data.toList [33]
  rotate_left
  · rw [hp1] at q1
    have Q1 := Lib.hid q1
    clear q1 q2
    go_wp2_with fail
    refine (Q1.out _).mono ?_
    rintro e w2 ⟨rfl, rfl⟩
    go_wp2_with fail
    go_ret
    exact ⟨rfl, B1.out⟩
  cases hp2 : Lib.hasPrefix a.data.toList [94]
  rotate_left
  · rw [hp1] at q1
    rw [hp2] at q2
    have Q1 := Lib.hid q1
    have Q2 := Lib.hid q2
    clear q1 q2
    go_wp2_with fail
    refine (Q1.out _).mono ?_
    rintro e w2 ⟨rfl, rfl⟩
    go_wp2_with fail
    refine (Q2.out _).mono ?_
    rintro e w2 ⟨rfl, rfl⟩
    go_wp2_with fail
    go_ret
    exact ⟨rfl, B1.out⟩
  rw [hp1] at q1
  rw [hp2] at q2
  have Q1 := Lib.hid q1
  have Q2 := Lib.hid q2
  clear q1 q2
  go_wp2_with fail
  refine (Q1.out _).mono ?_
  rintro e w2 ⟨rfl, rfl⟩
  go_wp2_with fail
  refine (Q2.out _).mono ?_
  rintro e w2 ⟨rfl, rfl⟩
  have hcv := fun w => convert_one d w
  obtain ⟨X1, hX1⟩ : ∃ X : ByteArray, X = (⟨#[91]⟩ : ByteArray) ++ a ++ (⟨#[93]⟩ : ByteArray) := ⟨_, rfl⟩
  obtain ⟨X2, hX2⟩ : ∃ X : ByteArray, X = (⟨#[91, 33]⟩ : ByteArray) ++ a ++ (⟨#[93]⟩ : ByteArray) := ⟨_, rfl⟩
  obtain ⟨X3, hX3⟩ : ∃ X : ByteArray, X = (⟨#[91]⟩ : ByteArray) ++ a ++ (⟨#[93, 120]⟩ : ByteArray) := ⟨_, rfl⟩
  obtain ⟨x, E1, m1, hm1⟩ := match_named X1 ⟨#[d]⟩
  obtain ⟨y, E2, m2, hm2⟩ := match_named X2 ⟨#[d]⟩
  obtain ⟨z, E3, m3, hm3⟩ := match_named X3 ⟨#[97, 120]⟩
  have hr := fun w => right_any X1 w
  obtain ⟨rb, hrb⟩ : ∃ b, b = (decide (X1.size ≤ 120) && (Glb.toks X1.data.toList).isSome) := ⟨_, rfl⟩
  rw [← hrb] at hr
  have hwh := fun w => whole_any a (by omega) w
  obtain ⟨wh, hwb⟩ : ∃ b, b = (!a.toList.isEmpty && !Lib.containsAny a.data.toList [93, 92]) := ⟨_, rfl⟩
  rw [← hwb] at hwh
  have law : E1 = .nilIface → E2 = .nilIface → wh = true → ((x != y) == ((d.toNat : Int) != 47)) = true ∧ (x && y) = false := by
    rintro rfl rfl rfl
    have hw2 := hwb.symm
    simp only [Bool.and_eq_true, Bool.not_eq_true', Lib.toList_data] at hw2
    have hne : a.data.toList ≠ [] := by intro e; rw [e] at hw2; exact absurd hw2.1 (by decide)
    have hno : ∀ b ∈ a.data.toList, b ≠ 92 ∧ b ≠ 93 := fun b hb => by
      constructor
      · rintro rfl; have := (containsAny_mem a.data.toList [93, 92]).2 ⟨92, hb, by decide⟩; rw [hw2.2] at this; cases this
      · rintro rfl; have := (containsAny_mem a.data.toList [93, 92]).2 ⟨93, hb, by decide⟩; rw [hw2.2] at this; cases this
    have hneg : Glb.negB a.data.toList = false := by
      cases e : a.data.toList with
      | nil => exact absurd e hne
      | cons b l =>
        rw [e] at hp1 hp2
        simp [Lib.hasPrefix, List.isPrefixOf] at hp1 hp2
        simp [Glb.negB]
        exact ⟨fun k => hp1 k.symm, fun k => hp2 k.symm⟩
    obtain ⟨A, l1, l2⟩ := Glb.either_law a.data.toList d (by rw [← Lib.size_eq]; omega) hne hno hneg
    have e1 : X1.data.toList = 91 :: (a.data.toList ++ [93]) := by rw [hX1]; simp
    have e2 : X2.data.toList = 91 :: 33 :: (a.data.toList ++ [93]) := by rw [hX2]; simp
    have k1 : Glb.mres X1.data.toList [d] = (x, 0) := by
      rcases hm1 with h | ⟨n, h⟩
      · exact h.2
      · cases h
    have k2 : Glb.mres X2.data.toList [d] = (y, 0) := by
      rcases hm2 with h | ⟨n, h⟩
      · exact h.2
      · cases h
    rw [e1, l1] at k1
    rw [e2, l2] at k2
    have hd : ((d.toNat : Int) != 47) = (d != 47) := by
      by_cases h : d = 47
      · subst h; rfl
      · rw [bne_iff_ne.2 h, bne_iff_ne]
        intro e
        exact h (UInt8.toNat_inj.1 (by show d.toNat = 47; omega))
    rw [hd, ← (Prod.mk.inj k1).1, ← (Prod.mk.inj k2).1]
    cases A <;> cases (d != 47) <;> exact ⟨rfl, rfl⟩
  have M1 := Lib.hid m1
  have M2 := Lib.hid m2
  have M3 := Lib.hid m3
  have HR := Lib.hid hr
  have HWH := Lib.hid hwh
  have LAW := Lib.hid law
  have HM1 := Lib.hid hm1
  have HM2 := Lib.hid hm2
  have HM3 := Lib.hid hm3
  have sX1 := hX1.symm
  have sX2 := hX2.symm
  have sX3 := hX3.symm
  clear m1 m2 m3 hr hwh law hm1 hm2 hm3 hX1 hX2 hX3 hrb hwb hp1 hp2 hb
  go_wp2_with fail
  refine (M1.out _).mono ?_
  rintro e w3 ⟨rfl, h3⟩
  have B3 := Lib.hid (thenB (B1.out.alloc B1.out.size _) h3)
  clear h3
  go_wp2_with fail
  refine (M2.out _).mono ?_
  rintro e w4 ⟨rfl, h4⟩
  have B4 := Lib.hid (thenB (B3.out.alloc B3.out.size _) h4)
  clear h4
  rcases HM1.out with ⟨rfl, _⟩ | ⟨n, rfl⟩
  rotate_left
  · go_wp2_with fail
    go_ret
    exact ⟨rfl, B4.out⟩
  rcases HM2.out with ⟨rfl, _⟩ | ⟨n, rfl⟩
  rotate_left
  · go_wp2_with fail
    go_ret
    exact ⟨rfl, B4.out⟩
  go_wp2_with fail
  refine (HR.out _).mono ?_
  rintro e w5 ⟨rfl, h5⟩
  have B5 := Lib.hid (thenB B4.out h5)
  clear h5
  cases rb
  · go_wp2_with fail
    go_ret
    exact ⟨rfl, B5.out⟩
  go_wp2_with fail
  refine (M3.out _).mono ?_
  rintro e w6 ⟨rfl, h6⟩
  have B6 := Lib.hid (thenB B5.out h6)
  clear h6
  rcases HM3.out with ⟨rfl, _⟩ | ⟨n, rfl⟩
  rotate_left
  · go_wp2_with fail
    go_ret
    exact ⟨rfl, B6.out⟩
  go_wp2_with fail
  refine (HWH.out _).mono ?_
  rintro e w7 ⟨rfl, h7⟩
  have B7 := Lib.hid (thenB B6.out h7)
  clear h7
  cases wh
  · go_wp2_with fail
    go_ret
    exact ⟨rfl, B7.out⟩
  obtain ⟨l1, l2⟩ := LAW.out (by trivial) (by trivial) (by trivial)
  cases x <;> cases y <;> cases hd : ((d.toNat : Int) != 47) <;> rw [hd] at l1 <;> first | (exact absurd l1 (by decide)) | (exact absurd l2 (by decide)) | skip
  all_goals
    clear l1 l2 LAW HM1 HM2 HM3
    go_wp2_with fail
    go_ret
    exact ⟨by first | rfl | (rw [hd]; rfl) | simp_all, B7.out⟩

end Go.Proofs.Ytpoofienimigaaa
