/-
  path.Right and path.To.
-/
import Derived.Test.YtehooifcgfkngaaDoorPathD
namespace Go.Proofs.YtehooifcgfkngaaDoor
open Go.RowKit

theorem has_zero (l : List UInt8) : (Lib.indexByte l 0 < 0) ↔ l.contains 0 = false := by
  have hge := Lib.indexByte_ge l 0
  constructor
  · intro h
    have h1 := Lib.indexByte_none (l := l) (c := 0) (by omega)
    rw [Bool.eq_false_iff]
    intro hc
    obtain ⟨k, hk⟩ := List.getElem?_of_mem (List.contains_iff_mem.1 hc)
    exact h1 k hk
  · intro h
    rcases Int.lt_or_le (Lib.indexByte l 0) 0 with h1 | h1
    · exact h1
    · exfalso
      obtain ⟨i, hi⟩ := Int.eq_ofNat_of_zero_le h1
      have h2 := (Lib.indexByte_some hi).1
      have : l.contains 0 = true := List.contains_iff_mem.2 (List.mem_of_getElem? h2)
      rw [this] at h; cases h

set_option maxRecDepth 100000 in
set_option maxHeartbeats 1000000 in
theorem right_any (s : ByteArray) (w : World) (hs : s.size ≤ 2000000) (hm : ML w) :
    Calls Tryd.prog 37 #[.string s] w fun e w' => e = .returned (.bool (Pth.right s.data.toList)) ∧ Below w.heap.size w w' := by
  have hc := clean_any s w hs hm
  have hp := fun w hm => parts_any s w (by omega) hm
  have hi := fun w => Tryd.strings_IndexByte s 0 w
  have hz := has_zero s.data.toList
  have hpl := Pth.parts_len s.data.toList
  rw [list_size] at hpl
  have e0 : Pth.right s.data.toList = (Pth.cleanOk s.data.toList && Pth.clean s.data.toList == s.data.toList && !(s.data.toList == []) && decide (s.data.toList.length ≤ 120) && decide ((Pth.parts s.data.toList).length ≤ 12) && !(s.data.toList.contains 0)) := rfl
  obtain ⟨C, hC⟩ : ∃ C, C = bs (Pth.clean s.data.toList) := ⟨_, rfl⟩
  have hCs : (Pth.clean s.data.toList == s.data.toList) = (C.toList == s.toList) := by rw [hC, str_list, str_list, bs_list]
  have hnil : (s.data.toList == []) = s.toList.isEmpty := by rw [str_list]; cases s.data.toList <;> rfl
  rw [hCs, hnil, list_size] at e0
  rw [← hC] at hc
  obtain ⟨ok, hok⟩ : ∃ ok, ok = Pth.cleanOk s.data.toList := ⟨_, rfl⟩
  rw [← hok] at hc e0
  have hpf : ∀ w, ML w → Calls Tryd.prog 41 #[.string s] w fun e w' => ∃ A cap, e = .returned (.slice A (Pth.parts s.data.toList).length cap) ∧ Below w.heap.size w w' := fun w hm => (hp w hm).mono fun e w' ⟨v, he, ⟨A, cap, hv, _⟩, hb⟩ => ⟨A, cap, hv ▸ he, hb⟩
  obtain ⟨n, hn⟩ : ∃ n, n = (Pth.parts s.data.toList).length := ⟨_, rfl⟩
  rw [← hn] at hpf e0 hpl
  have hix : (0 : Int).toNat.toUInt8 = 0 := rfl
  rw [hix] at hi
  obtain ⟨x, hx⟩ : ∃ x, x = Lib.indexByte s.data.toList 0 := ⟨_, rfl⟩
  rw [← hx] at hi hz
  obtain ⟨z, hzz⟩ : ∃ z, z = s.data.toList.contains 0 := ⟨_, rfl⟩
  rw [← hzz] at hz e0
  obtain ⟨R, hR⟩ : ∃ R, R = Pth.right s.data.toList := ⟨_, rfl⟩
  rw [← hR] at e0 ⊢
  have H1 := Lib.hid hc
  have H2 := Lib.hid hpf
  have H3 := Lib.hid hi
  have HM := Lib.hid hm
  clear hc hp hpf hi hm hC hok hn hx hzz hR hCs hnil hix
  have hways : (ok = false ∧ R = false) ∨ (ok = true ∧ (C.toList == s.toList) = false ∧ R = false) ∨ (ok = true ∧ (C.toList == s.toList) = true ∧ s.toList = [] ∧ R = false)
      ∨ (ok = true ∧ (C.toList == s.toList) = true ∧ s.toList.isEmpty = false ∧ ¬ (s.size : Int) ≤ 120 ∧ R = false)
      ∨ (ok = true ∧ (C.toList == s.toList) = true ∧ s.toList.isEmpty = false ∧ (s.size : Int) ≤ 120 ∧ ¬ (n : Int) ≤ 12 ∧ R = false)
      ∨ (ok = true ∧ (C.toList == s.toList) = true ∧ s.toList.isEmpty = false ∧ (s.size : Int) ≤ 120 ∧ (n : Int) ≤ 12 ∧ ¬ x < 0 ∧ R = false)
      ∨ (ok = true ∧ (C.toList == s.toList) = true ∧ s.toList.isEmpty = false ∧ (s.size : Int) ≤ 120 ∧ (n : Int) ≤ 12 ∧ x < 0 ∧ R = true) := by
    rw [e0]
    cases ok
    · exact .inl ⟨rfl, rfl⟩
    right
    cases h2 : (C.toList == s.toList)
    · exact .inl ⟨rfl, rfl, rfl⟩
    right
    by_cases h3 : s.toList = []
    · exact .inl ⟨rfl, rfl, h3, by rw [h3]; rfl⟩
    right
    have h3' : s.toList.isEmpty = false := by simpa using h3
    rw [h3']
    by_cases h4 : s.size ≤ 120
    · right
      have h4' : (s.size : Int) ≤ 120 := by omega
      by_cases h5 : n ≤ 12
      · right
        have h5' : (n : Int) ≤ 12 := by omega
        by_cases h6 : x < 0
        · refine .inr ⟨rfl, rfl, rfl, h4', h5', h6, ?_⟩
          rw [hz.1 h6, decide_eq_true h4, decide_eq_true h5]; rfl
        · have hz' : z = true := by
            cases z
            · exact absurd (hz.2 rfl) h6
            · rfl
          refine .inl ⟨rfl, rfl, rfl, h4', h5', h6, ?_⟩
          rw [hz']; simp
      · refine .inl ⟨rfl, rfl, rfl, h4', by omega, ?_⟩
        rw [decide_eq_false h5]; simp
    · refine .inl ⟨rfl, rfl, rfl, by omega, ?_⟩
      rw [decide_eq_false h4]; simp
  clear e0 hz hpl
  rcases hways with ⟨rfl, rfl⟩ | ⟨rfl, k1, rfl⟩ | ⟨rfl, k1, k2, rfl⟩ | ⟨rfl, k1, k2, k3, rfl⟩ | ⟨rfl, k1, k2, k3, k4, rfl⟩ | ⟨rfl, k1, k2, k3, k4, k5, rfl⟩ | ⟨rfl, k1, k2, k3, k4, k5, rfl⟩
  · go_enter Tryd.func37, Tryd.ntmps37
    go_wp2_with fail
    refine H1.out.mono ?_
    rintro e w1 ⟨rfl, h1⟩
    have B1 := Lib.hid h1
    clear h1
    go_wp2_with fail
    go_ret
    exact ⟨rfl, B1.out⟩
  · go_enter Tryd.func37, Tryd.ntmps37
    go_wp2_with fail
    refine H1.out.mono ?_
    rintro e w1 ⟨rfl, h1⟩
    have B1 := Lib.hid h1
    clear h1
    go_wp2_with fail
    go_ret
    exact ⟨rfl, B1.out⟩
  · have k6 : s.toList.isEmpty = true := by rw [k2]; rfl
    have k7 : C.toList = [] := by rw [← k2]; exact eq_of_beq k1
    have k8 : C.toList.isEmpty = true := by rw [k7]; rfl
    clear k1
    go_enter Tryd.func37, Tryd.ntmps37
    go_wp2_with fail
    refine H1.out.mono ?_
    rintro e w1 ⟨rfl, h1⟩
    have B1 := Lib.hid h1
    clear h1
    go_wp2_with fail
    go_ret
    exact ⟨rfl, B1.out⟩
  · have k6 : ¬ s.toList = [] := by intro e; rw [e] at k2; cases k2
    go_enter Tryd.func37, Tryd.ntmps37
    go_wp2_with fail
    refine H1.out.mono ?_
    rintro e w1 ⟨rfl, h1⟩
    have B1 := Lib.hid h1
    clear h1
    go_wp2_with fail
    go_ret
    exact ⟨rfl, B1.out⟩
  all_goals
    have k6 : ¬ s.toList = [] := by intro e; rw [e] at k2; cases k2
    go_enter Tryd.func37, Tryd.ntmps37
    go_wp2_with fail
    refine H1.out.mono ?_
    rintro e w1 ⟨rfl, h1⟩
    have B1 := Lib.hid h1
    clear h1
    go_wp2_with fail
    refine (H2.out _ (HM.out.below B1.out)).mono ?_
    rintro e w2 ⟨A, cap, rfl, h2⟩
    have B2 := Lib.hid (thenB B1.out h2)
    clear h2
    go_wp2_with fail
  · go_ret
    exact ⟨rfl, B2.out⟩
  all_goals
    refine (H3.out _).mono ?_
    rintro e w3 ⟨rfl, rfl⟩
    go_wp2_with fail
    go_ret
    exact ⟨by simp [k5], B2.out⟩

/-- path.To at a link that begins with a slash. -/
theorem to_abs (name : ByteArray) (r : List UInt8) (w : World) (hs : r.length ≤ 10000) (hm : ML w) :
    Calls Tryd.prog 44 #[.string name, .string (bs (47 :: r))] w fun e w' => e = .returned (.tuple #[.string (bs (Pth.clean (47 :: r))), .bool (Pth.cleanOk (47 :: r))]) ∧ Below w.heap.size w w' := by
  have hp := fun w => Tryd.strings_HasPrefix (bs (47 :: r)) ⟨#[47]⟩ w
  have ep : Lib.hasPrefix (bs (47 :: r)).data.toList (⟨#[47]⟩ : ByteArray).data.toList = true := by
    rw [bs_list]; simp [Lib.hasPrefix]
  rw [ep] at hp
  have hc := fun w hm => clean_any (bs (47 :: r)) w (by rw [bs_size]; simp; omega) hm
  rw [bs_list] at hc
  obtain ⟨X, hX⟩ : ∃ X, X = bs (47 :: r) := ⟨_, rfl⟩
  rw [← hX] at hp hc ⊢
  have HP := Lib.hid hp
  have HC := Lib.hid hc
  have HM := Lib.hid hm
  clear hp hc hm ep hX
  go_enter Tryd.func44, Tryd.ntmps44
  go_wp2_with fail
  refine (HP.out _).mono ?_
  rintro e w1 ⟨rfl, rfl⟩
  go_wp2_with fail
  refine (HC.out _ HM.out).mono ?_
  rintro e w2 ⟨rfl, h2⟩
  have B2 := Lib.hid h2
  clear h2
  go_wp2_with fail
  go_ret2
  exact ⟨rfl, B2.out⟩
/-- path.To at another link. -/
theorem to_rel (name d l link : ByteArray) (w : World) (hd : d.size ≤ 10000) (hs : link.size ≤ 10000) (hm : ML w) (h0 : ∀ r, link.data.toList ≠ 47 :: r)
    (hu : ∀ w : World, Calls Tryd.prog 22 #[.string name] w fun e w' => e = .returned (.tuple #[.string d, .string l]) ∧ Below w.heap.size w w') :
    Calls Tryd.prog 44 #[.string name, .string link] w fun e w' => e = .returned (.tuple #[.string (bs (Pth.clean (d.data.toList ++ 47 :: link.data.toList))), .bool (Pth.cleanOk (d.data.toList ++ 47 :: link.data.toList))]) ∧ Below w.heap.size w w' := by
  have hp := fun w => Tryd.strings_HasPrefix link ⟨#[47]⟩ w
  have ep : Lib.hasPrefix link.data.toList (⟨#[47]⟩ : ByteArray).data.toList = false := by
    have : (⟨#[47]⟩ : ByteArray).data.toList = [47] := rfl
    rw [this]
    unfold Lib.hasPrefix
    cases h : link.data.toList with
    | nil => rfl
    | cons c r =>
      have hc : c ≠ 47 := fun e => h0 r (by rw [h, e])
      simp [List.isPrefixOf]; exact fun e => hc e.symm
  rw [ep] at hp
  have hc := fun w hm => clean_any (d ++ ⟨#[47]⟩ ++ link) w (by rw [ByteArray.size_append, ByteArray.size_append]; have : (⟨#[47]⟩ : ByteArray).size = 1 := rfl; omega) hm
  have e1 : (d ++ (⟨#[47]⟩ : ByteArray) ++ link).data.toList = d.data.toList ++ 47 :: link.data.toList := by rw [cat_list, cat_list]; simp
  rw [e1] at hc
  obtain ⟨T, hT⟩ : ∃ T, T = bs (Pth.clean (d.data.toList ++ 47 :: link.data.toList)) := ⟨_, rfl⟩
  obtain ⟨o, ho⟩ : ∃ o, o = Pth.cleanOk (d.data.toList ++ 47 :: link.data.toList) := ⟨_, rfl⟩
  rw [← hT, ← ho] at hc ⊢
  have HP := Lib.hid hp
  have HC := Lib.hid hc
  have HM := Lib.hid hm
  have HU := Lib.hid hu
  clear hp hc hm ep e1 hT ho h0 hu
  go_enter Tryd.func44, Tryd.ntmps44
  go_wp2_with fail
  refine (HP.out _).mono ?_
  rintro e w1 ⟨rfl, rfl⟩
  go_wp2_with fail
  refine (HU.out _).mono ?_
  rintro e w2 ⟨rfl, h2⟩
  have B2 := Lib.hid h2
  clear h2
  go_wp2_with fail
  refine (HC.out _ (HM.out.below B2.out)).mono ?_
  rintro e w3 ⟨rfl, h3⟩
  have B3 := Lib.hid (thenB B2.out h3)
  clear h3
  go_wp2_with fail
  go_ret2
  exact ⟨rfl, B3.out⟩

end Go.Proofs.YtehooifcgfkngaaDoor
