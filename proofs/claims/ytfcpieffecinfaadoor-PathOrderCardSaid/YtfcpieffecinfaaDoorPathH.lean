/-
  Contracts at valid names.
-/
import Derived.Test.YtfcpieffecinfaaDoorPathS
namespace Pth
theorem last_ok {A : List Bs} (hA : Cl A) (h0 : A ≠ []) : Ok (A.getLast h0) := (hA _ (List.getLast_mem h0)).1
theorem drop_cl {A : List Bs} (hA : Cl A) : Cl A.dropLast := fun p hp => hA p ((List.dropLast_sublist A).subset hp)
theorem join_zero {A : List Bs} {B : List Bs} (h : (join (A ++ B)).contains 0 = false) : (join A).contains 0 = false := by
  by_cases hA : A = []
  · subst hA; rfl
  · by_cases hB : B = []
    · subst hB; simpa using h
    · rw [join_app hA hB] at h
      simp only [List.contains_eq_mem, List.mem_append, decide_eq_false_iff_not, not_or] at h ⊢
      exact h.1
theorem up_right {A : List Bs} (hA : Cl A) (h0 : A.dropLast ≠ []) (hl : (join A).length ≤ 120) (hn : A.length ≤ 12) (hz : (join A).contains 0 = false) : right (join A.dropLast) = true := by
  have hA0 : A ≠ [] := by intro e; rw [e] at h0; exact h0 rfl
  have hj := join_last hA0
  rw [if_neg h0] at hj
  refine right_mk (drop_cl hA) h0 ?_ (by rw [List.length_dropLast]; omega) ?_
  · rw [hj] at hl; simp at hl; omega
  · have e := List.dropLast_concat_getLast hA0
    rw [← e] at hz
    exact join_zero hz
theorem up_in {A : List Bs} (h0 : A ≠ []) : inn (join A) (join A.dropLast) = true := by
  rw [inn_iff]
  by_cases h : A.dropLast = []
  · left; rw [h]; rfl
  · right; right
    exact ⟨_, by have := join_last h0; rw [if_neg h] at this; exact this⟩
theorem up_whole {A : List Bs} (hA : Cl A) (h0 : A ≠ []) : (if join A.dropLast = [] then A.getLast h0 else join A.dropLast ++ 47 :: A.getLast h0) = join A := by
  have hj := join_last h0
  by_cases h : A.dropLast = []
  · rw [if_pos h] at hj; rw [h, if_pos (show join [] = [] from rfl), hj]
  · rw [if_neg h] at hj; rw [if_neg (join_ne (drop_cl hA).ok h), hj]
end Pth
namespace Go.Proofs.YtfcpieffecinfaaDoor
open Go.RowKit

theorem up_join {A : List Pth.Bs} (hA : Pth.Cl A) (h0 : A ≠ []) (hl : (Pth.join A).length ≤ 1000) (w : World) :
    Calls Tryd.prog 13 #[.string (bs (Pth.join A))] w fun e w' => e = .returned (.tuple #[.string (bs (Pth.join A.dropLast)), .string (bs (A.getLast h0))]) ∧ Below w.heap.size w w' := by
  have hj := Pth.join_last h0
  by_cases h : A.dropLast = []
  · rw [if_pos h] at hj
    have := up_none (bs (Pth.join A)) w (by rw [bs_size]; omega) (by rw [bs_list, hj]; exact (Pth.last_ok hA h0).2.2)
    rw [h]
    rw [hj] at this ⊢
    exact this
  · rw [if_neg h] at hj
    have hl2 := congrArg List.length hj
    simp at hl2
    have := up_some (Pth.join A.dropLast) (A.getLast h0) w (by omega) (Pth.last_ok hA h0).2.2
    rw [← hj] at this
    exact this

theorem away_len (A B : Pth.Bs) : (Pth.away A B).length ≤ 3 * (A.length + 1) + B.length + 1 := by
  unfold Pth.away
  split
  · simp
  · rw [List.length_append, Pth.ups_len]
    have h1 := Pth.join_drop_len (Pth.parts B) (Pth.same (Pth.parts A) (Pth.parts B))
    have h2 := Pth.parts_sum B
    have h3 := Pth.parts_len A
    omega

/-- The link that Away gives leads from the first name to the second one. -/
theorem to_away {A B : List Pth.Bs} (hA : Pth.Cl A) (hB : Pth.Cl B) (hA0 : A ≠ []) (hB0 : B ≠ []) (la : (Pth.join A).length ≤ 120) (lb : (Pth.join B).length ≤ 120) (w : World) (hm : ML w) :
    Calls Tryd.prog 15 #[.string (bs (Pth.join A)), .string (bs (Pth.away (Pth.join A) (Pth.join B)))] w fun e w' => e = .returned (.tuple #[.string (bs (Pth.join B)), .bool true]) ∧ Below w.heap.size w w' := by
  have hl := away_len (Pth.join A) (Pth.join B)
  have hd : (Pth.join A.dropLast).length ≤ (Pth.join A).length := by
    have hj := Pth.join_last hA0
    by_cases h : A.dropLast = []
    · rw [h]; simp [Pth.join]
    · rw [if_neg h] at hj; rw [hj]; simp
  have h := to_rel (bs (Pth.join A)) (bs (Pth.join A.dropLast)) (bs (A.getLast hA0)) (bs (Pth.away (Pth.join A) (Pth.join B))) w (by rw [bs_size]; omega) (by rw [bs_size]; omega) hm
    (fun r => by rw [bs_list]; exact Pth.away_head hA hB hA0 hB0 r) (fun w => up_join hA hA0 (by omega) w)
  have e := Pth.away_leads hA hB hA0 hB0
  have e1 : Pth.clean (Pth.join A.dropLast ++ 47 :: Pth.away (Pth.join A) (Pth.join B)) = Pth.join B := by unfold Pth.clean; rw [e]
  have e2 : Pth.cleanOk (Pth.join A.dropLast ++ 47 :: Pth.away (Pth.join A) (Pth.join B)) = true := by unfold Pth.cleanOk; rw [e]
  rw [bs_list, bs_list, e1, e2] at h
  exact h
/-- A link with a slash ahead leads to its name. -/
theorem to_root {B : List Pth.Bs} (hB : Pth.Cl B) (lb : (Pth.join B).length ≤ 120) (name : ByteArray) (w : World) (hm : ML w) :
    Calls Tryd.prog 15 #[.string name, .string (bs (47 :: Pth.join B))] w fun e w' => e = .returned (.tuple #[.string (bs (Pth.join B)), .bool true]) ∧ Below w.heap.size w w' := by
  have h := to_abs name (Pth.join B) w (by omega) hm
  have e : Pth.cleanP (47 :: Pth.join B) = (B, true) := by
    have e0 : Pth.parts (47 :: Pth.join B) = Pth.parts (Pth.join B) := by
      have := Pth.parts_app [] (Pth.join B); rw [List.nil_append, Pth.parts_nil, List.nil_append] at this; exact this
    have := Pth.cl_clean hB
    unfold Pth.cleanP at this ⊢
    rw [e0]; exact this
  have e1 : Pth.clean (47 :: Pth.join B) = Pth.join B := by unfold Pth.clean; rw [e]
  have e2 : Pth.cleanOk (47 :: Pth.join B) = true := by unfold Pth.cleanOk; rw [e]
  rw [e1, e2] at h
  exact h

/-- slices.Contains at texts. -/
theorem has_any {W : World} {B : Nat} {v : Value} {ps : List Pth.Bs} (h : HasS W B v ps) (hl : ps.length ≤ 1000000) (x : ByteArray) :
    Calls Tryd.prog 18 #[v, .string x] W fun e w' => e = .returned (.bool (decide (x.data.toList ∈ ps))) ∧ w' = W := by
  rcases h.ways with ⟨A, cap, rfl, rfl⟩ | ⟨b, off, cap, rfl, _, _, hb, h0, hr⟩
  · have := Tryd.slices_Contains_string_empty A cap x W
    simpa using this
  · have hs := Tryd.slices_Contains_string b off ps.length cap (ps.map bs) x W (by simp) (by omega) (fun j hj => by
      have hj' : j < ps.length := by simpa using hj
      rw [List.getD_eq_getElem?_getD, List.getElem?_eq_getElem hj]; simpa using hr j hj')
    refine hs.mono fun e w' ⟨he, hw⟩ => ⟨?_, hw⟩
    rw [he]
    congr 2
    rw [List.take_of_length_le (by simp)]
    rw [Bool.eq_iff_iff, Lib.containsS_iff, decide_eq_true_iff, List.mem_map]
    constructor
    · rintro ⟨p, hp, rfl⟩; rw [bs_list]; exact hp
    · intro hx; exact ⟨_, hx, bs_of x⟩

/-- slices.Equal at texts. -/
theorem eq_any {W : World} {B C : Nat} {v u : Value} {ps qs : List Pth.Bs} (h : HasS W B v ps) (k : HasS W C u qs) (hl : ps.length ≤ 1000000) (hl2 : qs.length ≤ 1000000) :
    Calls Tryd.prog 20 #[v, u] W fun e w' => e = .returned (.bool (decide (ps = qs))) ∧ Below W.heap.size W w' := by
  rcases h.ways with ⟨A, cap, rfl, rfl⟩ | ⟨b, off, cap, rfl, _, _, hb, h0, hr⟩
  · obtain ⟨A2, cap2, rfl, _⟩ := k
    refine (Tryd.slices_Equal_string_empty A A2 cap qs.length cap2 W (by omega)).mono fun e w' ⟨he, hw⟩ => ⟨?_, hw ▸ Below.refl _ _⟩
    rw [he]; congr 2; rw [Bool.eq_iff_iff]; simp [eq_comm]
  · rcases k.ways with ⟨A2, cap2, rfl, rfl⟩ | ⟨b2, off2, cap2, rfl, _, _, hb2, h02, hr2⟩
    · refine (Tryd.slices_Equal_string_lens (some ⟨b, off, none⟩) A2 ps.length cap 0 cap2 W (by omega)).mono fun e w' ⟨he, hw⟩ => ⟨?_, hw ▸ Below.refl _ _⟩
      rw [he]; congr 2; symm; apply decide_eq_false; intro e; rw [e] at h0; simp at h0
    · have cell : ∀ {b off : Nat} {ps : List Pth.Bs}, RowS W b off ps → ∀ j, j < (ps.map bs).length → W.cell? ⟨b, off + j, none⟩ = some (.string ((ps.map bs).getD j ByteArray.empty)) := fun hr j hj => by
        have hj' := hj
        rw [List.length_map] at hj'
        rw [List.getD_eq_getElem?_getD, List.getElem?_eq_getElem hj]; simpa using hr j hj'
      refine (Tryd.slices_Equal_string b off ps.length cap b2 off2 qs.length cap2 (ps.map bs) (qs.map bs) W (by simp) (by simp) (by omega) (by omega) (cell hr) (cell hr2)).mono fun e w' ⟨he, q, hw⟩ => ⟨?_, hw ▸ below_drewN (Below.refl _ _) q⟩
      rw [he, List.take_of_length_le (by simp), List.take_of_length_le (by simp)]
      congr 2
      rw [Bool.eq_iff_iff, decide_eq_true_iff, decide_eq_true_iff]
      constructor
      · intro e
        have := congrArg (List.map (fun x : ByteArray => x.data.toList)) e
        rw [List.map_map, List.map_map] at this
        have e1 : ∀ l : List Pth.Bs, l.map ((fun x : ByteArray => x.data.toList) ∘ bs) = l := fun l => List.map_id l
        rwa [e1, e1] at this
      · rintro rfl; rfl

end Go.Proofs.YtfcpieffecinfaaDoor
