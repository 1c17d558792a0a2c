/-
  (*Tree).move: the new name of a name; what the map of names holds on the way.
-/
import Derived.Test.YtehooifcgfkngaaDoorTreeJ
import Derived.Deep.QuietTactic
import Derived.BigQuiet
namespace Tre
open Pth
/-- What the names lead to when the names S have moved from a to b. -/
def half (E : List (Bs × Nat)) (a b : Bs) (S : List Bs) (x : Bs) : Option Nat :=
  if inn x b = true then (if mv b a x ∈ S ∧ mv a b (mv b a x) = x then look E (mv b a x) else none) else if x ∈ S then none else look E x
theorem half_nil {t : T} {a b : Bs} (h : Moves t a b) : half t.ents a b [] = look t.ents := by
  funext x
  unfold half
  by_cases hx : inn x b = true
  · rw [if_pos hx, if_neg (by simp)]
    symm
    rw [look_none]
    intro p hp e
    have := h.fresh p hp
    rw [e, hx] at this; cases this
  · rw [if_neg hx, if_neg (by simp)]
theorem half_snoc {t : T} {a b : Bs} (h : Moves t a b) {S : List Bs} {s : Bs} {i : Nat} (hi : look t.ents s = some i) (hin : inn s a = true) (hS : s ∉ S) (x : Bs) :
    half t.ents a b (S ++ [s]) x = if x = mv a b s then some i else if x = s then none else half t.ents a b S x := by
  have ha := right_ne h.ra
  have hns : inn s b = false := h.fresh _ (look_mem hi)
  unfold half
  by_cases e1 : x = mv a b s
  · subst e1
    rw [if_pos (mv_inn a b s hin ha), if_pos rfl, mv_back a b s hin ha, if_pos ⟨by simp, rfl⟩, hi]
  · rw [if_neg e1]
    by_cases e2 : x = s
    · subst e2
      rw [if_neg (by simp [hns]), if_pos (by simp), if_pos rfl]
    · rw [if_neg e2]
      by_cases hx : inn x b = true
      · rw [if_pos hx, if_pos hx]
        by_cases e3 : mv b a x ∈ S ∧ mv a b (mv b a x) = x
        · rw [if_pos e3, if_pos ⟨List.mem_append.2 (.inl e3.1), e3.2⟩]
        · rw [if_neg e3, if_neg]
          rintro ⟨h1, h2⟩
          rcases List.mem_append.1 h1 with h1 | h1
          · exact e3 ⟨h1, h2⟩
          · rw [List.mem_singleton.1 h1] at h2
            exact e1 h2.symm
      · rw [if_neg hx, if_neg hx]
        by_cases e3 : x ∈ S
        · rw [if_pos e3, if_pos (List.mem_append.2 (.inl e3))]
        · rw [if_neg e3, if_neg]
          intro h1
          rcases List.mem_append.1 h1 with h1 | h1
          · exact e3 h1
          · exact e2 (List.mem_singleton.1 h1)
theorem half_old {t : T} {a b : Bs} (h : Moves t a b) {S : List Bs} {s : Bs} {i : Nat} (hi : look t.ents s = some i) (hS : s ∉ S) : half t.ents a b S s = some i := by
  have hns : inn s b = false := h.fresh _ (look_mem hi)
  unfold half
  rw [if_neg (by simp [hns]), if_neg hS, hi]
theorem half_new {t : T} {a b : Bs} (h : Moves t a b) {S : List Bs} {s : Bs} (hin : inn s a = true) (hS : s ∉ S) : half t.ents a b S (mv a b s) = none := by
  have ha := right_ne h.ra
  unfold half
  rw [if_pos (mv_inn a b s hin ha), mv_back a b s hin ha, if_neg (fun h => hS h.1)]
/-- All have moved. -/
theorem half_all {t : T} {a b : Bs} (h : Moves t a b) : half t.ents a b (t.inside a) = look (moved t a b).ents := by
  have ha := right_ne h.ra
  funext x
  unfold half
  by_cases hx : inn x b = true
  · rw [if_pos hx]
    by_cases e3 : mv b a x ∈ t.inside a ∧ mv a b (mv b a x) = x
    · rw [if_pos e3]
      obtain ⟨h1, h2⟩ := inside_mem.1 e3.1
      obtain ⟨k, hk⟩ := has_iff.1 h1
      have hl := look_of h.st.nd hk
      simp only at hl
      have := h.look_in h2 hl
      rw [e3.2] at this
      rw [hl, this]
    · rw [if_neg e3]
      symm
      rw [look_none]
      intro p hp e
      obtain ⟨q, hq, rfl⟩ := List.mem_map.1 hp
      cases hi : inn q.1 a
      · rw [ren_out hi] at e
        have := h.fresh q hq
        rw [e, hx] at this; cases this
      · rw [ren_in hi] at e
        simp only at e
        have e4 : mv b a x = q.1 := by rw [← e]; exact mv_back a b q.1 hi ha
        exact e3 ⟨inside_mem.2 ⟨has_iff.2 ⟨q.2, by rw [e4]; exact hq⟩, by rw [e4]; exact hi⟩, by rw [e4]; exact e⟩
  · rw [if_neg hx]
    by_cases e3 : x ∈ t.inside a
    · rw [if_pos e3]
      symm
      rw [look_none]
      intro p hp e
      have hxa := (inside_mem.1 e3).2
      obtain ⟨q, hq, rfl⟩ := List.mem_map.1 hp
      cases hi : inn q.1 a
      · rw [ren_out hi] at e; rw [e, hxa] at hi; cases hi
      · rw [ren_in hi] at e
        simp only at e
        have := mv_inn a b q.1 hi ha
        rw [e] at this; exact hx this
    · rw [if_neg e3]
      cases hl : look t.ents x with
      | some k =>
        have hxa : inn x a = false := by
          cases hi : inn x a with
          | false => rfl
          | true => exact absurd (inside_mem.2 ⟨has_iff.2 ⟨k, look_mem hl⟩, hi⟩) e3
        exact (h.look_out hxa hl).symm
      | none =>
        symm
        rw [look_none]
        intro p hp e
        obtain ⟨q, hq, rfl⟩ := List.mem_map.1 hp
        cases hi : inn q.1 a
        · rw [ren_out hi] at e
          exact look_none.1 hl q hq e
        · rw [ren_in hi] at e
          simp only at e
          have := mv_inn a b q.1 hi ha
          rw [e] at this; exact hx this
theorem inn_len {s a : Bs} (h : inn s a = true) : a.length ≤ s.length := by
  rw [inn_iff] at h
  rcases h with rfl | rfl | ⟨r, rfl⟩ <;> simp
end Tre
namespace Go.Proofs.YtehooifcgfkngaaDoor
open Go.RowKit Go.Maps Tre

def halfF (E : List (Pth.Bs × Nat)) (a b : Pth.Bs) (S : List Pth.Bs) : Lit → Option Value := strF fun x => (half E a b S x).map fun (k : Nat) => Value.int .i64 (k : Int)
theorem halfF_nil {t : T} {a b : Pth.Bs} (h : Moves t a b) : halfF t.ents a b [] = namesF t.ents := by unfold halfF namesF; rw [half_nil h]
theorem halfF_all {t : T} {a b : Pth.Bs} (h : Moves t a b) : halfF t.ents a b (t.inside a) = namesF (moved t a b).ents := by unfold halfF namesF; rw [half_all h]
theorem halfF_snoc {t : T} {a b : Pth.Bs} (h : Moves t a b) {S : List Pth.Bs} {s : Pth.Bs} {i : Nat} (hi : Tre.look t.ents s = some i) (hin : Pth.inn s a = true) (hS : s ∉ S) :
    setF (delF (halfF t.ents a b S) (.string s)) (.string (mv a b s)) (.int .i64 (i : Int)) = halfF t.ents a b (S ++ [s]) := by
  unfold halfF
  rw [strF_del, strF_set]
  congr 1
  funext x
  rw [half_snoc h hi hin hS]
  by_cases e1 : x = mv a b s
  · rw [if_pos e1, if_pos e1]; rfl
  · rw [if_neg e1, if_neg e1]
    by_cases e2 : x = s
    · rw [if_pos e2, if_pos e2]; rfl
    · rw [if_neg e2, if_neg e2]

set_option maxRecDepth 100000 in
theorem newname_any {w : World} {B : Nat} {a b : Pth.Bs} (s : Pth.Bs) (h1 : w.cell? ⟨B, 1, none⟩ = some (.string (bs a))) (h2 : w.cell? ⟨B, 2, none⟩ = some (.string (bs b))) (hl : a.length ≤ s.length) (hs : s.length ≤ 100000) (hb : b.length ≤ 100000) :
    Calls Tryd.prog 55 #[.string (bs s), .pointer (some ⟨B, 0, none⟩)] w fun e w' => e = .returned (.string (bs (mv a b s))) ∧ ∃ q, w' = w.drewN q := by
  have ex : (bs s).extract (bs a).size (bs s).size = bs (s.drop a.length) := ba_ext (by rw [ext_end, bs_list, bs_list]; rfl)
  have su := fun w => run_string_add_sum (P := Tryd.prog) w (bs b) (bs (s.drop a.length)) (by rw [bs_size, bs_size, List.length_drop]; omega)
  rw [cat_bs] at su
  have e : mv a b s = b ++ s.drop a.length := rfl
  rw [e]
  have l2 : (bs a).size ≤ (bs s).size := hl
  have l4 : (bs s).size ≤ 100000 := hs
  obtain ⟨X, hX⟩ : ∃ X, X = bs (s.drop a.length) := ⟨_, rfl⟩
  obtain ⟨Y, hY⟩ : ∃ Y, Y = bs (b ++ s.drop a.length) := ⟨_, rfl⟩
  rw [← hX] at ex su
  rw [← hY] at su ⊢
  obtain ⟨S, hS⟩ : ∃ S, S = bs s := ⟨_, rfl⟩
  rw [← hS] at ex l2 l4 ⊢
  obtain ⟨A, hA⟩ : ∃ A, A = bs a := ⟨_, rfl⟩
  rw [← hA] at ex l2 h1
  obtain ⟨Bb, hBb⟩ : ∃ Bb, Bb = bs b := ⟨_, rfl⟩
  rw [← hBb] at su h2
  have l1 : (0 : Int) ≤ A.size := by omega
  have l3 : (A.size : Int) ≤ S.size := by omega
  clear e hX hY hS hA hBb hl hs hb
  go_enter Tryd.func55, Tryd.ntmps55
  go_wp2_with fail
  go_quiet (fail)
  go_wp2_with fail
  go_ret
  exact ⟨rfl, _, rfl⟩

end Go.Proofs.YtehooifcgfkngaaDoor
