/-
  A time's text, its parts, and the long text that says the same: no program in sight.
-/
import Derived.Test.YtgkgjlcbappbkaaDoorStampPlain
namespace Stp
open Go.Lib

theorem head_rest (below : Bool) (W R : Bs) (hw : dgs W) (hw0 : W ≠ []) :
    hasPrefix ((if below then [45] else []) ++ (W ++ R)) [45] = below ∧ rest ((if below then [45] else []) ++ (W ++ R)) = W ++ R ∧ trimPrefix ((if below then [45] else []) ++ (W ++ R)) [45] = W ++ R := by
  cases below
  · have : [45].isPrefixOf (W ++ R) = false := by
      cases W with
      | nil => exact absurd rfl hw0
      | cons x r =>
        have hx : x ≠ 45 := fun e => (dot_no hw).2 (by simp [e])
        simp [List.isPrefixOf]; exact fun e => hx e.symm
    refine ⟨this, ?_, ?_⟩
    · unfold rest
      simp only [Bool.false_eq_true, if_false, List.nil_append]
      rw [this]; rfl
    · unfold trimPrefix hasPrefix
      simp only [Bool.false_eq_true, if_false, List.nil_append]
      rw [this]; rfl
  · refine ⟨by simp [hasPrefix, List.isPrefixOf], ?_, ?_⟩
    · unfold rest
      simp [List.isPrefixOf]
    · unfold trimPrefix hasPrefix
      simp [List.isPrefixOf]

theorem index_has (a b : Bs) (h : (46 : UInt8) ∉ a) : decide (0 ≤ indexByte (a ++ 46 :: b) 46) = true := by
  have h1 := indexByte_ge (a ++ 46 :: b) 46
  by_cases h2 : indexByte (a ++ 46 :: b) 46 = -1
  · exact absurd (by simp : (a ++ 46 :: b)[a.length]? = some 46) (indexByte_none h2 a.length)
  · exact decide_eq_true (by omega)
theorem index_no (a : Bs) (h : (46 : UInt8) ∉ a) : decide (0 ≤ indexByte a 46) = false := by
  refine decide_eq_false fun h1 => ?_
  obtain ⟨o, ho⟩ : ∃ o : Nat, indexByte a 46 = o := ⟨(indexByte a 46).toNat, by omega⟩
  have := (indexByte_some ho).1
  exact h (List.mem_of_getElem? this)

theorem tail9_zero : tail9 0 = [] := by
  have e3 : decDigits (1000000000 + 0) = [49, 48, 48, 48, 48, 48, 48, 48, 48, 48] := by
    rw [decDigits_eq, nDigits_unique 9 _ (by omega) (by omega)]; decide
  unfold tail9 dig9; rw [e3]; decide

/-- What stands behind the sign. -/
def body (s n : Int) : Bs := decDigits (whl s n) ++ (if 0 < prt s n then 46 :: tail9 (prt s n) else [])
/-- .. with a dot in any case. -/
def full (s n : Int) : Bs := decDigits (whl s n) ++ 46 :: tail9 (prt s n)
theorem text_is (s n : Int) : text s n = (if decide (s < 0) then [45] else []) ++ (decDigits (whl s n) ++ (if 0 < prt s n then 46 :: tail9 (prt s n) else [])) := by
  unfold text; rw [sgn_eq, List.append_assoc]
theorem text_parts {s n : Int} (h : Ok s n) : hasPrefix (text s n) [45] = decide (s < 0) ∧ rest (text s n) = body s n ∧ trimPrefix (text s n) [45] = body s n := by
  rw [text_is]
  exact head_rest _ _ _ (dec_dgs _).1 (dec_ne _)
theorem body_cut {s n : Int} : cut (body s n) [46] = (decDigits (whl s n), (if 0 < prt s n then tail9 (prt s n) else []), decide (0 < prt s n)) := by
  unfold body
  by_cases h0 : 0 < prt s n
  · rw [if_pos h0, if_pos h0, cut_at (dot_no (dec_dgs _).1).1, decide_eq_true h0]
  · rw [if_neg h0, if_neg h0, List.append_nil, cut_no (dot_no (dec_dgs _).1).1, decide_eq_false h0]
theorem body_has (s n : Int) : decide (0 ≤ indexByte (body s n) 46) = decide (0 < prt s n) := by
  unfold body
  by_cases h0 : 0 < prt s n
  · rw [if_pos h0, index_has _ _ (dot_no (dec_dgs _).1).1, decide_eq_true h0]
  · rw [if_neg h0, List.append_nil, index_no _ (dot_no (dec_dgs _).1).1, decide_eq_false h0]
theorem body_full {s n : Int} (h0 : 0 < prt s n) : body s n = full s n := by unfold body full; rw [if_pos h0]
theorem body_dot {s n : Int} (h0 : ¬ 0 < prt s n) : body s n ++ [46] = full s n := by
  have e : prt s n = 0 := by omega
  unfold body full
  rw [if_neg h0, List.append_nil, e, tail9_zero]
theorem full_cut (s n : Int) : cut (full s n) [46] = (decDigits (whl s n), tail9 (prt s n), true) := cut_at (dot_no (dec_dgs _).1).1
theorem whole_ok {s n : Int} (h : Ok s n) (z : Nat) : digB (List.replicate z 48 ++ decDigits (whl s n)) = true ∧ (trimLeftS (List.replicate z 48 ++ decDigits (whl s n)) [48]).length ≤ 15 ∧ (decDigits (whl s n)).length ≤ 13 := by
  have hw := (whl_le h).1
  have hl := dec_len (whl s n) (by omega)
  refine ⟨digB_of (dgs_app.2 ⟨zeros_dgs z, (dec_dgs _).1⟩) (by have := dec_ne (whl s n); simp [this]), ?_, hl⟩
  rw [dec_trim]
  split
  · simp
  · omega
theorem part_ok {s n : Int} (h : Ok s n) : (0 < prt s n → digB (tail9 (prt s n)) = true) ∧ (tail9 (prt s n)).length ≤ 9 ∧ tail9 (prt s n) ++ List.replicate (9 - (tail9 (prt s n)).length) 48 = dig9 (prt s n) := by
  obtain ⟨k, hk, hl, hd, hne⟩ := tail9_all (prt s n) (whl_le h).2
  refine ⟨fun h0 => digB_of hd (hne h0), by omega, ?_⟩
  rw [hk]
  congr 2; omega
theorem read_short {s n : Int} (h : Ok s n) : read (decide (s < 0)) (decDigits (whl s n)) (if 0 < prt s n then tail9 (prt s n) else []) = (s, n) := by
  have hp := (whl_le h).2
  by_cases h0 : 0 < prt s n
  · obtain ⟨k, hk, hl, hd, hne⟩ := tail9_all (prt s n) hp
    rw [if_pos h0]
    have hr := read_at h 0 (tail9 (prt s n)) (by rw [nine_of hl, ← hk]; exact (dig9_all _ hp).2.2) (.inl (by rw [decide_eq_false (by omega)]; rfl))
    rw [List.replicate_zero, List.nil_append] at hr
    exact hr
  · rw [if_neg h0]
    have hr := read_at h 0 [] (by have : prt s n = 0 := by omega
                                  rw [this]; rfl) (.inl rfl)
    rw [List.replicate_zero, List.nil_append] at hr
    exact hr
/-- The long text behind its sign. -/
def long (s n : Int) (z : Nat) (more : Bs) : Bs := (List.replicate z 48 ++ decDigits (whl s n)) ++ 46 :: (dig9 (prt s n) ++ more)
theorem long_is {s n : Int} (h : Ok s n) (z : Nat) (more : Bs) : ((List.replicate z 48 ++ full s n) ++ List.replicate (9 - (tail9 (prt s n)).length) 48) ++ more = long s n z more := by
  unfold long full
  rw [← (part_ok h).2.2]
  simp
theorem long_parts {s n : Int} (z : Nat) (more : Bs) : hasPrefix ((if decide (s < 0) then [45] else []) ++ long s n z more) [45] = decide (s < 0) ∧ rest ((if decide (s < 0) then [45] else []) ++ long s n z more) = long s n z more :=
  have h := head_rest (decide (s < 0)) (List.replicate z 48 ++ decDigits (whl s n)) (46 :: (dig9 (prt s n) ++ more)) (dgs_app.2 ⟨zeros_dgs z, (dec_dgs _).1⟩) (by have := dec_ne (whl s n); simp [this])
  ⟨h.1, h.2.1⟩
theorem long_cut (s n : Int) (z : Nat) (more : Bs) : cut (long s n z more) [46] = (List.replicate z 48 ++ decDigits (whl s n), dig9 (prt s n) ++ more, true) :=
  cut_at (dot_no (dgs_app.2 ⟨zeros_dgs z, (dec_dgs _).1⟩)).1
theorem read_long {s n : Int} (h : Ok s n) (z : Nat) (more : Bs) : read (decide (s < 0)) (List.replicate z 48 ++ decDigits (whl s n)) (dig9 (prt s n) ++ more) = if trimS more [48] = [] ∨ ¬ s < 0 then (s, n) else down s n := by
  obtain ⟨hw, hp⟩ := whl_le h
  obtain ⟨g1, g2, g3⟩ := dig9_all (prt s n) hp
  have hd : (dig9 (prt s n) ++ more).drop 9 = more := by rw [List.drop_append, g1]; simp [List.drop_of_length_le (by omega : (dig9 (prt s n)).length ≤ 9)]
  have hv : val (nine (dig9 (prt s n) ++ more)) = prt s n := by rw [nine_long g1]; exact g3
  by_cases hc : trimS more [48] = [] ∨ ¬ s < 0
  · rw [if_pos hc]
    exact read_at h z (dig9 (prt s n) ++ more) hv (hc.imp (fun e => by rw [hd, e]; simp) id)
  · rw [if_neg hc]
    rw [not_or, Decidable.not_not] at hc
    obtain ⟨c1, c2⟩ := hc
    have hmne : more ≠ [] := fun e => c1 (by rw [e]; rfl)
    have hml : 0 < more.length := List.length_pos_iff.2 hmne
    unfold read
    rw [val_trim, hv, decide_eq_true c2, if_pos rfl, hd]
    have : (decide (9 < (dig9 (prt s n) ++ more).length) && !(trimS more [48] == [])) = true := by
      rw [decide_eq_true (by rw [List.length_append, g1]; omega)]
      simpa using c1
    rw [this]
    exact under_down h c2
theorem down_ok {s n : Int} (h : Ok s n) (hs : s < 0) : okB (down s n) = true ∨ okB (down s n) = false := by cases okB (down s n) <;> simp
theorem dig_len {s n : Int} (h : Ok s n) : (dig9 (prt s n)).length = 9 ∧ dgs (dig9 (prt s n)) := ⟨(dig9_all _ (whl_le h).2).1, (dig9_all _ (whl_le h).2).2.1⟩

end Stp
