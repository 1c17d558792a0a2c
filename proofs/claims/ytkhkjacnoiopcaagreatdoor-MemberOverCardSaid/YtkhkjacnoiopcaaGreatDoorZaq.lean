/-
  Members as bytes, plain: Gnu is read back, with long names and with holes.
-/
import Derived.Test.YtkhkjacnoiopcaaGreatDoorZap
set_option linter.unusedVariables false
set_option linter.unusedSimpArgs false

set_option linter.unusedVariables false
set_option linter.unusedSimpArgs false
namespace Go.Proofs.YtkhkjacnoiopcaaGreatDoor
open Go Pk

/-- A piece that a field has room for. -/
def pcOk (p : Int × Int) : Prop := 0 ≤ p.1 ∧ p.1 ≤ 100000 ∧ 1 ≤ p.2 ∧ p.2 ≤ 100000
theorem digits_len (n : Int) : (digitsM n).length = 12 := Bk.octal_len _ _
theorem piece_len (p : Int × Int) : (pieceM p).length = 24 := by unfold pieceM; rw [List.length_append, digits_len, digits_len]
theorem rowM_nil (f : Nat) : rowM [] f = List.replicate (24 * f) 0 := by simp [rowM]
theorem rowM_cons (p : Int × Int) (l : List (Int × Int)) (f : Nat) : rowM (p :: l) (f + 1) = pieceM p ++ rowM l f := by
  unfold rowM
  rw [List.take_succ_cons, List.flatMap_cons, List.append_assoc, List.length_cons, Nat.add_sub_add_right]
theorem rowM_len : ∀ (f : Nat) (l : List (Int × Int)), (rowM l f).length = 24 * f
  | 0, l => by unfold rowM; simp
  | f + 1, [] => by rw [rowM_nil, List.length_replicate]
  | f + 1, p :: l => by rw [rowM_cons, List.length_append, piece_len, rowM_len f l]; omega

theorem head_len {h : Bl} (e : Ent) (hl : h.length = 512) : (holesHeadM h e).length = 512 := by
  unfold holesHeadM
  simp only [List.length_append, List.length_take, List.length_drop, rowM_len, digits_len, List.length_singleton, hl]
  omega
theorem right_holes {e : Ent} (h : rightE e = true) (hs : sparse e = true) : e.kind = 48 ∧ (∀ p ∈ e.map, pcOk p) ∧ e.map.length ≤ 20 ∧ 0 ≤ e.size ∧ e.size ≤ 4000 := by
  unfold rightE at h
  rw [Bool.and_eq_true] at h
  have hf := h.2
  unfold filled at hf
  split at hf
  · rename_i h48
    rw [Bool.and_eq_true] at hf
    obtain ⟨h1, h2⟩ := hf
    unfold Tre.inR at h1
    rw [Bool.and_eq_true, decide_eq_true_iff, decide_eq_true_iff] at h1
    rw [hs] at h2
    simp only [Bool.not_true, Bool.false_or, Bool.and_eq_true, beq_iff_eq] at h2
    obtain ⟨h2, _⟩ := h2
    unfold Hol.rightI at h2
    simp only [Bool.and_eq_true, decide_eq_true_eq] at h2
    obtain ⟨⟨_, h20⟩, hg⟩ := h2
    have hz : e.size = ((e.size.toNat : Nat) : Int) := by omega
    rw [hz] at hg
    obtain ⟨qs, eq, ha⟩ := Hol.right_asc e.size.toNat e.map 0 hg
    refine ⟨h48, ?_, h20, h1.1, h1.2⟩
    have hall : ∀ (l : List Hol.Pc) (lo : Nat), Hol.Asc e.size.toNat lo l → ∀ p ∈ l, 1 ≤ p.2 ∧ p.1 + p.2 ≤ e.size.toNat := by
      intro l
      induction l with
      | nil => intro lo _ p hp; cases hp
      | cons q l ih =>
        obtain ⟨a, b⟩ := q
        intro lo hA p hp
        obtain ⟨a1, a2, a3, a4⟩ := hA
        rcases List.mem_cons.1 hp with rfl | hp
        · exact ⟨a1, a3⟩
        · exact ih _ a4 p hp
    intro p hp
    rw [eq] at hp
    obtain ⟨q, hq, rfl⟩ := List.mem_map.1 hp
    have := hall qs 0 ha q hq
    unfold pcOk Hol.castP
    simp only
    omega
  · simp only [Bool.and_eq_true, beq_iff_eq, List.isEmpty_iff] at hf
    obtain ⟨⟨a, b⟩, c⟩ := hf
    unfold sparse at hs
    rw [a, b, c] at hs
    cases hs

theorem name_texts {e : Ent} (h : rightE e = true) : (nameM e).length ≤ 121 ∧ (0 : UInt8) ∉ nameM e := by
  obtain ⟨⟨a, b⟩, _⟩ := right_texts h
  unfold nameM
  split
  · refine ⟨by rw [List.length_append, List.length_singleton]; omega, fun hm => ?_⟩
    rcases List.mem_append.1 hm with hm | hm
    · exact b hm
    · exact absurd (List.mem_singleton.1 hm) (by decide)
  · exact ⟨by omega, b⟩
end Go.Proofs.YtkhkjacnoiopcaaGreatDoor
