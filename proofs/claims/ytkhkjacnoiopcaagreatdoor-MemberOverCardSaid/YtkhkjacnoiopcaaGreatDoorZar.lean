/-
  Members as bytes, plain: Pax is read back.
-/
import Derived.Test.YtkhkjacnoiopcaaGreatDoorZaq
set_option linter.unusedVariables false
set_option linter.unusedSimpArgs false

set_option linter.unusedVariables false
set_option linter.unusedSimpArgs false
namespace Go.Proofs.YtkhkjacnoiopcaaGreatDoor
open Go Pk

theorem mem_if {α : Type} {c : Prop} [Decidable c] {xs : List α} {p : α} : p ∈ (if c then xs else []) ↔ c ∧ p ∈ xs := by split <;> simp [*]
theorem sub_if {α : Type} {c : Prop} [Decidable c] (xs : List α) : (if c then xs else []).Sublist xs := by
  split
  · exact List.Sublist.refl _
  · exact List.nil_sublist _
theorem mem_rec {e : Ent} {p : Px.Rec} : p ∈ recordsM e ↔ ((sparse e = true ∧ (p = (kMajor, [49]) ∨ p = (kMinor, [48]) ∨ p = (kReal, decM e.size))) ∨ (2097151 < e.gid ∧ p = (kGid, decM e.gid)) ∨ (100 < e.link.length ∧ p = (kLink, e.link)) ∨ ((e.nano ≠ 0 ∨ timeIn e.sec = false) ∧ p = (kTime, Stp.text e.sec e.nano)) ∨ (splitN (nameM e) = none ∧ p = (kPath, nameM e)) ∨ (2097151 < e.uid ∧ p = (kUid, decM e.uid))) := by
  unfold recordsM
  simp only [List.mem_append, mem_if, List.mem_cons, List.not_mem_nil, or_false]
  simp only [or_assoc]
theorem rec_sub (e : Ent) : (recordsM e).Sublist ([(kMajor, [49]), (kMinor, [48]), (kReal, decM e.size)] ++ [(kGid, decM e.gid)] ++ [(kLink, e.link)] ++ [(kTime, Stp.text e.sec e.nano)] ++ [(kPath, nameM e)] ++ [(kUid, decM e.uid)]) :=
  ((((sub_if _).append (sub_if _)).append (sub_if _)).append (sub_if _)).append (sub_if _) |>.append (sub_if _)
theorem rec_len (e : Ent) : (recordsM e).length ≤ 8 := (rec_sub e).length_le
theorem dec_size {n : Int} (h1 : n ≤ 1099511627777) : (decM n).length ≤ 13 ∧ decM n ≠ [] := ⟨Stp.dec_len _ (by omega), Stp.dec_ne _⟩
theorem stamp_size {s n : Int} (h : Stp.Ok s n) : (Stp.text s n).length ≤ 24 ∧ Stp.text s n ≠ [] := by
  obtain ⟨a, b⟩ := Stp.whl_le h
  obtain ⟨k, _, c, _⟩ := Stp.tail9_all _ b
  have d := Stp.dec_len (Stp.whl s n) (by omega)
  have d2 := Stp.dec_ne (Stp.whl s n)
  unfold Stp.text Stp.sgn
  constructor
  · simp only [List.length_append]
    split <;> split <;> simp <;> omega
  · intro e
    rw [List.append_eq_nil_iff, List.append_eq_nil_iff] at e
    exact d2 e.1.2
theorem name_ne {e : Ent} (h : rightE e = true) : nameM e ≠ [] := by
  obtain ⟨_, h1, _⟩ := right_facts h
  unfold nameM
  split
  · simp
  · exact h1
theorem rec_ok {e : Ent} (h : rightE e = true) (hz : e.size ≤ 4000 ∧ 0 ≤ e.size) : ∀ p ∈ recordsM e, Px.right p = true ∧ p.2 ≠ [] := by
  intro p hp
  obtain ⟨_, hu, hg, ht, _⟩ := right_nums h
  obtain ⟨_, ⟨hl, _⟩, _⟩ := right_texts h
  obtain ⟨hn, _⟩ := name_texts h
  have mk : ∀ (k v : Bl), k ≠ [] → k.contains 61 = false → k.contains 10 = false → k.length ≤ 30 → v.length ≤ 130 → Px.right (k, v) = true := by
    intro k v a b c d f
    unfold Px.right
    simp only [b, c, Bool.or_false, Bool.not_false, Bool.and_true]
    rw [Bool.and_eq_true, decide_eq_true_iff]
    exact ⟨by cases k <;> simp_all, by omega⟩
  rcases mem_rec.1 hp with ⟨_, rfl | rfl | rfl⟩ | ⟨_, rfl⟩ | ⟨hlk, rfl⟩ | ⟨_, rfl⟩ | ⟨_, rfl⟩ | ⟨_, rfl⟩
  · exact ⟨by decide, by decide⟩
  · exact ⟨by decide, by decide⟩
  · have := dec_size (n := e.size) (by omega)
    exact ⟨mk _ _ (by decide) (by decide) (by decide) (by decide) (by omega), this.2⟩
  · have := dec_size (n := e.gid) (by omega)
    exact ⟨mk _ _ (by decide) (by decide) (by decide) (by decide) (by omega), this.2⟩
  · exact ⟨mk _ _ (by decide) (by decide) (by decide) (by decide) (by omega), by intro e2; have e3 : e.link = [] := e2; rw [e3] at hlk; simp at hlk⟩
  · have := stamp_size ht
    exact ⟨mk _ _ (by decide) (by decide) (by decide) (by decide) (by omega), this.2⟩
  · exact ⟨mk _ _ (by decide) (by decide) (by decide) (by decide) (by omega), name_ne h⟩
  · have := dec_size (n := e.uid) (by omega)
    exact ⟨mk _ _ (by decide) (by decide) (by decide) (by decide) (by omega), this.2⟩
theorem right_size {e : Ent} (h : rightE e = true) : e.size ≤ 4000 ∧ 0 ≤ e.size := by
  unfold rightE at h
  rw [Bool.and_eq_true] at h
  have hf := h.2
  unfold filled at hf
  split at hf
  · rw [Bool.and_eq_true] at hf
    have h1 := hf.1
    unfold Tre.inR at h1
    rw [Bool.and_eq_true, decide_eq_true_iff, decide_eq_true_iff] at h1
    omega
  · simp only [Bool.and_eq_true, beq_iff_eq] at hf
    omega
theorem texts_len : ∀ (l : List Px.Rec), (∀ r ∈ l, Px.right r = true) → (Px.texts l).length ≤ 206 * l.length
  | [], _ => by simp [Px.texts]
  | r :: l, h => by
    have h1 := h r (List.mem_cons_self ..)
    have h2 := Px.text_len h1
    have h3 := (Px.tot_bounds h1).2.1
    have h4 := texts_len l fun q hq => h q (List.mem_cons_of_mem _ hq)
    have e : Px.texts (r :: l) = Px.text r ++ Px.texts l := by simp [Px.texts]
    rw [e, List.length_append, List.length_cons]
    omega
theorem rec_read {e : Ent} (h : rightE e = true) : Px.read (Px.texts (recordsM e)) = some (recordsM e) ∧ (Px.texts (recordsM e)).length ≤ 1648 := by
  have hr := fun p hp => (rec_ok h (right_size h) p hp).1
  have hl := rec_len e
  refine ⟨(Px.read_iff _ _).2 ⟨hr, rfl, by omega⟩, ?_⟩
  have := texts_len _ hr
  omega

theorem apply_app : ∀ (a b : List Px.Rec) (e : Ent), applyP (a ++ b) e = (applyP a e).bind (applyP b)
  | [], b, e => rfl
  | p :: a, b, e => by
    show (applyOne e p).bind (applyP (a ++ b)) = ((applyOne e p).bind (applyP a)).bind (applyP b)
    cases applyOne e p with
    | none => rfl
    | some x => exact apply_app a b x
def lineM (p : Int × Int) : Bl := decM p.1 ++ 10 :: (decM p.2 ++ [10])
theorem lines_len (l : List (Int × Int)) (h : ∀ p ∈ l, pcOk p) : (l.flatMap lineM).length ≤ 28 * l.length := by
  induction l with
  | nil => simp
  | cons p l ih =>
    obtain ⟨p1, p2, p3, p4⟩ := h p (List.mem_cons_self ..)
    have a := (dec_size (n := p.1) (by omega)).1
    have b := (dec_size (n := p.2) (by omega)).1
    have c := ih fun q hq => h q (List.mem_cons_of_mem _ hq)
    have d : (lineM p).length = (decM p.1).length + 1 + (decM p.2).length + 1 := by unfold lineM; simp; omega
    rw [List.flatMap_cons, List.length_append, List.length_cons]
    omega
def linesL (l : List (Int × Int)) : Bl := decM l.length ++ 10 :: l.flatMap lineM
theorem lines_is (l : List (Int × Int)) : linesM l = Bk.fill (linesL l) := rfl
end Go.Proofs.YtkhkjacnoiopcaaGreatDoor
