/-
  Follow: where a name leads.
-/
import Derived.Test.YtehooifcgfkngaaDoorPartsOwn
import Derived.Test.YtehooifcgfkngaaDoorSoftOn
import Derived.Deep.RegionHeld3
import Derived.BigRegion
namespace Go.Proofs.YtehooifcgfkngaaDoor
open Go.RowKit Go.Maps Tre

theorem to_any (a link : Pth.Bs) (w : World) (ha : Pth.right a = true) (hl : link.length ≤ 1000) (hm : ML w) :
    Calls Tryd.prog 44 #[.string (bs a), .string (bs link)] w fun e w' => e = .returned (.tuple #[.string (bs (toP a link).1), .bool (toP a link).2]) ∧ Below w.heap.size w w' := by
  by_cases h : ∃ r, link = 47 :: r
  · obtain ⟨r, rfl⟩ := h
    have e : toP a (47 :: r) = (Pth.clean (47 :: r), Pth.cleanOk (47 :: r)) := by unfold toP; exact if_pos rfl
    rw [e]
    exact to_abs (bs a) r w (by have : (47 :: r).length = r.length + 1 := rfl; omega) hm
  · have h0 : link.head? ≠ some 47 := fun e => by
      cases link with
      | nil => cases e
      | cons c r => exact h ⟨r, by simp at e; rw [e]⟩
    have e : toP a link = (Pth.clean (Pth.join (Pth.parts a).dropLast ++ 47 :: link), Pth.cleanOk (Pth.join (Pth.parts a).dropLast ++ 47 :: link)) := by unfold toP; rw [if_neg h0]
    rw [e]
    obtain ⟨hcl, hn0⟩ := right_cl ha
    have hj := right_join ha
    have hlen := (right_len ha).1
    have hd : (Pth.join (Pth.parts a).dropLast).length ≤ 120 := by
      have := pre_length (Pth.parts a) ((Pth.parts a).length - 1)
      unfold pre at this
      rw [← List.dropLast_eq_take, hj] at this
      omega
    have := to_rel (bs a) (bs (Pth.join (Pth.parts a).dropLast)) (bs ((Pth.parts a).getLast hn0)) (bs link) w (by rw [bs_size]; omega) (by rw [bs_size]; omega) hm (fun r e => h ⟨r, by rw [bs_list] at e; exact e⟩)
      (fun w => by have := up_parts hcl hn0 (by rw [hj]; omega) w; rw [hj] at this; exact this)
    rw [bs_list, bs_list] at this
    exact this
theorem toP_len {a link : Pth.Bs} (ha : Pth.right a = true) (hl : link.length ≤ 120) : (toP a link).1.length ≤ 250 := by
  unfold toP
  split
  · have := Pth.clean_len link
    simp only
    omega
  · have h := Pth.clean_len (Pth.join (Pth.parts a).dropLast ++ 47 :: link)
    have hj := right_join ha
    have hlen := (right_len ha).1
    have := pre_length (Pth.parts a) ((Pth.parts a).length - 1)
    unfold pre at this
    rw [← List.dropLast_eq_take, hj] at this
    simp only
    rw [List.length_append, List.length_cons] at h
    omega

def wid (P : List Pth.Bs) : Nat := (P.map (fun p => p.length + 1)).sum
theorem wid_app (P Q : List Pth.Bs) : wid (P ++ Q) = wid P + wid Q := by unfold wid; rw [List.map_append, List.sum_append_nat]
theorem wid_len (P : List Pth.Bs) : P.length ≤ wid P := by
  induction P with
  | nil => exact Nat.zero_le _
  | cons p P ih => unfold wid at ih ⊢; rw [List.map_cons, List.sum_cons, List.length_cons]; omega
theorem wid_join (P : List Pth.Bs) : (Pth.join P).length ≤ wid P := Pth.join_len P
theorem wid_parts (l : Pth.Bs) : wid (Pth.parts l) ≤ l.length + 1 := Pth.parts_sum l
theorem wid_drop (P : List Pth.Bs) (n : Nat) : wid (P.drop n) ≤ wid P := by
  have := wid_app (P.take n) (P.drop n)
  rw [List.take_append_drop] at this
  omega

/-- A link that stands on the way. -/
theorem link_at {t : T} (ht : Std t) {s : Pth.Bs} (h : t.isKind s 50 = true) : ∃ k, Tre.look t.ents s = some k ∧ (t.file k).kind = 50 ∧ Pth.right s = true ∧ (t.file k).link.length ≤ 120 ∧ linkAt t s = (t.file k).link := by
  obtain ⟨k, hk, e⟩ := isKind_iff.1 h
  have hr := ht.ok _ (look_mem hk)
  obtain ⟨a, _, n, b, c⟩ := hr
  have hfile : t.file k = n := by unfold T.file; rw [b]; rfl
  refine ⟨k, hk, e, a, ?_, ?_⟩
  · rw [hfile]
    unfold rightN at c
    simp only [Bool.and_eq_true, decide_eq_true_eq] at c
    exact c.1.1.2.1.2
  · unfold linkAt
    rw [get_of hk]

theorem tail_at {w : World} {b : Nat} {cap : Nat} {P : List Pth.Bs} (hr : RowS w b 0 P) (hc : P.length ≤ cap) (n : Nat) (hn : n ≤ P.length) :
    ∃ A : Addr, (if cap - n = 0 then (⟨b, 0, none⟩ : Addr) else ⟨b, n, none⟩) = A ∧ ∀ j u, (txCells (P.drop n))[j]? = some u → w.cell? (A.add j) = some u := by
  refine ⟨_, rfl, fun j u hu => ?_⟩
  have hj : j < (P.drop n).length := by
    rcases Nat.lt_or_ge j (P.drop n).length with h | h
    · exact h
    · rw [List.getElem?_eq_none (by simp [txCells]; simpa using h)] at hu; cases hu
  have hj' : n + j < P.length := by rw [List.length_drop] at hj; omega
  rw [if_neg (by omega)]
  rw [txCells_get _ j hj, List.getElem_drop] at hu
  have hplain : (⟨b, n, none⟩ : Addr).add j = ⟨b, n + j, none⟩ := by unfold Addr.add; split <;> simp_all
  rw [hplain]
  have := hr (n + j) hj'
  rw [Nat.zero_add] at this
  rw [this]; exact hu

end Go.Proofs.YtehooifcgfkngaaDoor
