/-
  File trees, plain: where a name leads; what the statements ask.
-/
import Derived.Test.YtehooifcgfkngaaDoorTreePlain2
namespace Tre
open Pth

/-- Where a link leads. -/
def toP (at_ link : Bs) : Bs × Bool :=
  if link.head? = some 47 then (clean link, cleanOk link) else (clean (join (parts at_).dropLast ++ 47 :: link), cleanOk (join (parts at_).dropLast ++ 47 :: link))
/-- The number of parts of the shortest prefix that is a link (0: none). -/
def soft (t : T) (P : List Bs) : Nat := match (List.range P.length).find? fun i => t.isKind (pre P (i + 1)) 50 with | some i => i + 1 | none => 0
def ends (t : T) (now : Bs) : Bs × Int := if now ≠ [] ∧ t.has now = false then ([], 7) else (now, 0)
def linkAt (t : T) (s : Bs) : Bs := match t.get s with | some n => n.link | none => []
def hop (t : T) (now : Bs) : Bs × Bool := toP (pre (parts now) (soft t (parts now))) (linkAt t (pre (parts now) (soft t (parts now))))
def next (t : T) (now : Bs) : Bs := join (parts (hop t now).1 ++ (parts now).drop (soft t (parts now)))
def goes (t : T) : Nat → Bs → Bs × Int
  | 0, now => if soft t (parts now) = 0 then ends t now else ([], 11)
  | g + 1, now => if soft t (parts now) = 0 then ends t now else if (hop t now).2 = false then ([], 5) else goes t g (next t now)
def follow (t : T) (name : Bs) : Bs × Int := if cleanOk name = false then ([], 5) else goes t 8 (clean name)

theorem soft_zero {t : T} {P : List Bs} : soft t P = 0 ↔ ∀ i, 1 ≤ i → i ≤ P.length → t.isKind (pre P i) 50 = false := by
  unfold soft
  cases h : (List.range P.length).find? fun i => t.isKind (pre P (i + 1)) 50 with
  | none =>
    simp only [true_iff]
    intro i h1 h2
    have := List.find?_eq_none.1 h (i - 1) (List.mem_range.2 (by omega))
    rw [show i - 1 + 1 = i by omega] at this
    simpa using this
  | some i =>
    simp only [Nat.add_eq_zero_iff, Nat.one_ne_zero, and_false, false_iff]
    intro hall
    have h1 := List.find?_some h
    have h2 := List.mem_range.1 (List.mem_of_find?_eq_some h)
    rw [hall (i + 1) (by omega) (by omega)] at h1
    cases h1
theorem soft_pos {t : T} {P : List Bs} {n : Nat} (h1 : 1 ≤ n) (h2 : n ≤ P.length) (h3 : t.isKind (pre P n) 50 = true) (h4 : ∀ i, 1 ≤ i → i < n → t.isKind (pre P i) 50 = false) : soft t P = n := by
  unfold soft
  cases h : (List.range P.length).find? fun i => t.isKind (pre P (i + 1)) 50 with
  | none =>
    have := List.find?_eq_none.1 h (n - 1) (List.mem_range.2 (by omega))
    rw [show n - 1 + 1 = n by omega, h3] at this
    exact absurd rfl this
  | some i =>
    obtain ⟨ha, l1, l2, e, hb⟩ := List.find?_eq_some_iff_append.1 h
    simp only
    have hi := List.mem_range.1 (List.mem_of_find?_eq_some h)
    rcases Nat.lt_trichotomy (i + 1) n with h5 | h5 | h5
    · rw [h4 (i + 1) (by omega) h5] at ha; cases ha
    · exact h5
    · exfalso
      have hmem : n - 1 ∈ l1 := by
        have h6 : (l1 ++ i :: l2)[n - 1]? = some (n - 1) := by rw [← e, List.getElem?_range (by omega)]
        have h7 : l1.length = i := by
          have h8 : (List.range P.length)[l1.length]? = some i := by rw [e]; simp
          rw [List.getElem?_range] at h8
          · simpa using h8
          · rcases Nat.lt_or_ge l1.length P.length with h9 | h9
            · exact h9
            · rw [List.getElem?_eq_none (by simpa using h9)] at h8; cases h8
        rw [List.getElem?_append_left (by omega)] at h6
        exact List.mem_of_getElem? h6
      have := hb (n - 1) hmem
      rw [show n - 1 + 1 = n by omega, h3] at this
      cases this
theorem goes_err (t : T) : ∀ (g : Nat) (now : Bs), (goes t g now).2 ≠ 0 → (goes t g now).1 = []
  | 0, now => by
    unfold goes ends
    split
    · split
      · intro _; rfl
      · intro h; exact absurd rfl h
    · intro _; rfl
  | g + 1, now => by
    have ih := goes_err t g (next t now)
    unfold goes ends
    split
    · split
      · intro _; rfl
      · intro h; exact absurd rfl h
    · split
      · intro _; rfl
      · exact ih
theorem goes_ok (t : T) : ∀ (g : Nat) (now : Bs), (goes t g now).2 = 0 → soft t (parts (goes t g now).1) = 0 ∧ ((goes t g now).1 = [] ∨ t.has (goes t g now).1 = true)
  | 0, now => by
    unfold goes ends
    split
    · rename_i h1
      split
      · intro h; cases h
      · rename_i h2
        intro _
        refine ⟨h1, ?_⟩
        by_cases h3 : now = []
        · exact .inl h3
        · right
          cases h4 : t.has now
          · exact absurd ⟨h3, h4⟩ h2
          · rfl
    · intro h; cases h
  | g + 1, now => by
    have ih := goes_ok t g (next t now)
    unfold goes ends
    split
    · rename_i h1
      split
      · intro h; cases h
      · rename_i h2
        intro _
        refine ⟨h1, ?_⟩
        by_cases h3 : now = []
        · exact .inl h3
        · right
          cases h4 : t.has now
          · exact absurd ⟨h3, h4⟩ h2
          · rfl
    · split
      · intro h; cases h
      · exact ih
theorem follow_err {t : T} {name : Bs} (h : (follow t name).2 ≠ 0) : (follow t name).1 = [] := by
  unfold follow at h ⊢
  split
  · rfl
  · rename_i h1
    rw [if_neg h1] at h
    exact goes_err t 8 _ h
theorem goes_soft {t : T} {g : Nat} {now : Bs} (h : soft t (parts now) = 0) : goes t g now = ends t now := by
  cases g with
  | zero => unfold goes; rw [if_pos h]
  | succ g => unfold goes; rw [if_pos h]
/-- No link is left where a name leads. -/
theorem follow_ok {t : T} (ht : Std t) {name to : Bs} (h : follow t name = (to, 0)) :
    follow t to = (to, 0) ∧ (to = [] ∨ right to = true) ∧ ∀ i, 1 ≤ i → i ≤ (parts to).length → ∃ k, look t.ents (pre (parts to) i) = some k ∧ (t.file k).kind ≠ 50 := by
  unfold follow at h
  split at h
  · cases h
  · have e := goes_ok t 8 (clean name) (by rw [h])
    rw [h] at e
    obtain ⟨e1, e2⟩ := e
    simp only at e1 e2
    have hr : to = [] ∨ right to = true := e2.imp id fun h2 => by
      obtain ⟨k, hk⟩ := has_iff.1 h2
      exact (ht.ok _ hk).1
    have hc : cleanOk to = true ∧ clean to = to := by
      rcases hr with rfl | hr
      · exact ⟨rfl, rfl⟩
      · have := cl_clean (right_cl hr).1
        rw [right_join hr] at this
        exact ⟨by unfold cleanOk; rw [this], by unfold clean; rw [this]; exact right_join hr⟩
    refine ⟨?_, hr, fun i h1 h2 => ?_⟩
    · unfold follow
      rw [if_neg (by simp [hc.1]), hc.2, goes_soft e1]
      unfold ends
      rw [if_neg]
      rintro ⟨h3, h4⟩
      rcases e2 with h5 | h5
      · exact h3 h5
      · rw [h4] at h5; cases h5
    · rcases e2 with rfl | h3
      · have : (parts []).length = 0 := rfl
        omega
      · obtain ⟨k, hk⟩ := has_iff.1 h3
        have hlk : ∃ j, look t.ents (pre (parts to) i) = some j := by
          by_cases h4 : i < (parts to).length
          · obtain ⟨j, hj, _⟩ := isDir_iff.1 (ht.up _ hk i h1 h4)
            exact ⟨j, hj⟩
          · have : i = (parts to).length := by omega
            rw [this, pre_len, right_join (ht.ok _ hk).1]
            exact ⟨k, look_of ht.nd hk⟩
        obtain ⟨j, hj⟩ := hlk
        refine ⟨j, hj, fun h5 => ?_⟩
        have h6 := soft_zero.1 e1 i h1 h2
        have := isKind_iff.2 ⟨j, hj, h5⟩
        rw [h6] at this; cases this

/-! What the statements ask. -/
theorem get_of {t : T} {s : Bs} {k : Nat} (h : look t.ents s = some k) : t.get s = some (t.file k) := by unfold T.get; rw [h]; rfl
theorem Std.name {t : T} (ht : Std t) {s : Bs} (h : s ∈ t.names) : ∃ k, look t.ents s = some k ∧ right s = true ∧ rightN (t.file k) = true ∧ 1 ≤ t.links s := by
  obtain ⟨k, hk⟩ := has_iff.1 (names_mem.1 h)
  obtain ⟨a, _, n, b, c⟩ := ht.ok _ hk
  refine ⟨k, look_of ht.nd hk, a, ?_, links_pos ht.nd hk⟩
  unfold T.file; rw [b]; exact c
theorem Std.dir {t : T} (ht : Std t) {s : Bs} (h : s ∈ t.names) (h0 : join (parts s).dropLast ≠ []) : ∃ k, look t.ents (join (parts s).dropLast) = some k ∧ (t.file k).kind = 53 := by
  obtain ⟨k, hk⟩ := has_iff.1 (names_mem.1 h)
  have hl : 2 ≤ (parts s).length := by
    rcases Nat.lt_or_ge 1 (parts s).length with h1 | h1
    · exact h1
    · exfalso; apply h0
      have : (parts s).dropLast = [] := List.eq_nil_of_length_eq_zero (by rw [List.length_dropLast]; omega)
      rw [this]; rfl
  have := ht.up _ hk ((parts s).length - 1) (by show 1 ≤ (parts s).length - 1; omega) (by show (parts s).length - 1 < (parts s).length; omega)
  have e : pre (parts s) ((parts s).length - 1) = join (parts s).dropLast := by rw [pre, ← List.dropLast_eq_take]
  simp only at this
  rw [e] at this
  exact isDir_iff.1 this
theorem names_len {t : T} : t.names.length = t.ents.length := by rw [(names_perm t).length_eq, List.length_map]
/-- As many names as are called so. -/
theorem links_names (t : T) (s : Bs) : (t.names.filter fun x => t.alike s x).length = t.links s := by
  unfold T.links
  rw [((names_perm t).filter _).length_eq, List.filter_map, List.length_map]
  rfl
theorem alike_comm (t : T) (a b : Bs) : t.alike a b = t.alike b a := by
  unfold T.alike
  cases look t.ents a with
  | none => cases look t.ents b <;> rfl
  | some i =>
    cases look t.ents b with
    | none => rfl
    | some k =>
      show (i == k) = (k == i)
      by_cases e : i = k
      · subst e; rfl
      · rw [beq_eq_false_iff_ne.2 e, beq_eq_false_iff_ne.2 fun e' => e e'.symm]
theorem links_nil {t : T} (h : t.ents = []) (s : Bs) : t.links s = 0 := by unfold T.links; rw [h]; rfl
/-- What Remove does. -/
theorem remove_tells {t : T} (ht : Std t) {a : Bs} (ha : t.has a = true) {x : Deed} (hx : x.what = 3 ∧ x.name = a) :
    ((∃ s ∈ t.names, s ≠ a ∧ inn s a = true) ∧ (act t x).2 = 6 ∧ (act t x).1 = t) ∨
    ((¬ ∃ s ∈ t.names, s ≠ a ∧ inn s a = true) ∧ (act t x).2 = 0 ∧ (act t x).1.get a = none ∧ ∀ b ∈ t.names, b ≠ a → (act t x).1.get b = t.get b) := by
  obtain ⟨rfl⟩ := hx.2
  obtain ⟨i, hi⟩ := has_iff.1 ha
  have hl := look_of ht.nd hi
  simp only at hl
  have e : act t x = remove t x i := by
    unfold act
    rw [if_neg (by omega), if_neg (by omega), hl]
    simp only
    rw [if_neg (by omega), if_pos hx.1]
  rw [e]
  unfold remove
  by_cases h : 1 < (t.inside x.name).length
  · rw [if_pos h]
    refine .inl ⟨?_, rfl, rfl⟩
    refine Decidable.byContradiction fun hno => ?_
    have := (alone ht ha).2 fun p hp hin => Decidable.byContradiction fun hne => hno ⟨p.1, names_mem.2 (has_iff.2 ⟨p.2, hp⟩), hne, hin⟩
    omega
  · rw [if_neg h]
    refine .inr ⟨?_, rfl, ?_, fun b hb hne => ?_⟩
    · rintro ⟨s, hs, hne, hin⟩
      obtain ⟨k, hk⟩ := has_iff.1 (names_mem.1 hs)
      exact hne ((alone ht ha).1 (by omega) _ hk hin)
    · unfold T.get
      simp only
      rw [look_filter_self]; rfl
    · obtain ⟨k, hk⟩ := has_iff.1 (names_mem.1 hb)
      unfold T.get
      simp only
      rw [look_filter _ _ _ hne, look_of ht.nd hk]
      simp only [Option.map_some, T.file]
      rw [show (if t.links x.name = 1 then upd t.fl i none else t.fl) k = t.fl k from remove_file ht.nd hl hk hne]
/-- A change that a file can bear goes. -/
theorem change_goes {t : T} {i : Nat} {x : Deed} (h5 : x.what ≠ 5) (h : rightN (changed (t.file i) x) = true) : (change t x i).2 = 0 := by
  unfold change
  rw [if_neg (fun h => h5 h.1), if_neg (fun h => h5 h.1), if_neg (by simp [h])]
theorem Std.short {t : T} (ht : Std t) {s : Bs} {k : Nat} (h : look t.ents s = some k) : s.length ≤ 120 ∧ k ≤ t.nx :=
  ⟨(right_len (ht.ok _ (look_mem h)).1).1, (ht.ok _ (look_mem h)).2.1⟩

end Tre
