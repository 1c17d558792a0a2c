/-
  Patterns one behind the other: plain laws.
-/
import Derived.Test.YtpoofienimigaaaGlobLaws
import Derived.Lib.Bytealg
namespace Glb

theorem index_mem (l : List UInt8) (c : UInt8) : 0 ≤ Go.Lib.indexByte l c ↔ c ∈ l := by
  induction l with
  | nil => simp [Go.Lib.indexByte]
  | cons b l ih =>
    have hg := Go.Lib.indexByte_ge l c
    simp only [Go.Lib.indexByte]
    by_cases h : b = c
    · subst h; simp
    · have h' : (b == c) = false := by simpa using h
      rw [h']
      simp only [List.mem_cons]
      by_cases h2 : Go.Lib.indexByte l c = -1
      · rw [h2]
        rw [h2] at ih
        simp at ih ⊢
        exact ⟨fun e => h e.symm, ih⟩
      · have h3 : (Go.Lib.indexByte l c == -1) = false := by simpa using h2
        rw [h3]
        simp
        constructor
        · intro h4; exact .inr (ih.1 (by omega))
        · rintro (h4 | h4)
          · exact absurd h4.symm h
          · have := ih.2 h4; omega

theorem one_append {l r : List UInt8} {c : UInt8} (q : List UInt8) (h : one l = some (c, r)) : one (l ++ q) = some (c, r ++ q) := by
  cases l with
  | nil => simp [one] at h
  | cons x t =>
    by_cases hx : x = 92
    · cases t with
      | nil => simp [one, hx] at h
      | cons d r' => simp [one, hx] at h ⊢; obtain ⟨rfl, rfl⟩ := h; exact ⟨rfl, rfl⟩
    · simp [one, hx] at h ⊢; obtain ⟨rfl, rfl⟩ := h; exact ⟨rfl, rfl⟩

theorem setLoop_nil (n : Nat) (first : Bool) (acc : UInt8 → Bool) : setLoop n first acc [] = none := by
  cases n <;> simp [setLoop, endB, one]

theorem setLoop_single (n : Nat) (first : Bool) (acc : UInt8 → Bool) (c : UInt8) (h : c = 45) : setLoop n first acc [c] = none := by
  subst h
  cases n with
  | zero => rfl
  | succ n => simp [setLoop, endB, one, ranged, setLoop_nil]

theorem setLoop_append (q : List UInt8) : ∀ (n m : Nat) (first : Bool) (acc : UInt8 → Bool) (l : List UInt8) (a : UInt8 → Bool) (r : List UInt8), n ≤ m →
    setLoop n first acc l = some (a, r) → setLoop m first acc (l ++ q) = some (a, r ++ q) := by
  intro n
  induction n with
  | zero => intro m first acc l a r _ h; simp [setLoop] at h
  | succ n ih =>
    intro m first acc l a r hm h
    obtain ⟨m, rfl⟩ : ∃ m', m = m' + 1 := ⟨m - 1, by omega⟩
    have hne : l ≠ [] := by rintro rfl; rw [setLoop_nil] at h; cases h
    obtain ⟨c, t, rfl⟩ := List.exists_cons_of_ne_nil hne
    simp only [setLoop] at h ⊢
    have he : endB first (c :: t ++ q) = endB first (c :: t) := rfl
    rw [he]
    by_cases hE : endB first (c :: t) = true
    · rw [if_pos hE] at h ⊢
      simp at h ⊢
      obtain ⟨rfl, rfl⟩ := h
      exact ⟨rfl, rfl⟩
    · rw [if_neg hE] at h ⊢
      cases ho : one (c :: t) with
      | none => rw [ho] at h; cases h
      | some p =>
        obtain ⟨low, r1⟩ := p
        rw [ho] at h
        rw [one_append q ho]
        simp only at h ⊢
        by_cases hR : ranged r1 = true
        · have hR2 : ranged (r1 ++ q) = true := by
            match r1, hR with
            | x :: y :: z, hR => exact hR
          rw [if_pos hR] at h
          rw [if_pos hR2]
          have ht : (r1 ++ q).tail = r1.tail ++ q := by
            match r1, hR with
            | x :: y :: z, _ => rfl
          rw [ht]
          cases ho2 : one r1.tail with
          | none => rw [ho2] at h; cases h
          | some p =>
            obtain ⟨high, r2⟩ := p
            rw [ho2] at h
            rw [one_append q ho2]
            exact ih m _ _ _ _ _ (by omega) h
        · rw [if_neg hR] at h
          have hR2 : ¬ ranged (r1 ++ q) = true := by
            match r1 with
            | [] => rw [setLoop_nil] at h; cases h
            | [x] =>
              intro hx
              have hx' : x = 45 := by
                cases q with
                | nil => simp [ranged] at hx
                | cons y z => simp [ranged] at hx; exact hx.1
              rw [setLoop_single _ _ _ _ hx'] at h; cases h
            | x :: y :: z => exact hR
          rw [if_neg hR2]
          exact ih m _ _ _ _ _ (by omega) h

theorem setP_append (q : List UInt8) {l r : List UInt8} {t : Tok} (h : setP l = some (t, r)) : setP (l ++ q) = some (t, r ++ q) := by
  have hne : l ≠ [] := by rintro rfl; simp [setP, negB, setLoop_nil] at h
  obtain ⟨c, s, rfl⟩ := List.exists_cons_of_ne_nil hne
  unfold setP at h ⊢
  have hn : negB (c :: s ++ q) = negB (c :: s) := rfl
  rw [hn]
  have e : (if negB (c :: s) = true then (c :: s ++ q).tail else c :: s ++ q) = (if negB (c :: s) = true then (c :: s).tail else c :: s) ++ q := by split <;> rfl
  rw [e]
  split at h
  · cases h
  · rename_i acc r' hs
    simp at h
    obtain ⟨rfl, rfl⟩ := h
    rw [setLoop_append q _ _ _ _ _ _ _ (by simp) hs]

theorem next_append (q : List UInt8) {p r : List UInt8} {t : Tok} (h : next p = some (t, r)) : (p = [42] ∧ t = starTok ∧ r = []) ∨ next (p ++ q) = some (t, r ++ q) := by
  cases p with
  | nil => simp [next] at h
  | cons c l =>
    by_cases h1 : c = 42
    · subst h1
      cases l with
      | nil => left; simp [next] at h; exact ⟨rfl, h.1.symm, h.2⟩
      | cons d r' =>
        right
        by_cases h2 : d = 42
        · simp [next, h2] at h ⊢; obtain ⟨rfl, rfl⟩ := h; exact ⟨rfl, rfl⟩
        · simp [next, h2] at h ⊢; obtain ⟨rfl, rfl⟩ := h; exact ⟨rfl, rfl⟩
    · right
      by_cases h2 : c = 63
      · simp [next, h2] at h ⊢; obtain ⟨rfl, rfl⟩ := h; exact ⟨rfl, rfl⟩
      · by_cases h3 : c = 91
        · subst h3
          simp [next] at h ⊢
          exact setP_append q h
        · cases ho : one (c :: l) with
          | none => simp [next, h1, h2, h3, ho] at h
          | some p =>
            obtain ⟨d, r'⟩ := p
            have ho2 := one_append q ho
            simp [next, h1, h2, h3, ho] at h
            obtain ⟨rfl, rfl⟩ := h
            simp only [List.cons_append] at ho2 ⊢
            simp [next, h1, h2, h3, ho2]

theorem toks_none_of {c : UInt8} {r : List UInt8} (h : next (c :: r) = none) : toks (c :: r) = none := by
  unfold toks; simp [parse, h]

/-- One star ahead. -/
theorem toks_star_ahead : ∀ (k : Nat) (q : List UInt8) (m : List Tok), q.length ≤ k → toks q = some m → ∃ n, toks (42 :: q) = some n ∧ ∀ s, Mt (starTok :: m) s → Mt n s := by
  intro k
  induction k using Nat.strongRecOn with
  | _ k ih =>
    intro q m hk hm
    match q, hk, hm with
    | [], _, hm => rw [toks_nil] at hm; cases hm; exact ⟨[starTok], rfl, fun s h => h⟩
    | c :: r, hk, hm =>
      by_cases hc : c = 42
      · subst hc
        have hd : next (42 :: 42 :: r) = some (deepTok, r) := rfl
        match r, hk, hm, hd with
        | [], _, hm, hd =>
          have : toks [42] = some [starTok] := rfl
          rw [this] at hm; cases hm
          refine ⟨[deepTok], rfl, ?_⟩
          rintro s ⟨u, v, rfl, _, hv⟩
          exact ⟨u ++ v, [], by simp, .inl rfl, rfl⟩
        | d :: r2, hk, hm, hd =>
          by_cases hd2 : d = 42
          · subst hd2
            have hn2 : next (42 :: 42 :: r2) = some (deepTok, r2) := rfl
            rw [toks_next hn2] at hm
            obtain ⟨m2, hm2, rfl⟩ := Option.map_eq_some_iff.1 hm
            obtain ⟨n2, hn2, hmt⟩ := ih r2.length (by simp at hk; omega) r2 m2 (Nat.le_refl _) hm2
            refine ⟨deepTok :: n2, by rw [toks_next hd, hn2]; rfl, ?_⟩
            rintro s ⟨u, v, rfl, _, ⟨x, y, rfl, _, hy⟩⟩
            exact ⟨u ++ x, y, by simp, .inl rfl, hmt y ⟨[], y, rfl, .inr (by simp), hy⟩⟩
          · have hn2 : next (42 :: d :: r2) = some (starTok, d :: r2) := by simp [next, hd2, starTok]
            rw [toks_next hn2] at hm
            obtain ⟨m2, hm2, rfl⟩ := Option.map_eq_some_iff.1 hm
            refine ⟨deepTok :: m2, by rw [toks_next hd, hm2]; rfl, ?_⟩
            rintro s ⟨u, v, rfl, _, ⟨x, y, rfl, _, hy⟩⟩
            exact ⟨u ++ x, y, by simp, .inl rfl, hy⟩
      · have hn2 : next (42 :: c :: r) = some (starTok, c :: r) := by simp [next, hc, starTok]
        exact ⟨starTok :: m, by rw [toks_next hn2, hm]; rfl, fun s h => h⟩

theorem toks_append : ∀ (k : Nat) (p q : List UInt8) (l m : List Tok), p.length ≤ k → toks p = some l → toks q = some m → ∃ n, toks (p ++ q) = some n ∧ ∀ s, Mt (l ++ m) s → Mt n s := by
  intro k
  induction k with
  | zero =>
    intro p q l m hk hl hm
    have : p = [] := List.eq_nil_of_length_eq_zero (by omega)
    subst this
    rw [toks_nil] at hl; cases hl
    exact ⟨m, hm, fun s h => h⟩
  | succ k ih =>
    intro p q l m hk hl hm
    cases p with
    | nil => rw [toks_nil] at hl; cases hl; exact ⟨m, hm, fun s h => h⟩
    | cons c r =>
      cases hn : next (c :: r) with
      | none => rw [toks_none_of hn] at hl; cases hl
      | some x =>
        obtain ⟨t, p'⟩ := x
        have hlen := next_len hn
        rcases next_append q hn with ⟨h1, h2, h3⟩ | h1
        · rw [h1] at hl ⊢
          have : toks [42] = some [starTok] := rfl
          rw [this] at hl; cases hl
          exact toks_star_ahead q.length q m (Nat.le_refl _) hm
        · rw [toks_next hn] at hl
          obtain ⟨l', hl', rfl⟩ := Option.map_eq_some_iff.1 hl
          obtain ⟨n, hn', hmt⟩ := ih p' q l' m (by simp at hlen hk; omega) hl' hm
          refine ⟨t :: n, ?_, ?_⟩
          · have h1' : next (c :: (r ++ q)) = some (t, p' ++ q) := h1
            show toks (c :: (r ++ q)) = _
            rw [toks_next h1', hn']; rfl
          · rintro s ⟨u, v, rfl, ho, hv⟩
            exact ⟨u, v, rfl, ho, hmt v hv⟩

theorem mres_ok {p s : List UInt8} (h : mres p s = (true, 0)) : ∃ l, toks p = some l ∧ Mt l s := by
  unfold mres at h
  split at h
  · simp at h
  · split at h
    · simp at h
    · split at h
      · simp at h
      · rename_i l hl
        simp at h
        exact ⟨l, hl, (match_iff l s).1 h⟩

theorem pieces_law (p q a b : List UInt8) (h1 : p.length + q.length ≤ 100) (h2 : a.length + b.length ≤ 100) (hx : mres p a = (true, 0)) (hy : mres q b = (true, 0)) :
    mres (p ++ q) (a ++ b) = (true, 0) := by
  obtain ⟨l, hl, hla⟩ := mres_ok hx
  obtain ⟨m, hm, hmb⟩ := mres_ok hy
  obtain ⟨n, hn, hmt⟩ := toks_append p.length p q l m (Nat.le_refl _) hl hm
  unfold mres
  rw [if_neg (by simp; omega), if_neg (by simp; omega), hn]
  show (matchB n (a ++ b), 0) = _
  congr 1
  rw [match_iff]
  exact hmt _ ((mt_append l m _).2 ⟨a, b, rfl, hla, hmb⟩)

theorem all_law (a : List UInt8) (h : a.length ≤ 100) : mres [42, 42] a = (true, 0) := by
  unfold mres
  rw [if_neg (by simp), if_neg (by omega), toks_deep]
  show (matchB [deepTok] a, 0) = _
  congr 1
  rw [match_iff]
  exact ⟨a, [], by simp, .inl rfl, rfl⟩

theorem star_law (a : List UInt8) (h : a.length ≤ 100) : mres [42] a = (!decide (0 ≤ Go.Lib.indexByte a 47), 0) := by
  unfold mres
  rw [if_neg (by simp), if_neg (by omega), toks_star]
  show (matchB [starTok] a, 0) = _
  congr 1
  rw [Bool.eq_iff_iff, match_iff]
  simp only [Bool.not_eq_true', decide_eq_false_iff_not]
  rw [index_mem]
  constructor
  · rintro ⟨u, v, rfl, ho, hv⟩
    simp only [Mt] at hv
    subst hv
    rw [List.append_nil]
    rcases ho with ho | ho
    · cases ho
    · exact ho
  · intro hn
    exact ⟨a, [], by simp, .inr hn, rfl⟩

end Glb
