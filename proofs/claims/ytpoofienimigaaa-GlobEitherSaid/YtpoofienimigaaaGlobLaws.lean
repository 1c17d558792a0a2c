/-
  What patterns match: plain laws, no program in sight.
-/
import Derived.Test.YtpoofienimigaaaGlobPlain
namespace Glb

/-! ### What one token, and a list of tokens, matches -/
def One (t : Tok) (u : List UInt8) : Prop := if t.many = true then (t.deep = true ∨ (47 : UInt8) ∉ u) else ∃ c, u = [c] ∧ t.set c = true
def Mt : List Tok → List UInt8 → Prop
  | [], s => s = []
  | t :: l, s => ∃ u v, s = u ++ v ∧ One t u ∧ Mt l v

theorem mt_append (l m : List Tok) : ∀ s, Mt (l ++ m) s ↔ ∃ u v, s = u ++ v ∧ Mt l u ∧ Mt m v := by
  induction l with
  | nil =>
    intro s
    constructor
    · intro h; exact ⟨[], s, rfl, rfl, h⟩
    · rintro ⟨u, v, rfl, hu, hv⟩; simp only [Mt] at hu; subst hu; exact hv
  | cons t l ih =>
    intro s
    constructor
    · rintro ⟨u, v, rfl, ho, hm⟩
      obtain ⟨a, b, rfl, ha, hb⟩ := (ih v).1 hm
      exact ⟨u ++ a, b, by simp, ⟨u, a, rfl, ho, ha⟩, hb⟩
    · rintro ⟨u, v, rfl, ⟨a, b, rfl, ho, hm⟩, hv⟩
      exact ⟨a, b ++ v, by simp, ho, (ih _).2 ⟨b, v, rfl, hm, hv⟩⟩

def slice (name : List UInt8) (j i : Nat) : List UInt8 := (name.take i).drop j

theorem slice_len (name : List UInt8) (j i : Nat) (hi : i ≤ name.length) : (slice name j i).length = i - j := by
  simp [slice]; omega
theorem slice_self (name : List UInt8) (i : Nat) : slice name i i = [] := by
  apply List.drop_of_length_le; simp; omega
theorem slice_succ (name : List UInt8) (j i : Nat) (hi : i < name.length) (hj : j ≤ i) : slice name j (i + 1) = slice name j i ++ [name.getD i 0] := by
  unfold slice
  rw [List.take_succ_eq_append_getElem hi, List.drop_append_of_le_length (by simp; omega)]
  simp [List.getD_eq_getElem?_getD, List.getElem?_eq_getElem hi]
theorem slice_join (name : List UInt8) (j k i : Nat) (h1 : j ≤ k) (h2 : k ≤ i) (h3 : i ≤ name.length) : slice name j k ++ slice name k i = slice name j i := by
  obtain ⟨d, rfl⟩ : ∃ d, i = k + d := ⟨i - k, by omega⟩
  clear h2
  induction d with
  | zero => rw [Nat.add_zero, slice_self, List.append_nil]
  | succ d ih =>
    rw [← Nat.add_assoc, slice_succ name k (k + d) (by omega) (by omega), slice_succ name j (k + d) (by omega) (by omega), ← List.append_assoc, ih (by omega)]
theorem slice_split (name : List UInt8) (j i : Nat) (u v : List UInt8) (h1 : j ≤ i) (h3 : i ≤ name.length) (h : slice name j i = u ++ v) :
    ∃ k, j ≤ k ∧ k ≤ i ∧ u = slice name j k ∧ v = slice name k i := by
  have hl := slice_len name j i h3
  rw [h, List.length_append] at hl
  refine ⟨j + u.length, by omega, by omega, ?_⟩
  have hj := slice_join name j (j + u.length) i (by omega) (by omega) h3
  rw [h] at hj
  have := List.append_inj hj (by rw [slice_len name j _ (by omega)]; omega)
  exact ⟨this.1.symm, this.2.symm⟩

theorem step_iff (t : Tok) (name : List UInt8) (f : Nat → Bool) : ∀ i, i ≤ name.length → (step t name f i = true ↔ ∃ j, j ≤ i ∧ f j = true ∧ One t (slice name j i)) := by
  cases hm : t.many with
  | true =>
    intro i
    induction i with
    | zero =>
      intro _
      simp only [step, hm, if_true]
      constructor
      · intro h; exact ⟨0, Nat.le_refl _, h, by rw [slice_self]; simp [One, hm]⟩
      · rintro ⟨j, hj, hf, _⟩
        obtain rfl : j = 0 := by omega
        exact hf
    | succ i ih =>
      intro hi
      simp only [step, hm, if_true, Bool.or_eq_true, Bool.and_eq_true]
      rw [ih (by omega)]
      constructor
      · rintro (h | ⟨⟨j, hj, hf, ho⟩, hd⟩)
        · exact ⟨i + 1, Nat.le_refl _, h, by rw [slice_self]; simp [One, hm]⟩
        · refine ⟨j, by omega, hf, ?_⟩
          rw [slice_succ name j i (by omega) hj]
          simp only [One, hm, if_true] at ho ⊢
          rcases hd with hd | hd
          · exact .inl hd
          · rcases ho with ho | ho
            · exact .inl ho
            · refine .inr ?_
              simp only [List.mem_append, List.mem_singleton]
              rintro (h | h)
              · exact ho h
              · rw [← h] at hd; simp at hd
      · rintro ⟨j, hj, hf, ho⟩
        by_cases hji : j = i + 1
        · subst hji; exact .inl hf
        · refine .inr ⟨⟨j, by omega, hf, ?_⟩, ?_⟩
          · rw [slice_succ name j i (by omega) (by omega)] at ho
            simp only [One, hm, if_true] at ho ⊢
            rcases ho with ho | ho
            · exact .inl ho
            · exact .inr fun h => ho (by simp [h])
          · rw [slice_succ name j i (by omega) (by omega)] at ho
            simp only [One, hm, if_true] at ho
            rcases ho with ho | ho
            · exact .inl ho
            · refine .inr ?_
              rw [bne_iff_ne]
              intro h
              exact ho (by rw [h]; simp)
  | false =>
    intro i hi
    cases i with
    | zero =>
      simp only [step, hm]
      constructor
      · intro h; cases h
      · rintro ⟨j, hj, hf, ho⟩
        obtain rfl : j = 0 := by omega
        rw [slice_self] at ho
        simp [One, hm] at ho
    | succ i =>
      simp only [step, hm]
      have e := slice_succ name i i (by omega) (Nat.le_refl _)
      rw [slice_self, List.nil_append] at e
      constructor
      · intro h
        simp at h
        refine ⟨i, by omega, h.1, ?_⟩
        rw [e]
        simp only [One, hm]
        exact ⟨name.getD i 0, rfl, by simpa using h.2⟩
      · rintro ⟨j, hj, hf, ho⟩
        simp only [One, hm] at ho
        obtain ⟨c, hc, hs⟩ := ho
        have hl := slice_len name j (i + 1) hi
        rw [hc] at hl
        simp at hl
        obtain rfl : j = i := by omega
        rw [e] at hc
        simp at hc
        simp [hf, hc, hs]

theorem reach_iff (name : List UInt8) (l : List Tok) : ∀ (f : Nat → Bool) (i : Nat), i ≤ name.length → (reach name l f i = true ↔ ∃ j, j ≤ i ∧ f j = true ∧ Mt l (slice name j i)) := by
  induction l with
  | nil =>
    intro f i hi
    simp only [reach, Mt]
    constructor
    · intro h; exact ⟨i, Nat.le_refl _, h, slice_self _ _⟩
    · rintro ⟨j, hj, hf, hs⟩
      have hl := slice_len name j i hi
      rw [hs] at hl
      simp at hl
      obtain rfl : j = i := by omega
      exact hf
  | cons t l ih =>
    intro f i hi
    simp only [reach]
    rw [ih _ i hi]
    constructor
    · rintro ⟨k, hk, hs, hm⟩
      obtain ⟨j, hj, hf, ho⟩ := (step_iff t name f k (by omega)).1 hs
      exact ⟨j, by omega, hf, _, _, (slice_join name j k i hj hk hi).symm, ho, hm⟩
    · rintro ⟨j, hj, hf, u, v, he, ho, hm⟩
      obtain ⟨k, h1, h2, rfl, rfl⟩ := slice_split name j i u v hj hi he
      exact ⟨k, h2, (step_iff t name f k (by omega)).2 ⟨j, h1, hf, ho⟩, hm⟩

theorem match_iff (l : List Tok) (name : List UInt8) : matchB l name = true ↔ Mt l name := by
  unfold matchB
  rw [reach_iff name l start name.length (Nat.le_refl _)]
  have e : slice name 0 name.length = name := by simp [slice]
  constructor
  · rintro ⟨j, _, hf, hm⟩
    obtain rfl : j = 0 := by simpa [start] using hf
    rwa [e] at hm
  · intro h
    exact ⟨0, Nat.zero_le _, rfl, by rwa [e]⟩

/-! ### Reading a pattern -/
theorem next_len {l r : List UInt8} {t : Tok} (h : next l = some (t, r)) : r.length < l.length := by
  have setLoop_len : ∀ (n : Nat) (first : Bool) (acc : UInt8 → Bool) (l : List UInt8) (a : UInt8 → Bool) (r : List UInt8), setLoop n first acc l = some (a, r) → r.length ≤ l.length := by
    intro n
    induction n with
    | zero => intro first acc l a r h; simp [setLoop] at h
    | succ n ih =>
      intro first acc l a r h
      simp only [setLoop] at h
      split at h
      · simp at h; obtain ⟨_, rfl⟩ := h; simp
      · split at h
        · cases h
        · rename_i low r1 h1
          have hl1 := one_len h1
          split at h
          · split at h
            · cases h
            · rename_i high r2 h2
              have hl2 := one_len h2
              have := ih _ _ _ _ _ h
              simp at hl2
              omega
          · have := ih _ _ _ _ _ h
            omega
  cases l with
  | nil => simp [next] at h
  | cons c l =>
    simp only [next] at h
    by_cases h1 : c = 42
    · rw [if_pos h1] at h
      split at h
      · rename_i d r'
        by_cases h2 : d = 42
        · rw [if_pos h2] at h; simp at h; obtain ⟨_, rfl⟩ := h; simp; omega
        · rw [if_neg h2] at h; simp at h; obtain ⟨_, rfl⟩ := h; simp
      · simp at h; obtain ⟨_, rfl⟩ := h; simp
    · rw [if_neg h1] at h
      by_cases h2 : c = 63
      · rw [if_pos h2] at h; simp at h; obtain ⟨_, rfl⟩ := h; simp
      · rw [if_neg h2] at h
        by_cases h3 : c = 91
        · rw [if_pos h3] at h
          unfold setP at h
          split at h
          · cases h
          · rename_i acc r' hs
            simp at h; obtain ⟨_, rfl⟩ := h
            have := setLoop_len _ _ _ _ _ _ hs
            have h5 : (if negB l = true then l.tail else l).length ≤ l.length := by split <;> simp
            simp; omega
        · rw [if_neg h3] at h
          split at h
          · cases h
          · rename_i d r' ho
            simp at h; obtain ⟨_, rfl⟩ := h
            exact one_len ho

theorem parse_fuel : ∀ (n m : Nat) (l : List UInt8), l.length ≤ n → l.length ≤ m → parse n l = parse m l := by
  intro n
  induction n with
  | zero => intro m l h1 h2; cases l with
    | nil => cases m <;> rfl
    | cons c r => simp at h1
  | succ n ih =>
    intro m l h1 h2
    cases l with
    | nil => cases m <;> rfl
    | cons c r =>
      cases m with
      | zero => simp at h2
      | succ m =>
        simp only [parse]
        cases hn : next (c :: r) with
        | none => rfl
        | some p =>
          obtain ⟨t, r'⟩ := p
          have := next_len hn
          simp at this h1 h2
          simp only
          rw [ih m r' (by omega) (by omega)]

theorem toks_next {c : UInt8} {r r' : List UInt8} {t : Tok} (h : next (c :: r) = some (t, r')) : toks (c :: r) = (toks r').map (t :: ·) := by
  unfold toks
  have hl := next_len h
  simp only [List.length_cons, parse, h]
  rw [parse_fuel r.length r'.length r' (by simp at hl; omega) (Nat.le_refl _)]

def lit (c : UInt8) : Tok := ⟨false, false, fun x => x == c⟩

theorem toks_quote (a r : List UInt8) : toks (quote a ++ r) = (toks r).map (a.map lit ++ ·) := by
  induction a with
  | nil => simp [quote]
  | cons c a ih =>
    simp only [quote]
    by_cases hs : special c = true
    · rw [if_pos hs]
      have hn : next (92 :: (c :: (quote a ++ r))) = some (lit c, quote a ++ r) := by simp [next, one, lit]
      show toks (92 :: (c :: (quote a ++ r))) = _
      rw [toks_next hn, ih]
      cases toks r <;> simp
    · rw [if_neg hs]
      have hs' : c ≠ 42 ∧ c ≠ 63 ∧ c ≠ 91 ∧ c ≠ 92 := by
        refine ⟨?_, ?_, ?_, ?_⟩ <;> (rintro rfl; exact hs (by decide))
      obtain ⟨h1, h2, h3, h4⟩ := hs'
      have hn : next (c :: (quote a ++ r)) = some (lit c, quote a ++ r) := by simp [next, one, lit, h1, h2, h3, h4]
      show toks (c :: (quote a ++ r)) = _
      rw [toks_next hn, ih]
      cases toks r <;> simp

theorem mt_lit (a : List UInt8) : ∀ s, Mt (a.map lit) s ↔ s = a := by
  induction a with
  | nil => intro s; exact Iff.rfl
  | cons c a ih =>
    intro s
    simp only [List.map_cons, Mt]
    constructor
    · rintro ⟨u, v, rfl, ho, hm⟩
      obtain ⟨d, rfl, hd⟩ : ∃ d, u = [d] ∧ (lit c).set d = true := by simpa [One, lit] using ho
      rw [(ih v).1 hm]
      have : d = c := by simpa [lit] using hd
      rw [this]; rfl
    · rintro rfl
      exact ⟨[c], a, rfl, by simp [One, lit], (ih a).2 rfl⟩

theorem beq_of_iff {a b : List UInt8} {x : Bool} (h : x = true ↔ b = a) : x = (a == b) := by
  rw [Bool.eq_iff_iff, h]
  constructor
  · intro e; rw [e]; simp
  · intro e; exact (by simpa using e : a = b).symm

/-- GlobQuote's plain law. -/
theorem quote_law (a b : List UInt8) (ha : a.length ≤ 50) (hb : b.length ≤ 100) : mres (quote a) b = ((a == b), 0) := by
  have h1 := quote_len a
  have h2 := toks_quote a []
  rw [List.append_nil] at h2
  have h3 : toks ([] : List UInt8) = some [] := rfl
  rw [h3] at h2
  unfold mres
  rw [if_neg (by omega), if_neg (by omega), h2]
  show (matchB (a.map lit ++ []) b, 0) = _
  rw [List.append_nil, beq_of_iff (a := a) (b := b) ((match_iff (a.map lit) b).trans (mt_lit a b))]

def anyTok : Tok := ⟨false, false, fun x => x != 47⟩
def starTok : Tok := ⟨true, false, fun _ => false⟩
def deepTok : Tok := ⟨true, true, fun _ => false⟩

theorem toks_any (r : List UInt8) : toks (63 :: r) = (toks r).map (anyTok :: ·) := toks_next rfl
theorem toks_nil : toks [] = some [] := rfl
theorem toks_star : toks [42] = some [starTok] := rfl
theorem toks_deep : toks [42, 42] = some [deepTok] := rfl

theorem wide_law (a b : List UInt8) (c : UInt8) (h : (a ++ [c] ++ b).length ≤ 50) :
    mres (quote a ++ [63] ++ quote b) (a ++ [c] ++ b) = (c != 47, 0) ∧ mres (quote (a ++ [c] ++ b) ++ [42]) (a ++ [c] ++ b) = (true, 0) ∧ mres (quote a ++ [42, 42]) (a ++ [c] ++ b) = (true, 0) := by
  have h1 := quote_len a
  have h2 := quote_len b
  have h3 := quote_len (a ++ [c] ++ b)
  have hl := h
  simp only [List.length_append, List.length_cons, List.length_nil] at hl
  refine ⟨?_, ?_, ?_⟩
  · have ht : toks (quote a ++ [63] ++ quote b) = some (a.map lit ++ anyTok :: b.map lit) := by
      rw [List.append_assoc, toks_quote]
      show (toks (63 :: quote b)).map _ = _
      rw [toks_any]
      have := toks_quote b []
      rw [List.append_nil, toks_nil] at this
      rw [this]
      simp
    unfold mres
    rw [if_neg (by simp only [List.length_append, List.length_cons, List.length_nil]; omega), if_neg (by omega), ht]
    show (matchB (a.map lit ++ anyTok :: b.map lit) (a ++ [c] ++ b), 0) = _
    congr 1
    rw [Bool.eq_iff_iff, match_iff, mt_append]
    constructor
    · rintro ⟨u, v, he, hu, hv⟩
      rw [mt_lit] at hu
      subst hu
      obtain ⟨x, y, rfl, ⟨d, rfl, hd⟩, hy⟩ := hv
      rw [List.append_assoc, List.append_cancel_left_eq] at he
      simp at he
      rw [he.1]; exact hd
    · intro hc
      exact ⟨a, [c] ++ b, by simp, (mt_lit a a).2 rfl, [c], b, rfl, ⟨c, rfl, hc⟩, (mt_lit b b).2 rfl⟩
  · have ht : toks (quote (a ++ [c] ++ b) ++ [42]) = some ((a ++ [c] ++ b).map lit ++ [starTok]) := by
      rw [toks_quote, toks_star]; rfl
    unfold mres
    rw [if_neg (by simp only [List.length_append, List.length_cons, List.length_nil] at h3 ⊢; omega), if_neg (by omega), ht]
    show (matchB ((a ++ [c] ++ b).map lit ++ [starTok]) (a ++ [c] ++ b), 0) = _
    congr 1
    rw [match_iff, mt_append]
    exact ⟨a ++ [c] ++ b, [], by simp, (mt_lit _ _).2 rfl, [], [], rfl, .inr (by simp), rfl⟩
  · have ht : toks (quote a ++ [42, 42]) = some (a.map lit ++ [deepTok]) := by
      rw [toks_quote, toks_deep]; rfl
    unfold mres
    rw [if_neg (by simp only [List.length_append, List.length_cons, List.length_nil]; omega), if_neg (by omega), ht]
    show (matchB (a.map lit ++ [deepTok]) (a ++ [c] ++ b), 0) = _
    congr 1
    rw [match_iff, mt_append]
    exact ⟨a, [c] ++ b, by simp, (mt_lit _ _).2 rfl, [c] ++ b, [], by simp, .inl rfl, rfl⟩

end Glb
