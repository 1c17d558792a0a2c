/-
  Records of an extended header as plain lists of bytes: no program in sight.
-/
import Derived.Lib.ItoaNum
import Derived.Lib.Atoi
namespace Px
open Go.Lib

abbrev Rec := List UInt8 × List UInt8

/-- What stands ahead of the first byte c, what behind it, and whether there is one. -/
def cut1 (c : UInt8) : List UInt8 → List UInt8 × List UInt8 × Bool
  | [] => ([], [], false)
  | x :: r => if x = c then ([], r, true) else (x :: (cut1 c r).1, (cut1 c r).2.1, (cut1 c r).2.2)

theorem cut1_hit (c : UInt8) : ∀ (a b : List UInt8), c ∉ a → cut1 c (a ++ c :: b) = (a, b, true)
  | [], b, _ => by simp [cut1]
  | x :: a, b, h => by
    have hx : x ≠ c := fun e => h (by simp [e])
    have ih := cut1_hit c a b (fun m => h (by simp [m]))
    simp [cut1, hx, ih]
theorem cut1_is (c : UInt8) : ∀ (l : List UInt8), (cut1 c l).2.2 = true → l = (cut1 c l).1 ++ c :: (cut1 c l).2.1 ∧ c ∉ (cut1 c l).1
  | [], h => by simp [cut1] at h
  | x :: r, h => by
    by_cases hx : x = c
    · simp [cut1, hx]
    · have ih := cut1_is c r (by simpa [cut1, hx] using h)
      simp only [cut1, hx, if_false, List.cons_append, List.mem_cons, not_or]
      exact ⟨by rw [← ih.1], fun e => hx e.symm, ih.2⟩
theorem cut1_len (c : UInt8) : ∀ (l : List UInt8), (cut1 c l).1.length ≤ l.length ∧ (cut1 c l).2.1.length ≤ l.length
  | [] => by simp [cut1]
  | x :: r => by
    have ih := cut1_len c r
    by_cases hx : x = c
    · simp [cut1, hx]
    · simp [cut1, hx]; omega

/-- A valid record. -/
def right (r : Rec) : Bool := !r.1.isEmpty && !(r.1.contains 61 || r.1.contains 10) && decide (r.1.length + r.2.length ≤ 200)

/-- How many digits a record's length has, and this length, by what stands in it besides. -/
def dig (base : Nat) : Nat := if base < 9 then 1 else if base < 98 then 2 else 3
def base (r : Rec) : Nat := r.1.length + r.2.length + 3
def tot (r : Rec) : Nat := base r + dig (base r)
def text (r : Rec) : List UInt8 := decDigits (tot r) ++ 32 :: (r.1 ++ 61 :: (r.2 ++ [10]))
def texts (l : List Rec) : List UInt8 := l.flatMap text

theorem dig_len (b : Nat) (h0 : 1 ≤ b) (h : b ≤ 900) : nDigits (b + dig b) = dig b := by
  unfold dig
  by_cases h1 : b < 9
  · rw [if_pos h1]; exact nDigits_small (by omega)
  · rw [if_neg h1]
    by_cases h2 : b < 98
    · rw [if_pos h2]; exact nDigits_unique 1 _ (by omega) (by omega)
    · rw [if_neg h2]; exact nDigits_unique 2 _ (by omega) (by omega)
/-- too few digits are seen -/
theorem dig_less (b d : Nat) (h0 : 1 ≤ b) (h : b ≤ 900) (h1 : 1 ≤ d) (hd : d < dig b) : nDigits (b + d) ≠ d := by
  unfold dig at hd
  by_cases k1 : b < 9
  · rw [if_pos k1] at hd; omega
  · rw [if_neg k1] at hd
    by_cases k2 : b < 98
    · rw [if_pos k2] at hd
      obtain rfl : d = 1 := by omega
      rw [nDigits_unique 1 _ (by omega) (by omega)]; omega
    · rw [if_neg k2] at hd
      rcases (by omega : d = 1 ∨ d = 2) with rfl | rfl
      · by_cases k3 : b + 1 < 100
        · rw [nDigits_unique 1 _ (by omega) (by omega)]; omega
        · rw [nDigits_unique 2 _ (by omega) (by omega)]; omega
      · rw [nDigits_unique 2 _ (by omega) (by omega)]; omega

theorem right_bounds {r : Rec} (h : right r = true) : 1 ≤ r.1.length ∧ r.1.length + r.2.length ≤ 200 ∧ (61 : UInt8) ∉ r.1 ∧ (10 : UInt8) ∉ r.1 := by
  simp only [right, Bool.and_eq_true, Bool.not_eq_true', decide_eq_true_eq, Bool.or_eq_false_iff] at h
  obtain ⟨⟨h1, h2, h3⟩, h4⟩ := h
  refine ⟨?_, h4, fun m => ?_, fun m => ?_⟩
  · cases e : r.1 with
    | nil => rw [e] at h1; simp at h1
    | cons a b => simp
  · rw [List.contains_iff_mem.2 m] at h2; cases h2
  · rw [List.contains_iff_mem.2 m] at h3; cases h3
theorem text_len {r : Rec} (h : right r = true) : (text r).length = tot r := by
  obtain ⟨h1, h2, _, _⟩ := right_bounds h
  have hd := dig_len (base r) (by unfold base; omega) (by unfold base; omega)
  simp only [text, List.length_append, List.length_cons, List.length_nil, decDigits_length]
  unfold tot
  rw [hd]
  unfold base; omega
theorem tot_bounds {r : Rec} (h : right r = true) : 5 ≤ tot r ∧ tot r ≤ 206 ∧ dig (base r) ≤ 3 ∧ 1 ≤ dig (base r) ∧ dig (base r) + 4 ≤ tot r := by
  obtain ⟨h1, h2, _, _⟩ := right_bounds h
  unfold tot dig base
  split <;> (try split) <;> omega

/-! digits are digits -/
theorem decFrom_digits : ∀ (l : List UInt8) (acc : Nat), (∀ b ∈ l, 48 ≤ b.toNat ∧ b.toNat ≤ 57) → ∃ n, decFrom acc l = some n
  | [], acc, _ => ⟨acc, rfl⟩
  | b :: r, acc, h => by
    have hb := h b (by simp)
    simp only [decFrom, digitVal, hb, and_self, if_true]
    exact decFrom_digits r _ (fun x hx => h x (by simp [hx]))
theorem decFrom_snoc : ∀ (l : List UInt8) (acc : Nat) (b : UInt8), decFrom acc (l ++ [b]) = (decFrom acc l).bind fun n => (digitVal b).map fun d => n * 10 + d
  | [], acc, b => by simp only [List.nil_append, decFrom, Option.bind_some]; cases digitVal b <;> rfl
  | x :: r, acc, b => by
    simp only [List.cons_append, decFrom]
    cases digitVal x with
    | none => rfl
    | some d => exact decFrom_snoc r _ b
theorem digit_of (k : Nat) (h : k < 10) : digitVal (UInt8.ofNat (48 + k)) = some k := by
  have e : (UInt8.ofNat (48 + k)).toNat = 48 + k := by simp; omega
  unfold digitVal
  rw [e, if_pos (by omega)]
  congr 1; omega
theorem decDigits_back : ∀ n : Nat, decFrom 0 (decDigits n) = some n := by
  intro n
  induction n using Nat.strongRecOn with
  | _ n ih =>
    rw [decDigits]
    split
    · rename_i h
      simp only [decFrom, digit_of n h]; simp
    · rename_i h
      rw [decFrom_snoc, ih (n / 10) (by omega), Option.bind_some, digit_of _ (Nat.mod_lt _ (by decide))]
      simp; omega
theorem decDigits_is : ∀ (n : Nat), ∀ b ∈ decDigits n, 48 ≤ b.toNat ∧ b.toNat ≤ 57 := by
  intro n
  induction n using Nat.strongRecOn with
  | _ n ih =>
    intro b hb
    have one : ∀ k, k < 10 → (UInt8.ofNat (48 + k)).toNat = 48 + k := fun k hk => by simp; omega
    rw [decDigits] at hb
    split at hb
    · rename_i h
      rw [List.mem_singleton.1 hb, one n h]; omega
    · rename_i h
      rcases List.mem_append.1 hb with hb | hb
      · exact ih (n / 10) (by omega) b hb
      · rw [List.mem_singleton.1 hb, one _ (Nat.mod_lt _ (by decide))]; omega
theorem decDigits_ne (n : Nat) : decDigits n ≠ [] := by
  intro e
  have h := decDigits_length n
  rw [e] at h
  have := nDigits_pos n
  simp at h; omega
theorem atoi_dec (n : Nat) : atoi (decDigits n) = some (n : Int) := by
  have hb := decDigits_back n
  have hi := decDigits_is n
  cases h : decDigits n with
  | nil => exact absurd h (decDigits_ne n)
  | cons b r =>
    rw [h] at hb hi
    have h1 := hi b (by simp)
    have k1 : (b == 45) = false := by
      simp only [beq_eq_false_iff_ne, ne_eq]; intro e; rw [e] at h1; exact absurd h1 (by decide)
    have k2 : (b == 43) = false := by
      simp only [beq_eq_false_iff_ne, ne_eq]; intro e; rw [e] at h1; exact absurd h1 (by decide)
    simp only [atoi, k1, k2, Bool.false_eq_true, if_false, decNat, List.isEmpty_cons, hb, Option.map_some]

/-- The record with which a text begins, and how long it is: as the program finds it. -/
def first (s : List UInt8) : Option (Rec × Nat) :=
  match atoi (cut1 32 (s.take 6)).1 with
  | none => none
  | some n =>
    if (cut1 32 (s.take 6)).2.2 = false ∨ n < 1 ∨ (s.length : Int) < n ∨ n < ((cut1 32 (s.take 6)).1.length : Int) + 4 then none else
    if (cut1 61 ((s.take (n.toNat - 1)).drop ((cut1 32 (s.take 6)).1.length + 1))).2.2 = false then none else
    if right ((cut1 61 ((s.take (n.toNat - 1)).drop ((cut1 32 (s.take 6)).1.length + 1))).1, (cut1 61 ((s.take (n.toNat - 1)).drop ((cut1 32 (s.take 6)).1.length + 1))).2.1) = false then none else
    if text ((cut1 61 ((s.take (n.toNat - 1)).drop ((cut1 32 (s.take 6)).1.length + 1))).1, (cut1 61 ((s.take (n.toNat - 1)).drop ((cut1 32 (s.take 6)).1.length + 1))).2.1) = s.take n.toNat
    then some (((cut1 61 ((s.take (n.toNat - 1)).drop ((cut1 32 (s.take 6)).1.length + 1))).1, (cut1 61 ((s.take (n.toNat - 1)).drop ((cut1 32 (s.take 6)).1.length + 1))).2.1), n.toNat) else none

/-- what is found begins the text -/
theorem first_is {s : List UInt8} {r : Rec} {n : Nat} (h : first s = some (r, n)) : right r = true ∧ s = text r ++ s.drop n ∧ n = (text r).length ∧ 1 ≤ n ∧ n ≤ s.length := by
  unfold first at h
  split at h
  · cases h
  · rename_i z hz
    split at h
    · cases h
    · rename_i hc
      simp only [not_or, Int.not_lt] at hc
      split at h
      · cases h
      · split at h
        · cases h
        · rename_i hr
          split at h
          · rename_i ht
            simp only [Option.some.injEq, Prod.mk.injEq] at h
            obtain ⟨h1, h2⟩ := h
            rw [h1] at hr ht
            have hr' : right r = true := by simpa using hr
            rw [h2] at ht
            have hn1 : 1 ≤ n := by omega
            have hn2 : n ≤ s.length := by omega
            refine ⟨hr', ?_, ?_, hn1, hn2⟩
            · rw [ht]; exact (List.take_append_drop n s).symm
            · rw [ht, List.length_take]; omega
          · cases h

/-- a record's text is found, whatever follows -/
theorem first_of {r : Rec} (h : right r = true) (rest : List UInt8) : first (text r ++ rest) = some (r, tot r) := by
  obtain ⟨hk1, hk2, hk3, hk4⟩ := right_bounds h
  obtain ⟨t1, t2, t3, t4, t5⟩ := tot_bounds h
  have hlen := text_len h
  have hd := dig_len (base r) (by unfold base; omega) (by unfold base; omega)
  have hdl : (decDigits (tot r)).length = dig (base r) := by rw [decDigits_length]; exact hd
  have hno : (32 : UInt8) ∉ decDigits (tot r) := fun m => by have := decDigits_is _ _ m; exact absurd this (by decide)
  have e1 : (text r ++ rest).take 6 = decDigits (tot r) ++ 32 :: ((r.1 ++ 61 :: (r.2 ++ [10])) ++ rest).take (5 - dig (base r)) := by
    unfold text
    rw [List.append_assoc, List.take_append, hdl, List.take_of_length_le (by omega), List.cons_append, show 6 - dig (base r) = (5 - dig (base r)) + 1 by omega, List.take_succ_cons]
  have c1 : cut1 32 ((text r ++ rest).take 6) = (decDigits (tot r), ((r.1 ++ 61 :: (r.2 ++ [10])) ++ rest).take (5 - dig (base r)), true) := by
    rw [e1]; exact cut1_hit _ _ _ hno
  have e2 : ((text r ++ rest).take (tot r - 1)).drop (dig (base r) + 1) = r.1 ++ 61 :: r.2 := by
    have x1 : (text r ++ rest).take (tot r - 1) = decDigits (tot r) ++ 32 :: (r.1 ++ 61 :: r.2) := by
      have y : text r ++ rest = (decDigits (tot r) ++ 32 :: (r.1 ++ 61 :: r.2)) ++ (10 :: rest) := by simp [text]
      rw [y, List.take_append_of_le_length, List.take_of_length_le]
      · simp [hdl]; unfold tot base; omega
      · simp [hdl]; unfold tot base; omega
    rw [x1, List.drop_append, hdl, List.drop_of_length_le (by omega), show dig (base r) + 1 - dig (base r) = 1 by omega]
    rfl
  have c2 : cut1 61 (((text r ++ rest).take (tot r - 1)).drop (dig (base r) + 1)) = (r.1, r.2, true) := by
    rw [e2]; exact cut1_hit _ _ _ hk3
  have e3 : (text r ++ rest).take (tot r) = text r := by
    rw [← hlen, List.take_append_of_le_length (Nat.le_refl _), List.take_length]
  unfold first
  rw [c1]
  simp only [atoi_dec, hdl]
  rw [if_neg (by simp only [List.length_append, hlen]; simp; omega)]
  simp only [Int.toNat_natCast, c2, e3, h]
  simp

/-- The records of a text; none: it has another form, or more than 20 of them. -/
def readF : Nat → Nat → List UInt8 → Option (List Rec)
  | _, _, [] => some []
  | 0, _, _ :: _ => none
  | n + 1, have_, c :: s =>
    match first (c :: s) with
    | none => none
    | some (r, k) => if have_ = 20 then none else (readF n (have_ + 1) ((c :: s).drop k)).map (r :: ·)

theorem readF_is : ∀ (n h : Nat) (s : List UInt8) (l : List Rec), h ≤ 20 → readF n h s = some l → (∀ r ∈ l, right r = true) ∧ s = texts l ∧ l.length + h ≤ 20
  | n, h, [], l, hh, e => by
    have : l = [] := by cases n <;> simpa [readF] using e.symm
    subst this
    exact ⟨fun r hr => by simp at hr, rfl, by simpa using hh⟩
  | 0, h, _ :: _, l, _, e => by simp [readF] at e
  | n + 1, h, c :: s, l, hh, e => by
    simp only [readF] at e
    split at e
    · cases e
    · rename_i r k hf
      split at e
      · cases e
      · rename_i h20
        obtain ⟨l', hl, rfl⟩ := Option.map_eq_some_iff.1 e
        obtain ⟨a1, a2, a3⟩ := readF_is n (h + 1) _ l' (by omega) hl
        obtain ⟨b1, b2, _, _, _⟩ := first_is hf
        refine ⟨fun x hx => ?_, ?_, by simp; omega⟩
        · rcases List.mem_cons.1 hx with rfl | hx
          · exact b1
          · exact a1 x hx
        · rw [b2, a2]; rfl

theorem readF_of : ∀ (l : List Rec) (n h : Nat), (∀ r ∈ l, right r = true) → l.length + h ≤ 20 → (texts l).length ≤ n → readF n h (texts l) = some l
  | [], n, h, _, _, _ => by cases n <;> rfl
  | r :: l, n, h, hr, hl, hn => by
    have h1 := hr r (by simp)
    have ht := text_len h1
    have hb := tot_bounds h1
    have e : texts (r :: l) = text r ++ texts l := rfl
    rw [e] at hn ⊢
    have hf := first_of h1 (texts l)
    have hdr : (text r ++ texts l).drop (tot r) = texts l := by rw [← ht, List.drop_left]
    simp only [List.length_append] at hn
    simp only [List.length_cons] at hl
    cases n with
    | zero => omega
    | succ n =>
      cases hx : text r ++ texts l with
      | nil => have := congrArg List.length hx; simp only [List.length_append, List.length_nil] at this; omega
      | cons c s =>
        rw [hx] at hf hdr
        simp only [readF, hf, hdr]
        rw [if_neg (by omega), readF_of l n (h + 1) (fun x hx => hr x (by simp [hx])) (by omega) (by omega)]
        rfl

/-- What Read finds. -/
def read (s : List UInt8) : Option (List Rec) := readF s.length 0 s

theorem read_iff (s : List UInt8) (l : List Rec) : read s = some l ↔ (∀ r ∈ l, right r = true) ∧ s = texts l ∧ l.length ≤ 20 := by
  constructor
  · intro h
    have := readF_is _ _ _ _ (by omega) h
    exact ⟨this.1, this.2.1, by omega⟩
  · rintro ⟨h1, rfl, h3⟩
    exact readF_of l _ 0 h1 (by omega) (Nat.le_refl _)

theorem texts_append (a b : List Rec) : texts (a ++ b) = texts a ++ texts b := by simp [texts]

theorem one_law (s t : List UInt8) (a b : List Rec) (ha : read s = some a) (hb : read t = some b) (h : a.length + b.length ≤ 20) : texts a = s ∧ read (s ++ t) = some (a ++ b) := by
  obtain ⟨a1, a2, a3⟩ := (read_iff _ _).1 ha
  obtain ⟨b1, b2, b3⟩ := (read_iff _ _).1 hb
  refine ⟨a2.symm, (read_iff _ _).2 ⟨fun r hr => ?_, by rw [texts_append, ← a2, ← b2], by simpa using h⟩⟩
  rcases List.mem_append.1 hr with h | h
  · exact a1 r h
  · exact b1 r h

end Px
