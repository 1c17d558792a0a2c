/-
  Pieces of sparse files: plain lists of bytes, no program in sight.
-/
import Derived.Test.YtjlglmfogldbkaaDoorRows
namespace Hol

/-- A piece: where it stands, and how many bytes it has. -/
abbrev Pc := Nat × Nat

/-- the bytes of a piece -/
def cut (l : List UInt8) (p : Pc) : List UInt8 := (l.drop p.1).take p.2
/-- pieces that lie ahead of n, one behind the other, not even side by side; the last one first -/
def Ord : Nat → List Pc → Prop
  | _, [] => True
  | n, (a, s) :: r => 1 ≤ s ∧ a + s ≤ n ∧ (match r with | [] => True | (b, t) :: _ => b + t < a) ∧ Ord a r
theorem Ord.mono {m n : Nat} {r : List Pc} (h : Ord m r) (hmn : m ≤ n) : Ord n r := by
  cases r with
  | nil => trivial
  | cons p r => obtain ⟨a, s⟩ := p; exact ⟨h.1, by have := h.2.1; omega, h.2.2⟩

/-- a block more, that is not 0, at place a -/
def push (acc : List Pc) (a n : Nat) : List Pc := match acc with
  | [] => [(a, n)]
  | (b, s) :: r => if b + s = a then (b, s + n) :: r else (a, n) :: (b, s) :: r
theorem push_nil (a n : Nat) : push [] a n = [(a, n)] := rfl
theorem push_cons (b s : Nat) (r : List Pc) (a n : Nat) : push ((b, s) :: r) a n = if b + s = a then (b, s + n) :: r else (a, n) :: (b, s) :: r := rfl
def zeros (l : List UInt8) : Bool := l.all (· == 0)
/-- block k -/
def blk (l : List UInt8) (st k : Nat) : List UInt8 := (l.drop (k * st)).take st
/-- the pieces of the first k blocks, the last one first -/
def acc (l : List UInt8) (st : Nat) : Nat → List Pc
  | 0 => []
  | k + 1 => if zeros (blk l st k) then acc l st k else push (acc l st k) (k * st) (blk l st k).length
/-- how many blocks -/
def rounds (n st : Nat) : Nat := (n + st - 1) / st
def find (l : List UInt8) (st : Nat) : List Pc := (acc l st (rounds l.length st)).reverse

theorem rounds_bd (n st : Nat) (h : 1 ≤ st) : n ≤ rounds n st * st ∧ (∀ k, k < rounds n st → k * st < n) := by
  unfold rounds
  constructor
  · have := Nat.div_add_mod (n + st - 1) st
    have h2 := Nat.mod_lt (n + st - 1) h
    rw [Nat.mul_comm] at this
    omega
  · intro k hk
    have := (Nat.le_div_iff_mul_le h (x := k + 1) (y := n + st - 1)).1 hk
    rw [Nat.add_mul] at this
    omega

theorem push_ord {r : List Pc} {a n : Nat} (h : Ord a r) (hn : 1 ≤ n) : Ord (a + n) (push r a n) := by
  cases r with
  | nil => exact ⟨hn, Nat.le_refl _, trivial, trivial⟩
  | cons p r =>
    obtain ⟨b, s⟩ := p
    obtain ⟨h1, h2, h3, h4⟩ := h
    rw [push_cons]
    by_cases e : b + s = a
    · rw [if_pos e]; exact ⟨by omega, by omega, h3, h4⟩
    · rw [if_neg e]; exact ⟨hn, Nat.le_refl _, by show b + s < a; omega, h1, h2, h3, h4⟩

theorem blk_len (l : List UInt8) (st k : Nat) : (blk l st k).length = min st (l.length - k * st) := by
  unfold blk; rw [List.length_take, List.length_drop]

theorem acc_ord (l : List UInt8) (st : Nat) (h : 1 ≤ st) : ∀ k, k ≤ rounds l.length st → Ord (min (k * st) l.length) (acc l st k) := by
  intro k
  induction k with
  | zero => intro _; trivial
  | succ k ih =>
    intro hk
    have h0 := ih (by omega)
    have hb := (rounds_bd l.length st h).2 k (by omega)
    have hl := blk_len l st k
    have e1 : min (k * st) l.length = k * st := by omega
    rw [e1] at h0
    have e2 : (k + 1) * st = k * st + st := by rw [Nat.add_mul, Nat.one_mul]
    simp only [acc]
    split
    · exact h0.mono (by omega)
    · have := push_ord (n := (blk l st k).length) h0 (by omega)
      have e3 : k * st + (blk l st k).length = min ((k + 1) * st) l.length := by omega
      rwa [e3] at this

/-- what holds of each piece, and what is told of the rest -/
def InP (i : Nat) (p : Pc) : Prop := p.1 ≤ i ∧ i < p.1 + p.2
theorem push_in (r : List Pc) (a n i : Nat) : (∃ p ∈ push r a n, InP i p) ↔ (∃ p ∈ r, InP i p) ∨ (a ≤ i ∧ i < a + n) := by
  cases r with
  | nil => simp [push, InP]
  | cons p r =>
    obtain ⟨b, s⟩ := p
    rw [push_cons]
    by_cases e : b + s = a
    · rw [if_pos e]
      simp only [List.mem_cons, exists_eq_or_imp, InP]
      constructor
      · rintro (h | h)
        · by_cases h2 : i < b + s
          · exact .inl (.inl ⟨h.1, h2⟩)
          · exact .inr ⟨by omega, by omega⟩
        · exact .inl (.inr h)
      · rintro ((h | h) | h)
        · exact .inl ⟨h.1, by omega⟩
        · exact .inr h
        · exact .inl ⟨by omega, by omega⟩
    · rw [if_neg e]
      simp only [List.mem_cons, exists_eq_or_imp, InP]
      constructor
      · rintro (h | h)
        · exact .inr h
        · exact .inl h
      · rintro (h | h)
        · exact .inr h
        · exact .inl h

theorem zeros_get {l : List UInt8} (h : zeros l = true) (i : Nat) (hi : i < l.length) : l[i] = 0 := by
  have := List.all_eq_true.1 h l[i] (List.getElem_mem hi)
  simpa using this

/-- Out of the pieces all is 0. -/
theorem acc_rest (l : List UInt8) (st : Nat) (h : 1 ≤ st) : ∀ k, k ≤ rounds l.length st → ∀ i, (hi : i < l.length) → i < k * st → (¬ ∃ p ∈ acc l st k, InP i p) → l[i] = 0 := by
  intro k
  induction k with
  | zero => intro _ i _ h2 _; omega
  | succ k ih =>
    intro hk i hi h2 hno
    have e2 : (k + 1) * st = k * st + st := by rw [Nat.add_mul, Nat.one_mul]
    have hb := (rounds_bd l.length st h).2 k (by omega)
    have hl := blk_len l st k
    simp only [acc] at hno
    by_cases hik : i < k * st
    · refine ih (by omega) i hi hik fun hp => hno ?_
      split
      · exact hp
      · exact (push_in _ _ _ _).2 (.inl hp)
    · split at hno
      · rename_i hz
        have := zeros_get hz (i - k * st) (by omega)
        unfold blk at this
        rw [List.getElem_take, List.getElem_drop] at this
        have e : k * st + (i - k * st) = i := by omega
        simpa [e] using this
      · exact absurd ((push_in _ _ _ _).2 (.inr ⟨by omega, by omega⟩)) hno

/-- Each piece begins at a block, and holds a byte that is not 0. -/
theorem acc_each (l : List UInt8) (st : Nat) : ∀ k, k ≤ rounds l.length st → ∀ p ∈ acc l st k, p.1 % st = 0 ∧ zeros (cut l p) = false := by
  intro k
  induction k with
  | zero => intro _ p hp; cases hp
  | succ k ih =>
    intro hk p hp
    simp only [acc] at hp
    split at hp
    · exact ih (by omega) p hp
    · rename_i hz
      have hz' : zeros (blk l st k) = false := by simpa using hz
      have hold := ih (by omega)
      have hnew : (k * st) % st = 0 ∧ zeros (cut l (k * st, (blk l st k).length)) = false := by
        refine ⟨Nat.mul_mod_left _ _, ?_⟩
        have : cut l (k * st, (blk l st k).length) = blk l st k := by
          unfold cut blk
          simp only
          rw [List.length_take]
          apply List.ext_getElem?
          intro j
          simp only [List.getElem?_take]
          split <;> split <;> first | rfl | (exfalso; omega) | skip
          rw [List.getElem?_eq_none (by omega)]
        rw [this]; exact hz'
      revert hp hold
      cases acc l st k with
      | nil =>
        intro hp _
        have : p = (k * st, (blk l st k).length) := by simpa [push] using hp
        rw [this]; exact hnew
      | cons q r =>
        obtain ⟨b, s⟩ := q
        intro hp hold
        rw [push_cons] at hp
        by_cases e : b + s = k * st
        · rw [if_pos e] at hp
          rcases List.mem_cons.1 hp with rfl | hp
          · obtain ⟨o1, o2⟩ := hold (b, s) (List.mem_cons_self ..)
            refine ⟨o1, ?_⟩
            cases hc : zeros (cut l (b, s + (blk l st k).length)) with
            | false => rfl
            | true =>
              exfalso
              have : zeros (cut l (b, s)) = true := by
                unfold zeros at hc ⊢
                rw [List.all_eq_true] at hc ⊢
                intro x hx
                refine hc x ?_
                unfold cut at hx ⊢
                simp only at hx ⊢
                exact (List.take_subset_take_left _ (by omega)) hx
              rw [this] at o2; cases o2
          · exact hold p (List.mem_cons_of_mem _ hp)
        · rw [if_neg e] at hp
          rcases List.mem_cons.1 hp with rfl | hp
          · exact hnew
          · exact hold p hp

/-! ### Put and Take -/

/-- pieces one behind the other, from lo on, not side by side, all ahead of n -/
def Asc (n : Nat) : Nat → List Pc → Prop
  | _, [] => True
  | lo, (a, s) :: r => 1 ≤ s ∧ lo ≤ a ∧ a + s ≤ n ∧ Asc n (a + s + 1) r
theorem Asc.snoc {n : Nat} : ∀ {r : List Pc} {lo a s : Nat}, Asc a lo r → 1 ≤ s → (∀ p ∈ r, p.1 + p.2 < a) → lo ≤ a → a + s ≤ n → Asc n lo (r ++ [(a, s)])
  | [], _, _, _, _, h1, _, h3, h4 => ⟨h1, h3, h4, trivial⟩
  | (b, t) :: r, lo, a, s, h, h1, h2, h3, h4 => by
    have hb := h2 (b, t) (List.mem_cons_self ..)
    simp only at hb
    exact ⟨h.1, h.2.1, by omega, Asc.snoc h.2.2.2 h1 (fun p hp => h2 p (List.mem_cons_of_mem _ hp)) (by omega) h4⟩
theorem Ord.ends : ∀ {r : List Pc} {n : Nat}, Ord n r → ∀ p ∈ r, p.1 + p.2 ≤ n
  | [], _, _, p, hp => by cases hp
  | (a, s) :: r, n, h, p, hp => by
    rcases List.mem_cons.1 hp with rfl | hp
    · exact h.2.1
    · have := Ord.ends h.2.2.2 p hp
      have := h.2.1
      omega
theorem Ord.apart {a s n : Nat} {r : List Pc} (h : Ord n ((a, s) :: r)) : ∀ p ∈ r, p.1 + p.2 < a := by
  obtain ⟨_, _, h3, h4⟩ := h
  cases r with
  | nil => intro p hp; cases hp
  | cons q r =>
    obtain ⟨b, t⟩ := q
    intro p hp
    rcases List.mem_cons.1 hp with rfl | hp
    · exact h3
    · have := Ord.ends h4.2.2.2 p hp
      have h5 : b + t < a := h3
      omega
theorem Ord.asc : ∀ {r : List Pc} {n : Nat}, Ord n r → Asc n 0 r.reverse
  | [], _, _ => trivial
  | (a, s) :: r, n, h => by
    rw [List.reverse_cons]
    exact Asc.snoc (Ord.asc h.2.2.2) h.1 (fun p hp => h.apart p (List.mem_reverse.1 hp)) (Nat.zero_le _) h.2.1

def take (l : List UInt8) (ps : List Pc) : List UInt8 := ps.flatMap (cut l)
def size (ps : List Pc) : Nat := (ps.map (·.2)).sum
def splice (b : List UInt8) (a : Nat) (d : List UInt8) : List UInt8 := b.take a ++ d ++ b.drop (a + d.length)
def putGo (b data : List UInt8) : List Pc → List UInt8
  | [] => b
  | (a, s) :: r => putGo (splice b a (data.take s)) (data.drop s) r
def put (data : List UInt8) (ps : List Pc) (n : Nat) : List UInt8 := putGo (List.replicate n 0) data ps

theorem splice_len (b : List UInt8) (a : Nat) (d : List UInt8) (h : a + d.length ≤ b.length) : (splice b a d).length = b.length := by
  unfold splice; simp only [List.length_append, List.length_take, List.length_drop]; omega
theorem splice_get (b : List UInt8) (a : Nat) (d : List UInt8) (h : a + d.length ≤ b.length) (i : Nat) : (splice b a d)[i]? = if a ≤ i ∧ i < a + d.length then d[i - a]? else b[i]? := by
  unfold splice
  have la : (b.take a).length = a := by rw [List.length_take]; omega
  by_cases h1 : i < a
  · rw [if_neg (by omega), List.append_assoc, List.getElem?_append_left (by omega), List.getElem?_take, if_pos h1]
  · rw [List.append_assoc, List.getElem?_append_right (by omega), la]
    by_cases h2 : i < a + d.length
    · rw [if_pos (by omega), List.getElem?_append_left (by omega)]
    · rw [if_neg (by omega), List.getElem?_append_right (by omega), List.getElem?_drop]
      congr 1; omega
theorem cut_len (l : List UInt8) (p : Pc) (h : p.1 + p.2 ≤ l.length) : (cut l p).length = p.2 := by
  unfold cut; rw [List.length_take, List.length_drop]; omega
theorem cut_get (l : List UInt8) (p : Pc) (j : Nat) (h : j < p.2) : (cut l p)[j]? = l[p.1 + j]? := by
  unfold cut; rw [List.getElem?_take, if_pos h, List.getElem?_drop]

/-- What is taken and put again is the text, if all else is as there. -/
theorem put_back (l : List UInt8) (n : Nat) (hl : l.length = n) : ∀ (ps : List Pc) (lo : Nat) (b : List UInt8), Asc n lo ps → b.length = n → (∀ i, (¬ ∃ p ∈ ps, InP i p) → b[i]? = l[i]?) → putGo b (take l ps) ps = l := by
  intro ps
  induction ps with
  | nil =>
    intro lo b _ _ h
    exact List.ext_getElem? fun i => h i (by rintro ⟨p, hp, _⟩; cases hp)
  | cons p r ih =>
    obtain ⟨a, s⟩ := p
    intro lo b hA hb h
    obtain ⟨h1, h2, h3, h4⟩ := hA
    have hc := cut_len l (a, s) (by show a + s ≤ _; omega)
    simp only at hc
    have e1 : (take l ((a, s) :: r)).take s = cut l (a, s) := by
      show (cut l (a, s) ++ take l r).take s = _
      rw [List.take_append_of_le_length (by omega), List.take_of_length_le (by omega)]
    have e2 : (take l ((a, s) :: r)).drop s = take l r := by
      show (cut l (a, s) ++ take l r).drop s = _
      rw [List.drop_append_of_le_length (by omega), List.drop_of_length_le (by omega), List.nil_append]
    have e3 : putGo b (take l ((a, s) :: r)) ((a, s) :: r) = putGo (splice b a ((take l ((a, s) :: r)).take s)) ((take l ((a, s) :: r)).drop s) r := rfl
    rw [e3, e1, e2]
    refine ih (a + s + 1) _ h4 (by rw [splice_len _ _ _ (by omega)]; exact hb) fun i hi => ?_
    rw [splice_get _ _ _ (by omega), hc]
    by_cases hin : a ≤ i ∧ i < a + s
    · rw [if_pos hin, cut_get l (a, s) (i - a) (by show i - a < s; omega)]
      show l[a + (i - a)]? = _
      rw [show a + (i - a) = i by omega]
    · rw [if_neg hin]
      refine h i ?_
      rintro ⟨p, hp, hip⟩
      rcases List.mem_cons.1 hp with rfl | hp
      · exact hin hip
      · exact hi ⟨p, hp, hip⟩

theorem putGo_low (n : Nat) : ∀ (ps : List Pc) (lo : Nat) (b d : List UInt8), Asc n lo ps → b.length = n → size ps = d.length → (putGo b d ps).length = n ∧ (∀ i, i < lo → (putGo b d ps)[i]? = b[i]?) ∧ (∀ i, (¬ ∃ p ∈ ps, InP i p) → (putGo b d ps)[i]? = b[i]?) ∧ take (putGo b d ps) ps = d := by
  intro ps
  induction ps with
  | nil =>
    intro lo b d _ hb hd
    have : d = [] := List.length_eq_zero_iff.1 (by simpa [size] using hd.symm)
    exact ⟨hb, fun _ _ => rfl, fun _ _ => rfl, by rw [this]; rfl⟩
  | cons p r ih =>
    obtain ⟨a, s⟩ := p
    intro lo b d hA hb hd
    obtain ⟨h1, h2, h3, h4⟩ := hA
    have hs : size ((a, s) :: r) = s + size r := by simp [size]
    have hds : (d.take s).length = s := by rw [List.length_take]; omega
    have e3 : putGo b d ((a, s) :: r) = putGo (splice b a (d.take s)) (d.drop s) r := rfl
    obtain ⟨i1, i2, i3, i4⟩ := ih (a + s + 1) (splice b a (d.take s)) (d.drop s) h4 (by rw [splice_len _ _ _ (by omega)]; exact hb) (by rw [List.length_drop]; omega)
    rw [e3]
    refine ⟨i1, fun i hi => ?_, fun i hi => ?_, ?_⟩
    · rw [i2 i (by omega), splice_get _ _ _ (by omega), if_neg (by omega)]
    · have hin : ¬ (a ≤ i ∧ i < a + s) := fun h => hi ⟨(a, s), List.mem_cons_self .., h⟩
      rw [i3 i (fun ⟨p, hp, hip⟩ => hi ⟨p, List.mem_cons_of_mem _ hp, hip⟩), splice_get _ _ _ (by omega), hds, if_neg hin]
    · show cut _ (a, s) ++ take _ r = d
      rw [i4]
      have : cut (putGo (splice b a (d.take s)) (d.drop s) r) (a, s) = d.take s := by
        apply List.ext_getElem?
        intro j
        by_cases hj : j < s
        · rw [cut_get _ (a, s) j hj]
          show (putGo _ _ r)[a + j]? = _
          rw [i2 (a + j) (by omega), splice_get _ _ _ (by omega), hds, if_pos (by omega), show a + j - a = j by omega]
        · rw [List.getElem?_eq_none (by rw [cut_len _ _ (by rw [i1]; exact h3)]; show s ≤ j; omega), List.getElem?_eq_none (by omega)]
      rw [this, List.take_append_drop]

/-! ### Two texts, the first one of whole blocks -/
theorem push_size (r : List Pc) (a n : Nat) : size (push r a n) = size r + n := by
  cases r with
  | nil => simp [push, size]
  | cons p r =>
    obtain ⟨b, s⟩ := p
    rw [push_cons]
    split <;> simp [size] <;> omega
theorem size_reverse (r : List Pc) : size r.reverse = size r := by
  unfold size; rw [List.map_reverse, List.sum_reverse]

theorem blk_left (s t : List UInt8) (st k : Nat) (h : k * st + st ≤ s.length) : blk (s ++ t) st k = blk s st k := by
  unfold blk
  rw [List.drop_append_of_le_length (by omega), List.take_append_of_le_length (by rw [List.length_drop]; omega)]
theorem blk_right (s t : List UInt8) (st q j : Nat) (h : s.length = q * st) : blk (s ++ t) st (q + j) = blk t st j := by
  unfold blk
  rw [show (q + j) * st = s.length + j * st by rw [Nat.add_mul, h], List.drop_append, List.drop_of_length_le (by omega), List.nil_append, Nat.add_sub_cancel_left]
theorem acc_left (s t : List UInt8) (st q : Nat) (h : s.length = q * st) : ∀ k, k ≤ q → acc (s ++ t) st k = acc s st k := by
  intro k
  induction k with
  | zero => intro _; rfl
  | succ k ih =>
    intro hk
    have hle : k * st + st ≤ s.length := by
      rw [h, ← Nat.succ_mul]; exact Nat.mul_le_mul_right _ hk
    simp only [acc]
    rw [ih (by omega), blk_left s t st k hle]

theorem acc_two (s t : List UInt8) (st q : Nat) (h : s.length = q * st) : ∀ j,
    size (acc (s ++ t) st (q + j)) = size (acc s st q) + size (acc t st j) ∧
    (acc (s ++ t) st (q + j)).length ≤ (acc s st q).length + (acc t st j).length ∧ (acc s st q).length + (acc t st j).length ≤ (acc (s ++ t) st (q + j)).length + 1 ∧
    (acc t st j = [] → acc (s ++ t) st (q + j) = acc s st q) ∧
    (∀ x y r, acc t st j = (x, y) :: r → ∃ u v r', acc (s ++ t) st (q + j) = (u, v) :: r' ∧ u + v = s.length + (x + y)) := by
  intro j
  induction j with
  | zero =>
    rw [Nat.add_zero, acc_left s t st q h q (Nat.le_refl _)]
    exact ⟨rfl, Nat.le_refl _, Nat.le_succ _, fun _ => rfl, fun x y r e => by cases e⟩
  | succ j ih =>
    obtain ⟨h1, h2, h3, h4, h5⟩ := ih
    have e : acc (s ++ t) st (q + (j + 1)) = if zeros (blk t st j) then acc (s ++ t) st (q + j) else push (acc (s ++ t) st (q + j)) (s.length + j * st) (blk t st j).length := by
      show acc (s ++ t) st ((q + j) + 1) = _
      simp only [acc]
      rw [blk_right s t st q j h, show (q + j) * st = s.length + j * st by rw [Nat.add_mul, h]]
    have e' : acc t st (j + 1) = if zeros (blk t st j) then acc t st j else push (acc t st j) (j * st) (blk t st j).length := rfl
    rw [e, e']
    by_cases hz : zeros (blk t st j) = true
    · rw [if_pos hz, if_pos hz]; exact ⟨h1, h2, h3, h4, h5⟩
    · rw [if_neg hz, if_neg hz, push_size, push_size]
      refine ⟨by omega, ?_⟩
      cases ht : acc t st j with
      | nil =>
        rw [ht] at h2 h3
        rw [h4 ht] at h2 h3 ⊢
        cases hs : acc s st q with
        | nil =>
          refine ⟨by simp [push], by simp [push], fun e => by simp [push] at e, fun x y r e => ?_⟩
          simp only [push, List.cons.injEq, Prod.mk.injEq] at e
          obtain ⟨⟨rfl, rfl⟩, rfl⟩ := e
          exact ⟨_, _, _, rfl, by omega⟩
        | cons p r0 =>
          obtain ⟨b, c⟩ := p
          rw [push_cons, push_nil]
          by_cases hm : b + c = s.length + j * st
          · rw [if_pos hm]
            refine ⟨by simp, by simp, fun e => by simp at e, fun x y r e => ?_⟩
            simp only [List.cons.injEq, Prod.mk.injEq] at e
            obtain ⟨⟨rfl, rfl⟩, rfl⟩ := e
            exact ⟨_, _, _, rfl, by omega⟩
          · rw [if_neg hm]
            refine ⟨by simp, by simp, fun e => by simp at e, fun x y r e => ?_⟩
            simp only [List.cons.injEq, Prod.mk.injEq] at e
            obtain ⟨⟨rfl, rfl⟩, rfl⟩ := e
            exact ⟨_, _, _, rfl, by omega⟩
      | cons p r0 =>
        obtain ⟨b, c⟩ := p
        obtain ⟨u, v, r', hc, huv⟩ := h5 b c r0 ht
        rw [ht, hc] at h2 h3
        rw [hc]
        simp only [List.length_cons] at h2 h3
        rw [push_cons, push_cons]
        by_cases hm : b + c = j * st
        · rw [if_pos hm, if_pos (by omega)]
          refine ⟨by simp only [List.length_cons]; omega, by simp only [List.length_cons]; omega, fun e => by simp at e, fun x y r e => ?_⟩
          simp only [List.cons.injEq, Prod.mk.injEq] at e
          obtain ⟨⟨rfl, rfl⟩, rfl⟩ := e
          exact ⟨_, _, _, rfl, by omega⟩
        · rw [if_neg hm, if_neg (by omega)]
          refine ⟨by simp only [List.length_cons]; omega, by simp only [List.length_cons]; omega, fun e => by simp at e, fun x y r e => ?_⟩
          simp only [List.cons.injEq, Prod.mk.injEq] at e
          obtain ⟨⟨rfl, rfl⟩, rfl⟩ := e
          exact ⟨_, _, _, rfl, by omega⟩

theorem rounds_add (q n st : Nat) (h : 1 ≤ st) : rounds (q * st + n) st = q + rounds n st := by
  unfold rounds
  rw [show q * st + n + st - 1 = (n + st - 1) + q * st by omega, Nat.add_mul_div_right _ _ h, Nat.add_comm]
theorem find_two (s t : List UInt8) (st q : Nat) (hst : 1 ≤ st) (h : s.length = q * st) :
    size (find (s ++ t) st) = size (find s st) + size (find t st) ∧ (find (s ++ t) st).length ≤ (find s st).length + (find t st).length ∧ (find s st).length + (find t st).length ≤ (find (s ++ t) st).length + 1 := by
  have e1 : rounds (s ++ t).length st = q + rounds t.length st := by rw [List.length_append, h, rounds_add q _ st hst]
  have e2 : rounds s.length st = q := by
    have := rounds_add q 0 st hst
    rw [Nat.add_zero, ← h] at this
    rw [this]
    have : rounds 0 st = 0 := by unfold rounds; exact Nat.div_eq_of_lt (by omega)
    omega
  unfold find
  rw [e1, e2, size_reverse, size_reverse, size_reverse, List.length_reverse, List.length_reverse, List.length_reverse]
  obtain ⟨h1, h2, h3, _⟩ := acc_two s t st q h (rounds t.length st)
  exact ⟨h1, h2, h3⟩

/-- a step beyond the text is as good as one of its length -/
theorem find_min (l : List UInt8) (st : Nat) (h : 1 ≤ st) : find l (min st (max l.length 1)) = find l st := by
  by_cases h1 : st ≤ max l.length 1
  · rw [Nat.min_eq_left h1]
  · have h2 : max l.length 1 < st := by omega
    rw [Nat.min_eq_right (by omega)]
    rcases Nat.eq_zero_or_pos l.length with h0 | h0
    · have e : ∀ s, 1 ≤ s → find l s = [] := fun s hs => by
        unfold find
        have : rounds l.length s = 0 := by unfold rounds; exact Nat.div_eq_of_lt (by omega)
        rw [this]; rfl
      rw [e _ (by omega), e _ h]
    · have hm : max l.length 1 = l.length := by omega
      rw [hm]
      have e : ∀ s, l.length ≤ s → find l s = (if zeros l then [] else [(0, l.length)]) := fun s hs => by
        unfold find
        have : rounds l.length s = 1 := by
          unfold rounds
          rw [show l.length + s - 1 = s * 1 + (l.length - 1) by omega, Nat.mul_add_div (by omega), Nat.div_eq_of_lt (by omega)]
        rw [this]
        have hb : blk l s 0 = l := by unfold blk; rw [Nat.zero_mul, List.drop_zero, List.take_of_length_le hs]
        simp only [acc, hb, Nat.zero_mul]
        split <;> rfl
      rw [e _ (Nat.le_refl _), e _ (by omega)]

end Hol
