/-
  Modes: letters, octal digits and changes, over lists of bytes and masks of twelve bits; no program in sight.
-/
import Derived.WalkKit
namespace Mode

def whoM (c : UInt8) : BitVec 12 := if c = 117 then 0o4700#12 else if c = 103 then 0o2070#12 else if c = 111 then 0o1007#12 else if c = 97 then 0o7777#12 else 0#12

def whatM (c : UInt8) (m : BitVec 12) (dir : Bool) : Option (BitVec 12) :=
  if c = 114 then some 0o444#12 else if c = 119 then some 0o222#12 else if c = 120 then some 0o111#12
  else if c = 88 then some (if dir || m &&& 0o111#12 != 0#12 then 0o111#12 else 0#12)
  else if c = 115 then some 0o6000#12 else if c = 116 then some 0o1000#12 else none

def whoGo : List UInt8 → BitVec 12 → BitVec 12 × List UInt8
  | [], o => (o, [])
  | c :: cs, o => if whoM c = 0#12 then (o, c :: cs) else whoGo cs (o ||| whoM c)

def isOp (c : UInt8) : Bool := c == 43 || c == 45 || c == 61
def opM (op : UInt8) (m o b : BitVec 12) : BitVec 12 := if op = 43 then m ||| (b &&& o) else if op = 45 then m &&& ~~~(b &&& o) else (m &&& ~~~o) ||| (b &&& o)

/-- behind an operator: letters, then the next operator -/
def stepGo (dir : Bool) (o : BitVec 12) : List UInt8 → BitVec 12 → UInt8 → BitVec 12 → Option (BitVec 12)
  | [], m, op, b => some (opM op m o b)
  | c :: cs, m, op, b => match whatM c m dir with
    | some n => stepGo dir o cs m op (b ||| n)
    | none => if isOp c then stepGo dir o cs (opM op m o b) c 0#12 else none
/-- where an operator or the end must stand -/
def outGo (dir : Bool) (o : BitVec 12) (l : List UInt8) (m : BitVec 12) : Option (BitVec 12) := match l with
  | [] => some m
  | c :: cs => if isOp c then stepGo dir o cs m c 0#12 else none
def ofM (o : BitVec 12) : BitVec 12 := if o = 0#12 then 0o7777#12 else o
def partL (l : List UInt8) (m : BitVec 12) (dir : Bool) : Option (BitVec 12) :=
  if (whoGo l 0#12).2 = [] then none else outGo dir (ofM (whoGo l 0#12).1) (whoGo l 0#12).2 m

/-- the parts between commas -/
def splitC : List UInt8 → List (List UInt8)
  | [] => [[]]
  | c :: cs => if c = 44 then [] :: splitC cs else match splitC cs with
    | p :: ps => (c :: p) :: ps
    | [] => [[c]]
def partsL (dir : Bool) : List (List UInt8) → BitVec 12 → Option (BitVec 12)
  | [], m => some m
  | p :: ps, m => match partL p m dir with | none => none | some n => partsL dir ps n

def octGo : List UInt8 → Nat → Option Nat
  | [], n => some n
  | c :: cs, n => if c < 48 ∨ 55 < c then none else octGo cs (min (8 * n + (c.toNat - 48)) 1048576)
def octL (l : List UInt8) : Option Nat := if l = [] then none else octGo l 0

/-- a mode that is changed: none: the error 'range'; some none: the error 'form' -/
def change (m : BitVec 12) (l : List UInt8) (dir : Bool) : Option (Option (BitVec 12)) := match octL l with
  | some n => if 4095 < n then none else some (some (BitVec.ofNat 12 n))
  | none => some (partsL dir (splitC l) m)

/-! ### parts -/

theorem splitC_ne (l : List UInt8) : splitC l ≠ [] := by
  cases l with
  | nil => simp [splitC]
  | cons c cs => unfold splitC; split; · simp
                 · split <;> simp
theorem splitC_none : ∀ l : List UInt8, (44 : UInt8) ∉ l → splitC l = [l]
  | [], _ => rfl
  | c :: cs, h => by
    have h1 : c ≠ 44 := fun e => h (by simp [e])
    rw [splitC, if_neg h1, splitC_none cs (fun e => h (by simp [e]))]
theorem splitC_cut : ∀ (a b : List UInt8), (44 : UInt8) ∉ a → splitC (a ++ 44 :: b) = a :: splitC b
  | [], b, _ => by simp [splitC]
  | c :: cs, b, h => by
    have h1 : c ≠ 44 := fun e => h (by simp [e])
    rw [List.cons_append, splitC, if_neg h1, splitC_cut cs b (fun e => h (by simp [e]))]
theorem splitC_join : ∀ a b : List UInt8, splitC (a ++ 44 :: b) = splitC a ++ splitC b
  | [], b => by simp [splitC]
  | c :: cs, b => by
    rw [List.cons_append, splitC, splitC]
    by_cases h : c = 44
    · rw [if_pos h, if_pos h, splitC_join cs b]; rfl
    · rw [if_neg h, if_neg h, splitC_join cs b]
      cases hs : splitC cs with
      | nil => exact absurd hs (splitC_ne cs)
      | cons p ps => simp
theorem partsL_append (dir : Bool) : ∀ (a b : List (List UInt8)) (m : BitVec 12), partsL dir (a ++ b) m = (partsL dir a m).bind (partsL dir b)
  | [], b, m => rfl
  | p :: ps, b, m => by
    rw [List.cons_append, partsL, partsL]
    cases partL p m dir with
    | none => rfl
    | some n => exact partsL_append dir ps b n

/-! ### what is done twice -/

/-- never done, or some bits kept and some set -/
def Aff (f : BitVec 12 → Option (BitVec 12)) : Prop := (∀ m, f m = none) ∨ ∃ a b, ∀ m, f m = some (m &&& a ||| b)

theorem Aff.twice {f : BitVec 12 → Option (BitVec 12)} (h : Aff f) {m n : BitVec 12} (e : f m = some n) : f n = some n := by
  rcases h with h | ⟨a, b, h⟩
  · rw [h] at e; cases e
  · rw [h] at e ⊢
    obtain rfl := Option.some.inj e
    refine congrArg some (BitVec.eq_of_getLsbD_eq fun i _ => ?_)
    simp only [BitVec.getLsbD_or, BitVec.getLsbD_and]
    cases m.getLsbD i <;> cases a.getLsbD i <;> cases b.getLsbD i <;> rfl

theorem and_ones (m : BitVec 12) : m &&& 4095#12 = m := by
  rw [show 4095#12 = BitVec.allOnes 12 by decide, BitVec.and_allOnes]
theorem aff_id : Aff some := .inr ⟨4095#12, 0#12, fun m => by rw [and_ones]; simp⟩
theorem Aff.bind {f g : BitVec 12 → Option (BitVec 12)} (hf : Aff f) (hg : Aff g) : Aff fun m => (f m).bind g := by
  rcases hf with h | ⟨a, b, h⟩
  · exact .inl fun m => by simp [h]
  · rcases hg with k | ⟨c, d, k⟩
    · exact .inl fun m => by simp [h, k]
    · refine .inr ⟨a &&& c, b &&& c ||| d, fun m => ?_⟩
      simp only [h, Option.bind_some, k]
      refine congrArg some (BitVec.eq_of_getLsbD_eq fun i _ => ?_)
      simp only [BitVec.getLsbD_or, BitVec.getLsbD_and]
      cases m.getLsbD i <;> cases a.getLsbD i <;> cases b.getLsbD i <;> cases c.getLsbD i <;> cases d.getLsbD i <;> rfl
theorem aff_op (op : UInt8) (o b : BitVec 12) : Aff fun m => some (opM op m o b) := by
  unfold opM
  split
  · exact .inr ⟨4095#12, b &&& o, fun m => by rw [and_ones]⟩
  · split
    · exact .inr ⟨~~~(b &&& o), 0#12, fun m => by simp⟩
    · exact .inr ⟨~~~o, b &&& o, fun m => rfl⟩
theorem what_same (c : UInt8) (h : c ≠ 88) (m n : BitVec 12) (dir : Bool) : whatM c m dir = whatM c n dir := by
  unfold whatM; simp [h]
theorem aff_step (dir : Bool) (o : BitVec 12) : ∀ (l : List UInt8), (88 : UInt8) ∉ l → ∀ (op : UInt8) (b : BitVec 12), Aff fun m => stepGo dir o l m op b
  | [], _, op, b => aff_op op o b
  | c :: cs, h, op, b => by
    have h1 : c ≠ 88 := fun e => h (by simp [e])
    have h2 : (88 : UInt8) ∉ cs := fun e => h (by simp [e])
    simp only [stepGo]
    cases hw : whatM c 0#12 dir with
    | some n =>
      have hm : ∀ m, whatM c m dir = some n := fun m => (what_same c h1 m _ dir).trans hw
      simp only [hm]
      exact aff_step dir o cs h2 op (b ||| n)
    | none =>
      have hm : ∀ m, whatM c m dir = none := fun m => (what_same c h1 m _ dir).trans hw
      simp only [hm]
      split
      · exact (aff_op op o b).bind (aff_step dir o cs h2 c 0#12)
      · exact .inl fun m => rfl
theorem who_sub : ∀ (l : List UInt8) (o : BitVec 12) (c : UInt8), c ∈ (whoGo l o).2 → c ∈ l
  | [], o, c, h => h
  | d :: ds, o, c, h => by
    rw [whoGo] at h
    split at h
    · exact h
    · exact List.mem_cons_of_mem _ (who_sub ds _ c h)
theorem aff_out (dir : Bool) (o : BitVec 12) (l : List UInt8) (h : (88 : UInt8) ∉ l) : Aff (outGo dir o l) := by
  cases l with
  | nil => exact aff_id
  | cons c cs =>
    unfold outGo
    by_cases hc : isOp c = true
    · simp only [hc]
      exact aff_step dir o cs (fun e => h (by simp [e])) c 0#12
    · simp only [hc]
      exact .inl fun m => rfl
theorem aff_part (dir : Bool) (l : List UInt8) (h : (88 : UInt8) ∉ l) : Aff fun m => partL l m dir := by
  unfold partL
  split
  · exact .inl fun m => rfl
  · exact aff_out dir _ _ (fun e => h (who_sub _ _ _ e))
theorem aff_parts (dir : Bool) : ∀ (ps : List (List UInt8)), (∀ p ∈ ps, (88 : UInt8) ∉ p) → Aff (partsL dir ps)
  | [], _ => aff_id
  | p :: ps, h => by
    have e : partsL dir (p :: ps) = fun m => (partL p m dir).bind (partsL dir ps) := by
      funext m; rw [partsL]; cases partL p m dir <;> rfl
    rw [e]
    exact (aff_part dir p (h p (by simp))).bind (aff_parts dir ps fun q hq => h q (by simp [hq]))
theorem split_sub : ∀ (l : List UInt8) (p : List UInt8), p ∈ splitC l → ∀ c ∈ p, c ∈ l
  | [], p, hp, c, hc => by simp [splitC] at hp; subst hp; exact hc
  | d :: ds, p, hp, c, hc => by
    rw [splitC] at hp
    split at hp
    · rcases List.mem_cons.1 hp with rfl | hp
      · cases hc
      · exact List.mem_cons_of_mem _ (split_sub ds p hp c hc)
    · cases hs : splitC ds with
      | nil => exact absurd hs (splitC_ne ds)
      | cons q qs =>
        rw [hs] at hp
        rcases List.mem_cons.1 hp with rfl | hp
        · rcases List.mem_cons.1 hc with rfl | hc
          · simp
          · exact List.mem_cons_of_mem _ (split_sub ds q (by rw [hs]; simp) c hc)
        · exact List.mem_cons_of_mem _ (split_sub ds p (by rw [hs]; simp [hp]) c hc)

theorem oct_join : ∀ (a b : List UInt8) (n : Nat), octGo (a ++ 44 :: b) n = none
  | [], b, n => by simp [octGo]
  | c :: cs, b, n => by
    rw [List.cons_append, octGo]
    split
    · rfl
    · exact oct_join cs b _
theorem oct_not : ∀ (l : List UInt8) (n : Nat), (∃ c ∈ l, c < 48 ∨ 55 < c) → octGo l n = none
  | [], n, ⟨c, h, _⟩ => by cases h
  | d :: ds, n, ⟨c, h, hc⟩ => by
    rw [octGo]
    split
    · rfl
    · rename_i hn
      rcases List.mem_cons.1 h with rfl | h
      · exact absurd hc hn
      · exact oct_not ds _ ⟨c, h, hc⟩
theorem octL_not (l : List UInt8) (h : ∃ c ∈ l, c < 48 ∨ 55 < c) : octL l = none := by
  unfold octL; split
  · rfl
  · exact oct_not _ _ h

/-- **A change without X, done twice, is done once.** -/
theorem change_twice (m n : BitVec 12) (l : List UInt8) (dir : Bool) (hX : (88 : UInt8) ∉ l) (ho : ∃ c ∈ l, c < 48 ∨ 55 < c) (h : change m l dir = some (some n)) : change n l dir = some (some n) := by
  unfold change at h ⊢
  rw [octL_not l ho] at h ⊢
  have h' := Option.some.inj h
  exact congrArg some ((aff_parts dir _ fun p hp e => hX (split_sub l p hp _ e)).twice h')
/-- **Parts one behind the other are done one behind the other.** -/
theorem change_join (m n : BitVec 12) (s t : List UInt8) (dir : Bool) (hs : ∃ c ∈ s, c < 48 ∨ 55 < c) (ht : ∃ c ∈ t, c < 48 ∨ 55 < c) (h : change m s dir = some (some n)) : change m (s ++ 44 :: t) dir = change n t dir := by
  unfold change at h ⊢
  rw [octL_not s hs] at h
  rw [octL_not t ht, show octL (s ++ 44 :: t) = none from octL_not _ ⟨44, by simp, .inl (by decide)⟩, splitC_join, partsL_append]
  have h' := Option.some.inj h
  rw [h']
  rfl

/-! ### letters -/

def lettersL : List UInt8 := [114, 119, 120, 114, 119, 120, 114, 119, 120]
/-- the first i letters dashed where the bit is not set -/
def dashL (m i : Nat) : List UInt8 := (List.range 9).map fun j => if j < i ∧ m >>> (8 - j) % 2 = 0 then 45 else lettersL.getD j 0
def specL (m i : Nat) (l : List UInt8) : List UInt8 :=
  if m >>> (11 - i) % 2 = 0 then l else l.set (3 * i + 2) (if l.getD (3 * i + 2) 0 = 45 then (if i = 2 then 84 else 83) else (if i = 2 then 116 else 115))
def text (m : Nat) : List UInt8 := specL m 2 (specL m 1 (specL m 0 (dashL m 9)))

def specI (m : Nat) : Nat → List UInt8
  | 0 => dashL m 9
  | i + 1 => specL m i (specI m i)
theorem dash_len (m i : Nat) : (dashL m i).length = 9 := by simp [dashL]
theorem dash_zero (m : Nat) : dashL m 0 = lettersL := by simp [dashL]; decide
theorem dash_succ (m i : Nat) (hi : i < 9) : dashL m (i + 1) = if m >>> (8 - i) % 2 = 0 then (dashL m i).set i 45 else dashL m i := by
  apply List.ext_getElem
  · split <;> simp [dashL]
  · intro j h1 h2
    have hj : j < 9 := by rw [dash_len] at h1; exact h1
    split
    · rename_i hb
      rw [List.getElem_set]
      by_cases e : i = j
      · subst e; simp [dashL, hb]
      · rw [if_neg e]
        simp only [dashL, List.getElem_map, List.getElem_range]
        by_cases h3 : j < i
        · simp [h3, show j < i + 1 by omega]
        · simp [h3, show ¬ j < i + 1 by omega]
    · rename_i hb
      simp only [dashL, List.getElem_map, List.getElem_range]
      by_cases e : i = j
      · subst e; simp [hb]
      · by_cases h3 : j < i
        · simp [h3, show j < i + 1 by omega]
        · simp [h3, show ¬ j < i + 1 by omega]
theorem specI_len (m : Nat) : ∀ i, (specI m i).length = 9
  | 0 => dash_len m 9
  | i + 1 => by rw [specI]; unfold specL; split <;> simp [specI_len m i]
theorem spec_len (m i : Nat) (l : List UInt8) : (specL m i l).length = l.length := by unfold specL; split <;> simp

/-- one letter: the bits that it sets -/
def letterM (i : Nat) (c : UInt8) : Option Nat :=
  if c = 45 then some 0 else if c = (if i % 3 = 0 then 114 else if i % 3 = 1 then 119 else 120) then some (1 <<< (8 - i))
  else if i % 3 = 2 ∧ c = (if i = 8 then 116 else 115) then some (1 <<< (8 - i) ||| 1 <<< (11 - i / 3))
  else if i % 3 = 2 ∧ c = (if i = 8 then 84 else 83) then some (1 <<< (11 - i / 3)) else none
def parseGo : Nat → Nat → List UInt8 → Option Nat
  | _, m, [] => some m
  | i, m, c :: cs => match letterM i c with | none => none | some b => parseGo (i + 1) (m ||| b) cs
def parse (l : List UInt8) : Option Nat := if l.length = 9 then parseGo 0 0 l else none

def digits : Nat → Nat → List UInt8 → List UInt8
  | 0, _, l => l
  | f + 1, n, l => if 0 < n ∨ l = [] then digits f (n / 8) ((48 + n % 8).toUInt8 :: l) else l

set_option maxRecDepth 100000 in
theorem text_parse_all : (List.range 4096).all (fun m => parse (text m) == some m) = true := by decide +kernel
theorem text_parse (m : Nat) (h : m < 4096) : parse (text m) = some m := by
  have := List.all_eq_true.1 text_parse_all m (List.mem_range.2 h)
  simpa using this
set_option maxRecDepth 100000 in
theorem digits_all : (List.range 4096).all (fun m => octL (digits 5 m []) == some m) = true := by decide +kernel
theorem digits_oct (m : Nat) (h : m < 4096) : octL (digits 5 m []) = some m := by
  have := List.all_eq_true.1 digits_all m (List.mem_range.2 h)
  simpa using this

/-- the letters that a place may have -/
def lets (i : Nat) : List (UInt8 × Nat) := if i % 3 = 2 then [(45, 0), (120, 1 <<< (8 - i)), (if i = 8 then 116 else 115, 1 <<< (8 - i) ||| 1 <<< (11 - i / 3)), (if i = 8 then 84 else 83, 1 <<< (11 - i / 3))]
  else [(45, 0), (if i % 3 = 0 then 114 else 119, 1 <<< (8 - i))]
theorem letter_in (i : Nat) (c : UInt8) (b : Nat) (h : letterM i c = some b) : (c, b) ∈ lets i := by
  unfold letterM at h
  unfold lets
  by_cases h0 : c = 45
  · rw [if_pos h0] at h; subst h0; obtain rfl := Option.some.inj h; split <;> simp
  rw [if_neg h0] at h
  by_cases h1 : c = (if i % 3 = 0 then 114 else if i % 3 = 1 then 119 else 120)
  · rw [if_pos h1] at h
    obtain rfl := Option.some.inj h
    by_cases h2 : i % 3 = 2
    · rw [if_pos h2]
      rw [if_neg (by omega), if_neg (by omega)] at h1
      simp [h1]
    · rw [if_neg h2]
      by_cases h3 : i % 3 = 0
      · rw [if_pos h3] at h1 ⊢; simp [h1]
      · rw [if_neg h3, if_pos (by omega)] at h1; rw [if_neg h3]; simp [h1]
  rw [if_neg h1] at h
  by_cases h2 : i % 3 = 2 ∧ c = (if i = 8 then 116 else 115)
  · rw [if_pos h2] at h; obtain rfl := Option.some.inj h; rw [if_pos h2.1, h2.2]; simp
  rw [if_neg h2] at h
  by_cases h3 : i % 3 = 2 ∧ c = (if i = 8 then 84 else 83)
  · rw [if_pos h3] at h; obtain rfl := Option.some.inj h; rw [if_pos h3.1, h3.2]; simp
  rw [if_neg h3] at h
  cases h
theorem parseGo_cons {i m : Nat} {c : UInt8} {cs : List UInt8} {v : Nat} (h : parseGo i m (c :: cs) = some v) : ∃ b, (c, b) ∈ lets i ∧ parseGo (i + 1) (m ||| b) cs = some v := by
  rw [parseGo] at h
  cases hb : letterM i c with
  | none => rw [hb] at h; cases h
  | some b => rw [hb] at h; exact ⟨b, letter_in i c b hb, h⟩
/-- all texts of a range of places, with their masks -/
def allOf : Nat → Nat → List (List UInt8 × Nat)
  | _, 0 => [([], 0)]
  | i, k + 1 => (lets i).flatMap fun p => (allOf (i + 1) k).map fun q => (p.1 :: q.1, p.2 ||| q.2)
theorem parse_all : ∀ (k i m : Nat) (l : List UInt8) (v : Nat), l.length = k → parseGo i m l = some v → ∃ b, (l, b) ∈ allOf i k ∧ v = m ||| b
  | 0, i, m, l, v, hl, h => by
    obtain rfl := List.length_eq_zero_iff.1 hl
    exact ⟨0, by simp [allOf], by rw [parseGo] at h; simp at h; simp [h]⟩
  | k + 1, i, m, l, v, hl, h => by
    cases l with
    | nil => cases hl
    | cons c cs =>
      obtain ⟨b, hb, h⟩ := parseGo_cons h
      obtain ⟨b', hb', rfl⟩ := parse_all k (i + 1) (m ||| b) cs v (by simpa using hl) h
      refine ⟨b ||| b', ?_, by rw [Nat.or_assoc]⟩
      rw [allOf, List.mem_flatMap]
      exact ⟨(c, b), hb, List.mem_map.2 ⟨(cs, b'), hb', rfl⟩⟩
set_option maxRecDepth 100000 in
theorem allOf_text : (allOf 0 9).all (fun p => text p.2 == p.1 && decide (p.2 < 4096)) = true := by decide +kernel
theorem parse_text (l : List UInt8) (v : Nat) (h : parse l = some v) : v < 4096 ∧ text v = l := by
  unfold parse at h
  split at h
  · rename_i hl
    obtain ⟨b, hb, hv⟩ := parse_all 9 0 0 l v hl h
    rw [Nat.zero_or] at hv
    subst hv
    have := List.all_eq_true.1 allOf_text _ hb
    simp at this
    exact ⟨this.2, this.1⟩
  · cases h

end Mode
