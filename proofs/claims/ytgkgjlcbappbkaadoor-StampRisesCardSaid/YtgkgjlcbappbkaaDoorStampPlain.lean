/-
  Times as texts, in plain words: no program in sight.
-/
import Derived.Test.YtgkgjlcbappbkaaDoorBase
import Derived.Lib.Atoi
import Derived.Lib.ItoaNum
import Derived.Lib.SlTrimSet
import Derived.Lib.IndexMore
import Derived.Lib.IndexBytes
namespace Stp
open Go.Lib
abbrev Bs := List UInt8

def isD (b : UInt8) : Bool := decide (48 ≤ b.toNat ∧ b.toNat ≤ 57)
def dgs (l : Bs) : Prop := ∀ b ∈ l, isD b = true
def valFrom (a : Nat) (l : Bs) : Nat := l.foldl (fun a b => a * 10 + (b.toNat - 48)) a
def val (l : Bs) : Nat := valFrom 0 l
theorem dgs_app {a b : Bs} : dgs (a ++ b) ↔ dgs a ∧ dgs b := by
  unfold dgs
  exact ⟨fun h => ⟨fun x hx => h x (by simp [hx]), fun x hx => h x (by simp [hx])⟩, fun h x hx => (List.mem_append.1 hx).elim (h.1 x) (h.2 x)⟩
theorem dgs_sub {a b : Bs} (h : dgs b) (hs : ∀ x ∈ a, x ∈ b) : dgs a := fun x hx => h x (hs x hx)
theorem dec_val : ∀ (l : Bs) (a : Nat), dgs l → decFrom a l = some (valFrom a l)
  | [], a, _ => rfl
  | b :: r, a, h => by
    have hb := of_decide_eq_true (h b (by simp))
    have e : digitVal b = some (b.toNat - 48) := by unfold digitVal; rw [if_pos hb]
    have := dec_val r (a * 10 + (b.toNat - 48)) (fun x hx => h x (by simp [hx]))
    unfold decFrom
    rw [e]; exact this
theorem valFrom_app (a : Nat) (l r : Bs) : valFrom a (l ++ r) = valFrom (valFrom a l) r := by unfold valFrom; rw [List.foldl_append]
theorem valFrom_eq : ∀ (l : Bs) (a : Nat), valFrom a l = a * 10 ^ l.length + val l
  | [], a => by simp [valFrom, val]
  | b :: r, a => by
    have h1 := valFrom_eq r (a * 10 + (b.toNat - 48))
    have h2 := valFrom_eq r (0 * 10 + (b.toNat - 48))
    show valFrom (a * 10 + (b.toNat - 48)) r = a * 10 ^ (r.length + 1) + valFrom (0 * 10 + (b.toNat - 48)) r
    rw [h1, h2, Nat.pow_succ, Nat.add_mul, Nat.zero_mul, Nat.zero_add, Nat.mul_assoc, Nat.mul_comm 10, Nat.add_assoc]
theorem val_app (l r : Bs) : val (l ++ r) = val l * 10 ^ r.length + val r := by
  show valFrom 0 (l ++ r) = _
  rw [valFrom_app, valFrom_eq]; rfl
theorem val_lt : ∀ l : Bs, dgs l → val l < 10 ^ l.length := by
  intro l
  induction l with
  | nil => intro _; simp [val, valFrom]
  | cons b r ih =>
    intro h
    have hb := of_decide_eq_true (h b (by simp))
    have hr := ih (fun x hx => h x (by simp [hx]))
    have e : val (b :: r) = val [b] * 10 ^ r.length + val r := val_app [b] r
    have e1 : val [b] = b.toNat - 48 := by simp [val, valFrom]
    rw [e, e1, List.length_cons, Nat.pow_succ]
    have h9 : b.toNat - 48 ≤ 9 := by omega
    have := Nat.mul_le_mul_right (10 ^ r.length) h9
    omega
theorem dg_isD {d : Nat} (h : d < 10) : isD (UInt8.ofNat (48 + d)) = true ∧ (UInt8.ofNat (48 + d)).toNat = 48 + d := by
  have e : (UInt8.ofNat (48 + d)).toNat = 48 + d := by rw [UInt8.toNat_ofNat']; omega
  exact ⟨by unfold isD; rw [e]; simp; omega, e⟩
theorem dec_dgs (n : Nat) : dgs (decDigits n) ∧ val (decDigits n) = n := by
  induction n using Nat.strongRecOn with
  | _ n ih =>
    rw [decDigits]
    by_cases h : n < 10
    · rw [dif_pos h]
      obtain ⟨h1, h2⟩ := dg_isD h
      refine ⟨fun b hb => by rw [List.mem_singleton.1 hb]; exact h1, ?_⟩
      simp [val, valFrom]; omega
    · rw [dif_neg h]
      obtain ⟨h1, h2⟩ := ih (n / 10) (by omega)
      obtain ⟨h3, h4⟩ := dg_isD (d := n % 10) (by omega)
      refine ⟨dgs_app.2 ⟨h1, fun b hb => by rw [List.mem_singleton.1 hb]; exact h3⟩, ?_⟩
      rw [val_app, h2]
      have e1 : val [UInt8.ofNat (48 + n % 10)] = n % 10 := by simp [val, valFrom]; omega
      rw [e1]; simp; omega
theorem dec_ne (n : Nat) : decDigits n ≠ [] := by
  rw [decDigits]; split <;> simp
/-- No nought leads. -/
theorem dec_head (n : Nat) (h : n ≠ 0) : ∀ r, decDigits n ≠ 48 :: r := by
  induction n using Nat.strongRecOn with
  | _ n ih =>
    intro r
    rw [decDigits]
    by_cases h1 : n < 10
    · rw [dif_pos h1]
      intro e
      have := (List.cons.inj e).1
      have h2 := (dg_isD h1).2
      rw [this] at h2
      have : (48 : UInt8).toNat = 48 := rfl
      omega
    · rw [dif_neg h1]
      have hn := dec_ne (n / 10)
      have ih' := ih (n / 10) (by omega) (by omega)
      cases e : decDigits (n / 10) with
      | nil => exact absurd e hn
      | cons x y =>
        rw [List.cons_append]
        intro e2
        exact ih' y (by rw [e, (List.cons.inj e2).1])
theorem dec_trim (z n : Nat) : trimLeftS (List.replicate z 48 ++ decDigits n) [48] = if n = 0 then [] else decDigits n := by
  unfold trimLeftS
  have hz : ∀ (z : Nat) (l : Bs), List.dropWhile (fun x => [(48 : UInt8)].contains x) (List.replicate z 48 ++ l) = List.dropWhile (fun x => [(48 : UInt8)].contains x) l := by
    intro z l
    induction z with
    | zero => rfl
    | succ z ih => rw [List.replicate_succ, List.cons_append, List.dropWhile_cons_of_pos (by simp)]; exact ih
  rw [hz]
  by_cases h : n = 0
  · subst h
    rw [if_pos rfl, decDigits_one (by omega)]; rfl
  · rw [if_neg h]
    have hh := dec_head n h
    cases e : decDigits n with
    | nil => rfl
    | cons x y =>
      rw [List.dropWhile_cons_of_neg]
      simp
      intro e2
      exact hh y (by rw [e, e2])
theorem dec_len (n : Nat) (h : n ≤ 1099511627777) : (decDigits n).length ≤ 13 := by
  rw [decDigits_length]
  rcases Nat.lt_or_ge 13 (nDigits n) with h1 | h1
  · exfalso
    have : ∀ (k u : Nat), k < nDigits u → 10 ^ k ≤ u ∨ u = 0 ∧ k = 0 := by
      intro k
      induction k with
      | zero => intro u _; by_cases h0 : u = 0
                · exact .inr ⟨h0, rfl⟩
                · left; simp; omega
      | succ k ih =>
        intro u hu
        by_cases h10 : u < 10
        · rw [nDigits_small h10] at hu; omega
        · rw [nDigits_big h10] at hu
          rcases ih (u / 10) (by omega) with h2 | ⟨h2, _⟩
          · left; rw [Nat.pow_succ]; omega
          · omega
    rcases this 13 n h1 with h2 | ⟨_, h2⟩
    · omega
    · omega
  · exact h1

/-- The nine digits of a part. -/
def dig9 (p : Nat) : Bs := (decDigits (1000000000 + p)).drop 1
theorem dig9_all (p : Nat) (h : p < 1000000000) : (dig9 p).length = 9 ∧ dgs (dig9 p) ∧ val (dig9 p) = p := by
  have hl : (decDigits (1000000000 + p)).length = 10 := by rw [decDigits_length, nDigits_unique 9 _ (by omega) (by omega)]
  obtain ⟨h1, h2⟩ := dec_dgs (1000000000 + p)
  unfold dig9
  cases e : decDigits (1000000000 + p) with
  | nil => rw [e] at hl; simp at hl
  | cons x y =>
    rw [e] at hl h1 h2
    simp only [List.drop_succ_cons, List.drop_zero]
    have hy : y.length = 9 := by simpa using hl
    have hdy : dgs y := fun b hb => h1 b (by simp [hb])
    have hvy := val_lt y hdy
    have hv : val (x :: y) = val [x] * 10 ^ y.length + val y := val_app [x] y
    rw [hv, hy] at h2
    rw [hy] at hvy
    exact ⟨hy, hdy, by omega⟩
theorem trimR (l : Bs) : ∃ k, l = trimRightS l [48] ++ List.replicate k 48 ∧ k ≤ l.length := by
  have key : ∀ r : Bs, ∃ k, r = List.replicate k 48 ++ r.dropWhile (fun x => [(48 : UInt8)].contains x) ∧ k ≤ r.length := by
    intro r
    induction r with
    | nil => exact ⟨0, rfl, Nat.le_refl _⟩
    | cons x y ih =>
      by_cases hx : x = 48
      · obtain ⟨k, hk, hl⟩ := ih
        refine ⟨k + 1, ?_, by simp; omega⟩
        subst hx
        rw [List.dropWhile_cons_of_pos (by simp), List.replicate_succ, List.cons_append]
        rw [← hk]
      · exact ⟨0, by rw [List.dropWhile_cons_of_neg (by simpa using hx)]; rfl, by simp⟩
  obtain ⟨k, hk, hl⟩ := key l.reverse
  refine ⟨k, ?_, by simpa using hl⟩
  unfold trimRightS
  have := congrArg List.reverse hk
  rw [List.reverse_reverse, List.reverse_append, List.reverse_replicate] at this
  exact this
/-- The part behind the point, as the text has it. -/
def tail9 (p : Nat) : Bs := trimRightS (dig9 p) [48]
theorem tail9_all (p : Nat) (h : p < 1000000000) : ∃ k, dig9 p = tail9 p ++ List.replicate k 48 ∧ (tail9 p).length + k = 9 ∧ dgs (tail9 p) ∧ (0 < p → tail9 p ≠ []) := by
  obtain ⟨h1, h2, h3⟩ := dig9_all p h
  obtain ⟨k, hk, _⟩ := trimR (dig9 p)
  refine ⟨k, hk, ?_, ?_, fun hp e => ?_⟩
  · have := congrArg List.length hk
    rw [h1] at this
    simp at this
    unfold tail9; omega
  · exact dgs_sub h2 fun x hx => by rw [hk]; exact List.mem_append_left _ hx
  · have e2 : dig9 p = List.replicate k 48 := by
      rw [hk]; unfold tail9 at e; rw [e]; rfl
    have hz : ∀ k, val (List.replicate k (48 : UInt8)) = 0 := by
      intro k
      induction k with
      | zero => rfl
      | succ k ih =>
        have : val ((48 : UInt8) :: List.replicate k 48) = val [48] * 10 ^ (List.replicate k (48 : UInt8)).length + val (List.replicate k 48) := val_app [48] _
        rw [List.replicate_succ, this, ih]; simp [val, valFrom]
    rw [e2, hz] at h3; omega

/-- A time: seconds, and nanoseconds behind them. -/
def Ok (s n : Int) : Prop := -1099511627776 ≤ s ∧ s ≤ 1099511627776 ∧ 0 ≤ n ∧ n < 1000000000
/-- What stands ahead of the point, and what behind, without the sign. -/
def whl (s n : Int) : Nat := if s < 0 then (if 0 < n then (-s - 1).toNat else (-s).toNat) else s.toNat
def prt (s n : Int) : Nat := if s < 0 then (if 0 < n then (1000000000 - n).toNat else 0) else n.toNat
def sgn (s : Int) : Bs := if s < 0 then [45] else []
def text (s n : Int) : Bs := sgn s ++ decDigits (whl s n) ++ (if 0 < prt s n then 46 :: tail9 (prt s n) else [])
theorem whl_le {s n : Int} (h : Ok s n) : whl s n ≤ 1099511627776 ∧ prt s n < 1000000000 := by
  obtain ⟨h1, h2, h3, h4⟩ := h
  unfold whl prt
  constructor
  · split
    · split <;> omega
    · omega
  · split
    · split <;> omega
    · omega

def under (s n : Int) (more : Bool) : Int × Int :=
  let n1 := if more then n + 1 else n
  if 0 < n1 then (-s - 1, 1000000000 - n1) else (-s, n1)
theorem under_t (a b : Int) : under a b true = if 0 < b + 1 then (-a - 1, 1000000000 - (b + 1)) else (-a, b + 1) := rfl
theorem under_f (a b : Int) : under a b false = if 0 < b then (-a - 1, 1000000000 - b) else (-a, b) := rfl
def okB (x : Int × Int) : Bool := decide (-1099511627776 ≤ x.1) && decide (x.1 ≤ 1099511627776) && decide (0 ≤ x.2) && decide (x.2 < 1000000000)
def digB (l : Bs) : Bool := !(l == []) && l.all isD
def nine (part : Bs) : Bs := (part ++ List.replicate 9 48).take 9
/-- What is read behind the sign: whole and part. -/
def read (below : Bool) (whole part : Bs) : Int × Int :=
  if below then under (val (trimLeftS whole [48])) (val (nine part)) (decide (9 < part.length) && !(trimS (part.drop 9) [48] == [])) else (val (trimLeftS whole [48]), val (nine part))
def rest (s : Bs) : Bs := if [45].isPrefixOf s then s.drop 1 else s
def parse (s : Bs) : Option (Int × Int) :=
  let c := cut (rest s) [46]
  if !digB c.1 || c.2.2 && !digB c.2.1 then none
  else if 15 < (trimLeftS c.1 [48]).length then none
  else if okB (read ([45].isPrefixOf s) c.1 c.2.1) then some (read ([45].isPrefixOf s) c.1 c.2.1) else none

theorem digB_of {l : Bs} (h : dgs l) (h0 : l ≠ []) : digB l = true := by
  unfold digB
  rw [Bool.and_eq_true, List.all_eq_true]
  exact ⟨by simpa using h0, h⟩
theorem dot_no {l : Bs} (h : dgs l) : (46 : UInt8) ∉ l ∧ (45 : UInt8) ∉ l := by
  constructor
  · intro hm; have := h _ hm; exact absurd this (by decide)
  · intro hm; have := h _ hm; exact absurd this (by decide)
theorem cut_no {l : Bs} (h : (46 : UInt8) ∉ l) : cut l [46] = (l, [], false) := by
  have e : index l [46] = -1 := by
    rw [index_one]
    have hge := indexByte_ge l 46
    rcases Int.lt_or_le (indexByte l 46) 0 with h1 | h1
    · omega
    · exfalso
      obtain ⟨i, hi⟩ := Int.eq_ofNat_of_zero_le h1
      exact h (List.mem_of_getElem? (indexByte_some hi).1)
  unfold cut; rw [e]; rfl
theorem cut_at {a b : Bs} (h : (46 : UInt8) ∉ a) : cut (a ++ 46 :: b) [46] = (a, b, true) := by
  have e : index (a ++ 46 :: b) [46] = a.length := by
    rw [index_one]
    induction a with
    | nil => rfl
    | cons x r ih =>
      rw [List.mem_cons, not_or] at h
      rw [List.cons_append]
      unfold indexByte
      have hx : (x == 46) = false := by simpa using fun e => h.1 e.symm
      rw [hx, ih h.2, if_neg (by simp), if_neg (by simp)]
      simp
  unfold cut
  rw [e, if_pos (by omega)]
  simp
theorem nine_of {a : Bs} {k : Nat} (h : a.length + k = 9) : nine a = a ++ List.replicate k 48 := by
  unfold nine
  rw [List.take_append, List.take_of_length_le (by omega), List.take_replicate]
  congr 2; omega
theorem nine_long {a b : Bs} (h : a.length = 9) : nine (a ++ b) = a := by
  unfold nine
  rw [List.append_assoc, List.take_append_of_le_length (by omega), List.take_of_length_le (by omega)]
theorem val_trim (z n : Nat) : val (trimLeftS (List.replicate z 48 ++ decDigits n) [48]) = n := by
  rw [dec_trim]
  split
  · rename_i h; subst h; rfl
  · exact (dec_dgs n).2
theorem zeros_dgs (z : Nat) : dgs (List.replicate z 48) := fun b hb => by rw [(List.mem_replicate.1 hb).2]; decide

/-- What is read where whole and part are told, with noughts ahead and digits behind. -/
theorem parse_at (below : Bool) (z n : Nat) (part : Bs) (hn : n ≤ 1099511627777) (hp : dgs part) (h0 : part ≠ []) :
    parse ((if below then [45] else []) ++ (List.replicate z 48 ++ decDigits n ++ 46 :: part)) = if okB (read below (List.replicate z 48 ++ decDigits n) part) then some (read below (List.replicate z 48 ++ decDigits n) part) else none := by
  have hw : dgs (List.replicate z 48 ++ decDigits n) := dgs_app.2 ⟨zeros_dgs z, (dec_dgs n).1⟩
  have hw0 : List.replicate z 48 ++ decDigits n ≠ [] := by have := dec_ne n; simp [this]
  obtain ⟨W, hW⟩ : ∃ W, W = List.replicate z 48 ++ decDigits n := ⟨_, rfl⟩
  have hlen : (trimLeftS W [48]).length ≤ 15 := by
    rw [hW, dec_trim]; split
    · simp
    · have := dec_len n hn; omega
  rw [← hW] at hw hw0 ⊢
  have hpre : [45].isPrefixOf ((if below then [45] else []) ++ (W ++ 46 :: part)) = below ∧ rest ((if below then [45] else []) ++ (W ++ 46 :: part)) = W ++ 46 :: part := by
    cases below
    · have : [45].isPrefixOf (W ++ 46 :: part) = false := by
        cases W with
        | nil => exact absurd rfl hw0
        | cons x r =>
          have hx : x ≠ 45 := fun e => (dot_no hw).2 (by simp [e])
          simp [List.isPrefixOf]; exact fun e => hx e.symm
      refine ⟨this, ?_⟩
      unfold rest
      simp only [Bool.false_eq_true, if_false, List.nil_append]
      rw [this]; rfl
    · refine ⟨by simp [List.isPrefixOf], ?_⟩
      unfold rest
      simp [List.isPrefixOf]
  unfold parse
  rw [hpre.1, hpre.2, cut_at (dot_no hw).1]
  simp only
  rw [digB_of hw hw0, digB_of hp h0, if_neg (by simp), if_neg (by omega)]
theorem parse_plain (below : Bool) (n : Nat) (hn : n ≤ 1099511627777) :
    parse ((if below then [45] else []) ++ decDigits n) = if okB (read below (decDigits n) []) then some (read below (decDigits n) []) else none := by
  have hw := (dec_dgs n).1
  have hw0 := dec_ne n
  have hlen : (trimLeftS (decDigits n) [48]).length ≤ 15 := by
    have := dec_trim 0 n
    rw [List.replicate_zero, List.nil_append] at this
    rw [this]; split
    · simp
    · have := dec_len n hn; omega
  obtain ⟨W, hW⟩ : ∃ W, W = decDigits n := ⟨_, rfl⟩
  rw [← hW] at hw hw0 hlen ⊢
  have hpre : [45].isPrefixOf ((if below then [45] else []) ++ W) = below ∧ rest ((if below then [45] else []) ++ W) = W := by
    cases below
    · have : [45].isPrefixOf W = false := by
        cases W with
        | nil => exact absurd rfl hw0
        | cons x r =>
          have hx : x ≠ 45 := fun e => (dot_no hw).2 (by simp [e])
          simp [List.isPrefixOf]; exact fun e => hx e.symm
      refine ⟨this, ?_⟩
      unfold rest
      simp only [Bool.false_eq_true, if_false, List.nil_append]
      rw [this]; rfl
    · refine ⟨by simp [List.isPrefixOf], ?_⟩
      unfold rest
      simp [List.isPrefixOf]
  unfold parse
  rw [hpre.1, hpre.2, cut_no (dot_no hw).1]
  simp only
  rw [digB_of hw hw0, if_neg (by simp), if_neg (by omega)]
theorem okB_of {s n : Int} (h : Ok s n) : okB (s, n) = true := by
  obtain ⟨a, b, c, d⟩ := h
  unfold okB
  simp only [decide_eq_true a, decide_eq_true b, decide_eq_true c, decide_eq_true d, Bool.and_self]
theorem under_back {s n : Int} (h : Ok s n) (hs : s < 0) : under (whl s n) (prt s n) false = (s, n) := by
  obtain ⟨a, b, c, d⟩ := h
  unfold under whl prt
  rw [if_pos hs, if_pos hs]
  by_cases hn : 0 < n
  · rw [if_pos hn, if_pos hn]
    simp only [Bool.false_eq_true, if_false]
    rw [if_pos (by omega)]
    congr 1 <;> omega
  · rw [if_neg hn, if_neg hn]
    simp only [Bool.false_eq_true, if_false]
    rw [if_neg (by omega)]
    congr 1 <;> omega
theorem sgn_eq (s : Int) : sgn s = if decide (s < 0) then [45] else [] := by
  unfold sgn
  by_cases h : s < 0
  · rw [if_pos h, decide_eq_true h]; rfl
  · rw [if_neg h, decide_eq_false h]; rfl
/-- What is read of noughts, a time's digits, and digits more. -/
theorem read_at {s n : Int} (h : Ok s n) (z : Nat) (part : Bs) (hv : val (nine part) = prt s n) (hm : (decide (9 < part.length) && !(trimS (part.drop 9) [48] == [])) = false ∨ ¬ s < 0) :
    read (decide (s < 0)) (List.replicate z 48 ++ decDigits (whl s n)) part = (s, n) := by
  unfold read
  rw [val_trim, hv]
  by_cases hs : s < 0
  · rw [decide_eq_true hs, if_pos rfl, hm.resolve_right (fun k => k hs)]
    exact under_back h hs
  · rw [decide_eq_false hs, if_neg (by simp)]
    obtain ⟨a, b, c, d⟩ := h
    unfold whl prt
    rw [if_neg hs, if_neg hs]
    congr 1 <;> omega
theorem text_back {s n : Int} (h : Ok s n) : parse (text s n) = some (s, n) := by
  obtain ⟨hw, hp⟩ := whl_le h
  unfold text
  rw [sgn_eq]
  by_cases h0 : 0 < prt s n
  · obtain ⟨k, hk, hl, hd, hne⟩ := tail9_all (prt s n) hp
    rw [if_pos h0, List.append_assoc]
    have hpa := parse_at (decide (s < 0)) 0 (whl s n) (tail9 (prt s n)) (by omega) hd (hne h0)
    rw [List.replicate_zero, List.nil_append] at hpa
    rw [hpa]
    have hr := read_at h 0 (tail9 (prt s n)) (by rw [nine_of hl, ← hk]; exact (dig9_all _ hp).2.2) (.inl (by rw [decide_eq_false (by omega)]; rfl))
    rw [List.replicate_zero, List.nil_append] at hr
    rw [hr, okB_of h, if_pos rfl]
  · rw [if_neg h0, List.append_nil, parse_plain _ _ (by omega)]
    have hr := read_at h 0 [] (by have : prt s n = 0 := by omega
                                  rw [this]; rfl) (.inl rfl)
    rw [List.replicate_zero, List.nil_append] at hr
    rw [hr, okB_of h, if_pos rfl]
theorem text_inj {s n u m : Int} (h : Ok s n) (k : Ok u m) (e : text s n = text u m) : s = u ∧ n = m := by
  have h1 := text_back h
  rw [e, text_back k] at h1
  have := Option.some.inj h1
  exact ⟨(congrArg Prod.fst this).symm, (congrArg Prod.snd this).symm⟩
/-- A little farther below. -/
def down (s n : Int) : Int × Int := if 0 < n then (s, n - 1) else (s - 1, 999999999)
theorem under_down {s n : Int} (h : Ok s n) (hs : s < 0) : under (whl s n) (prt s n) true = down s n := by
  obtain ⟨a, b, c, d⟩ := h
  rw [under_t]
  unfold down
  by_cases hn : 0 < n
  · have e1 : whl s n = (-s - 1).toNat := by unfold whl; rw [if_pos hs, if_pos hn]
    have e2 : prt s n = (1000000000 - n).toNat := by unfold prt; rw [if_pos hs, if_pos hn]
    rw [e1, e2, if_pos (by omega), if_pos hn]
    exact Prod.ext (by show _ = s; omega) (by show _ = n - 1; omega)
  · have e1 : whl s n = (-s).toNat := by unfold whl; rw [if_pos hs, if_neg hn]
    have e2 : prt s n = 0 := by unfold prt; rw [if_pos hs, if_neg hn]
    rw [e1, e2, if_pos (by omega), if_neg hn]
    exact Prod.ext (by show _ = s - 1; omega) rfl
/-- With noughts ahead and more digits behind. -/
theorem long_back {s n : Int} (h : Ok s n) (z : Nat) (more : Bs) (hm : dgs more) :
    parse (sgn s ++ (List.replicate z 48 ++ decDigits (whl s n) ++ 46 :: (dig9 (prt s n) ++ more))) =
      if trimS more [48] = [] ∨ ¬ s < 0 then some (s, n) else if okB (down s n) then some (down s n) else none := by
  obtain ⟨hw, hp⟩ := whl_le h
  obtain ⟨g1, g2, g3⟩ := dig9_all (prt s n) hp
  rw [sgn_eq, parse_at _ _ _ _ (by omega) (dgs_app.2 ⟨g2, hm⟩) (by intro e; have := congrArg List.length e; simp [g1] at this)]
  have hd : (dig9 (prt s n) ++ more).drop 9 = more := by rw [List.drop_append, g1]; simp [List.drop_of_length_le (by omega : (dig9 (prt s n)).length ≤ 9)]
  have hv : val (nine (dig9 (prt s n) ++ more)) = prt s n := by rw [nine_long g1]; exact g3
  by_cases hc : trimS more [48] = [] ∨ ¬ s < 0
  · rw [if_pos hc]
    have hr := read_at h z (dig9 (prt s n) ++ more) hv (hc.imp (fun e => by rw [hd, e]; simp) id)
    rw [hr, okB_of h, if_pos rfl]
  · rw [if_neg hc]
    rw [not_or, Decidable.not_not] at hc
    obtain ⟨c1, c2⟩ := hc
    have hmne : more ≠ [] := fun e => c1 (by rw [e]; rfl)
    have hml : 0 < more.length := List.length_pos_iff.2 hmne
    have hr : read (decide (s < 0)) (List.replicate z 48 ++ decDigits (whl s n)) (dig9 (prt s n) ++ more) = down s n := by
      unfold read
      rw [val_trim, hv, decide_eq_true c2, if_pos rfl, hd]
      have : (decide (9 < (dig9 (prt s n) ++ more).length) && !(trimS more [48] == [])) = true := by
        rw [decide_eq_true (by rw [List.length_append, g1]; omega)]
        simpa using c1
      rw [this]
      exact under_down h c2
    rw [hr]
end Stp
