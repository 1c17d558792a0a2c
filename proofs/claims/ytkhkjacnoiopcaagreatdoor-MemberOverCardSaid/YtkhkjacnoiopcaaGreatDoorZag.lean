/-
  Times as texts, in plain words: no program in sight.
-/
import Derived.Test.YtkhkjacnoiopcaaGreatDoorZaa
import Derived.Lib.Atoi
import Derived.Lib.ItoaNum
import Derived.Lib.SlTrimSet
import Derived.Lib.IndexMore
import Derived.Lib.IndexBytes
import Derived.Test.YtkhkjacnoiopcaaGreatDoorZad
import Derived.Test.YtkhkjacnoiopcaaGreatDoorZaf
set_option linter.unusedVariables false
set_option linter.unusedSimpArgs false

set_option linter.unusedVariables false
set_option linter.unusedSimpArgs false
namespace Stp
open Go.Lib
abbrev Bs := List UInt8

def isD (b : UInt8) : Bool := decide (48 ≤ b.toNat ∧ b.toNat ≤ 57)
def dgs (l : Bs) : Prop := ∀ b ∈ l, isD b = true
def valFrom (a : Nat) (l : Bs) : Nat := l.foldl (fun a b => a * 10 + (b.toNat - 48)) a
def val (l : Bs) : Nat := valFrom 0 l
theorem dgs_app {a b : Bs} : dgs (a ++ b) ↔ dgs a ∧ dgs b := by
  unfold dgs
  exact ⟨fun h => ⟨fun x hx => h x (by simp [hx]), fun x hx => h x (by simp [hx])⟩, fun h x hx => (List.mem_append.1 hx).elim (h.1 x) (h.2 x)⟩
theorem dgs_sub {a b : Bs} (h : dgs b) (hs : ∀ x ∈ a, x ∈ b) : dgs a := fun x hx => h x (hs x hx)
theorem dec_val : ∀ (l : Bs) (a : Nat), dgs l → decFrom a l = some (valFrom a l)
  | [], a, _ => rfl
  | b :: r, a, h => by
    have hb := of_decide_eq_true (h b (by simp))
    have e : digitVal b = some (b.toNat - 48) := by unfold digitVal; rw [if_pos hb]
    have := dec_val r (a * 10 + (b.toNat - 48)) (fun x hx => h x (by simp [hx]))
    unfold decFrom
    rw [e]; exact this
theorem valFrom_app (a : Nat) (l r : Bs) : valFrom a (l ++ r) = valFrom (valFrom a l) r := by unfold valFrom; rw [List.foldl_append]
theorem valFrom_eq : ∀ (l : Bs) (a : Nat), valFrom a l = a * 10 ^ l.length + val l
  | [], a => by simp [valFrom, val]
  | b :: r, a => by
    have h1 := valFrom_eq r (a * 10 + (b.toNat - 48))
    have h2 := valFrom_eq r (0 * 10 + (b.toNat - 48))
    show valFrom (a * 10 + (b.toNat - 48)) r = a * 10 ^ (r.length + 1) + valFrom (0 * 10 + (b.toNat - 48)) r
    rw [h1, h2, Nat.pow_succ, Nat.add_mul, Nat.zero_mul, Nat.zero_add, Nat.mul_assoc, Nat.mul_comm 10, Nat.add_assoc]
theorem val_app (l r : Bs) : val (l ++ r) = val l * 10 ^ r.length + val r := by
  show valFrom 0 (l ++ r) = _
  rw [valFrom_app, valFrom_eq]; rfl
theorem val_lt : ∀ l : Bs, dgs l → val l < 10 ^ l.length := by
  intro l
  induction l with
  | nil => intro _; simp [val, valFrom]
  | cons b r ih =>
    intro h
    have hb := of_decide_eq_true (h b (by simp))
    have hr := ih (fun x hx => h x (by simp [hx]))
    have e : val (b :: r) = val [b] * 10 ^ r.length + val r := val_app [b] r
    have e1 : val [b] = b.toNat - 48 := by simp [val, valFrom]
    rw [e, e1, List.length_cons, Nat.pow_succ]
    have h9 : b.toNat - 48 ≤ 9 := by omega
    have := Nat.mul_le_mul_right (10 ^ r.length) h9
    omega
theorem dg_isD {d : Nat} (h : d < 10) : isD (UInt8.ofNat (48 + d)) = true ∧ (UInt8.ofNat (48 + d)).toNat = 48 + d := by
  have e : (UInt8.ofNat (48 + d)).toNat = 48 + d := by rw [UInt8.toNat_ofNat']; omega
  exact ⟨by unfold isD; rw [e]; simp; omega, e⟩
theorem dec_dgs (n : Nat) : dgs (decDigits n) ∧ val (decDigits n) = n := by
  induction n using Nat.strongRecOn with
  | _ n ih =>
    rw [decDigits]
    by_cases h : n < 10
    · rw [dif_pos h]
      obtain ⟨h1, h2⟩ := dg_isD h
      refine ⟨fun b hb => by rw [List.mem_singleton.1 hb]; exact h1, ?_⟩
      simp [val, valFrom]; omega
    · rw [dif_neg h]
      obtain ⟨h1, h2⟩ := ih (n / 10) (by omega)
      obtain ⟨h3, h4⟩ := dg_isD (d := n % 10) (by omega)
      refine ⟨dgs_app.2 ⟨h1, fun b hb => by rw [List.mem_singleton.1 hb]; exact h3⟩, ?_⟩
      rw [val_app, h2]
      have e1 : val [UInt8.ofNat (48 + n % 10)] = n % 10 := by simp [val, valFrom]; omega
      rw [e1]; simp; omega
theorem dec_ne (n : Nat) : decDigits n ≠ [] := by
  rw [decDigits]; split <;> simp
/-- No nought leads. -/
theorem dec_head (n : Nat) (h : n ≠ 0) : ∀ r, decDigits n ≠ 48 :: r := by
  induction n using Nat.strongRecOn with
  | _ n ih =>
    intro r
    rw [decDigits]
    by_cases h1 : n < 10
    · rw [dif_pos h1]
      intro e
      have := (List.cons.inj e).1
      have h2 := (dg_isD h1).2
      rw [this] at h2
      have : (48 : UInt8).toNat = 48 := rfl
      omega
    · rw [dif_neg h1]
      have hn := dec_ne (n / 10)
      have ih' := ih (n / 10) (by omega) (by omega)
      cases e : decDigits (n / 10) with
      | nil => exact absurd e hn
      | cons x y =>
        rw [List.cons_append]
        intro e2
        exact ih' y (by rw [e, (List.cons.inj e2).1])
theorem dec_trim (z n : Nat) : trimLeftS (List.replicate z 48 ++ decDigits n) [48] = if n = 0 then [] else decDigits n := by
  unfold trimLeftS
  have hz : ∀ (z : Nat) (l : Bs), List.dropWhile (fun x => [(48 : UInt8)].contains x) (List.replicate z 48 ++ l) = List.dropWhile (fun x => [(48 : UInt8)].contains x) l := by
    intro z l
    induction z with
    | zero => rfl
    | succ z ih => rw [List.replicate_succ, List.cons_append, List.dropWhile_cons_of_pos (by simp)]; exact ih
  rw [hz]
  by_cases h : n = 0
  · subst h
    rw [if_pos rfl, decDigits_one (by omega)]; rfl
  · rw [if_neg h]
    have hh := dec_head n h
    cases e : decDigits n with
    | nil => rfl
    | cons x y =>
      rw [List.dropWhile_cons_of_neg]
      simp
      intro e2
      exact hh y (by rw [e, e2])
theorem dec_len (n : Nat) (h : n ≤ 1099511627777) : (decDigits n).length ≤ 13 := by
  rw [decDigits_length]
  rcases Nat.lt_or_ge 13 (nDigits n) with h1 | h1
  · exfalso
    have : ∀ (k u : Nat), k < nDigits u → 10 ^ k ≤ u ∨ u = 0 ∧ k = 0 := by
      intro k
      induction k with
      | zero => intro u _; by_cases h0 : u = 0
                · exact .inr ⟨h0, rfl⟩
                · left; simp; omega
      | succ k ih =>
        intro u hu
        by_cases h10 : u < 10
        · rw [nDigits_small h10] at hu; omega
        · rw [nDigits_big h10] at hu
          rcases ih (u / 10) (by omega) with h2 | ⟨h2, _⟩
          · left; rw [Nat.pow_succ]; omega
          · omega
    rcases this 13 n h1 with h2 | ⟨_, h2⟩
    · omega
    · omega
  · exact h1

/-- The nine digits of a part. -/
def dig9 (p : Nat) : Bs := (decDigits (1000000000 + p)).drop 1
theorem dig9_all (p : Nat) (h : p < 1000000000) : (dig9 p).length = 9 ∧ dgs (dig9 p) ∧ val (dig9 p) = p := by
  have hl : (decDigits (1000000000 + p)).length = 10 := by rw [decDigits_length, nDigits_unique 9 _ (by omega) (by omega)]
  obtain ⟨h1, h2⟩ := dec_dgs (1000000000 + p)
  unfold dig9
  cases e : decDigits (1000000000 + p) with
  | nil => rw [e] at hl; simp at hl
  | cons x y =>
    rw [e] at hl h1 h2
    simp only [List.drop_succ_cons, List.drop_zero]
    have hy : y.length = 9 := by simpa using hl
    have hdy : dgs y := fun b hb => h1 b (by simp [hb])
    have hvy := val_lt y hdy
    have hv : val (x :: y) = val [x] * 10 ^ y.length + val y := val_app [x] y
    rw [hv, hy] at h2
    rw [hy] at hvy
    exact ⟨hy, hdy, by omega⟩
theorem trimR (l : Bs) : ∃ k, l = trimRightS l [48] ++ List.replicate k 48 ∧ k ≤ l.length := by
  have key : ∀ r : Bs, ∃ k, r = List.replicate k 48 ++ r.dropWhile (fun x => [(48 : UInt8)].contains x) ∧ k ≤ r.length := by
    intro r
    induction r with
    | nil => exact ⟨0, rfl, Nat.le_refl _⟩
    | cons x y ih =>
      by_cases hx : x = 48
      · obtain ⟨k, hk, hl⟩ := ih
        refine ⟨k + 1, ?_, by simp; omega⟩
        subst hx
        rw [List.dropWhile_cons_of_pos (by simp), List.replicate_succ, List.cons_append]
        rw [← hk]
      · exact ⟨0, by rw [List.dropWhile_cons_of_neg (by simpa using hx)]; rfl, by simp⟩
  obtain ⟨k, hk, hl⟩ := key l.reverse
  refine ⟨k, ?_, by simpa using hl⟩
  unfold trimRightS
  have := congrArg List.reverse hk
  rw [List.reverse_reverse, List.reverse_append, List.reverse_replicate] at this
  exact this
/-- The part behind the point, as the text has it. -/
def tail9 (p : Nat) : Bs := trimRightS (dig9 p) [48]
theorem tail9_all (p : Nat) (h : p < 1000000000) : ∃ k, dig9 p = tail9 p ++ List.replicate k 48 ∧ (tail9 p).length + k = 9 ∧ dgs (tail9 p) ∧ (0 < p → tail9 p ≠ []) := by
  obtain ⟨h1, h2, h3⟩ := dig9_all p h
  obtain ⟨k, hk, _⟩ := trimR (dig9 p)
  refine ⟨k, hk, ?_, ?_, fun hp e => ?_⟩
  · have := congrArg List.length hk
    rw [h1] at this
    simp at this
    unfold tail9; omega
  · exact dgs_sub h2 fun x hx => by rw [hk]; exact List.mem_append_left _ hx
  · have e2 : dig9 p = List.replicate k 48 := by
      rw [hk]; unfold tail9 at e; rw [e]; rfl
    have hz : ∀ k, val (List.replicate k (48 : UInt8)) = 0 := by
      intro k
      induction k with
      | zero => rfl
      | succ k ih =>
        have : val ((48 : UInt8) :: List.replicate k 48) = val [48] * 10 ^ (List.replicate k (48 : UInt8)).length + val (List.replicate k 48) := val_app [48] _
        rw [List.replicate_succ, this, ih]; simp [val, valFrom]
    rw [e2, hz] at h3; omega

/-- A time: seconds, and nanoseconds behind them. -/
def Ok (s n : Int) : Prop := -1099511627776 ≤ s ∧ s ≤ 1099511627776 ∧ 0 ≤ n ∧ n < 1000000000
/-- What stands ahead of the point, and what behind, without the sign. -/
def whl (s n : Int) : Nat := if s < 0 then (if 0 < n then (-s - 1).toNat else (-s).toNat) else s.toNat
def prt (s n : Int) : Nat := if s < 0 then (if 0 < n then (1000000000 - n).toNat else 0) else n.toNat
def sgn (s : Int) : Bs := if s < 0 then [45] else []
def text (s n : Int) : Bs := sgn s ++ decDigits (whl s n) ++ (if 0 < prt s n then 46 :: tail9 (prt s n) else [])
theorem whl_le {s n : Int} (h : Ok s n) : whl s n ≤ 1099511627776 ∧ prt s n < 1000000000 := by
  obtain ⟨h1, h2, h3, h4⟩ := h
  unfold whl prt
  constructor
  · split
    · split <;> omega
    · omega
  · split
    · split <;> omega
    · omega

def under (s n : Int) (more : Bool) : Int × Int :=
  let n1 := if more then n + 1 else n
  if 0 < n1 then (-s - 1, 1000000000 - n1) else (-s, n1)
theorem under_t (a b : Int) : under a b true = if 0 < b + 1 then (-a - 1, 1000000000 - (b + 1)) else (-a, b + 1) := rfl
theorem under_f (a b : Int) : under a b false = if 0 < b then (-a - 1, 1000000000 - b) else (-a, b) := rfl
def okB (x : Int × Int) : Bool := decide (-1099511627776 ≤ x.1) && decide (x.1 ≤ 1099511627776) && decide (0 ≤ x.2) && decide (x.2 < 1000000000)
def digB (l : Bs) : Bool := !(l == []) && l.all isD
def nine (part : Bs) : Bs := (part ++ List.replicate 9 48).take 9
/-- What is read behind the sign: whole and part. -/
def read (below : Bool) (whole part : Bs) : Int × Int :=
  if below then under (val (trimLeftS whole [48])) (val (nine part)) (decide (9 < part.length) && !(trimS (part.drop 9) [48] == [])) else (val (trimLeftS whole [48]), val (nine part))
def rest (s : Bs) : Bs := if [45].isPrefixOf s then s.drop 1 else s
theorem digB_of {l : Bs} (h : dgs l) (h0 : l ≠ []) : digB l = true := by
  unfold digB
  rw [Bool.and_eq_true, List.all_eq_true]
  exact ⟨by simpa using h0, h⟩
theorem dot_no {l : Bs} (h : dgs l) : (46 : UInt8) ∉ l ∧ (45 : UInt8) ∉ l := by
  constructor
  · intro hm; have := h _ hm; exact absurd this (by decide)
  · intro hm; have := h _ hm; exact absurd this (by decide)
theorem cut_no {l : Bs} (h : (46 : UInt8) ∉ l) : cut l [46] = (l, [], false) := by
  have e : index l [46] = -1 := by
    rw [index_one]
    have hge := indexByte_ge l 46
    rcases Int.lt_or_le (indexByte l 46) 0 with h1 | h1
    · omega
    · exfalso
      obtain ⟨i, hi⟩ := Int.eq_ofNat_of_zero_le h1
      exact h (List.mem_of_getElem? (indexByte_some hi).1)
  unfold cut; rw [e]; rfl
theorem cut_at {a b : Bs} (h : (46 : UInt8) ∉ a) : cut (a ++ 46 :: b) [46] = (a, b, true) := by
  have e : index (a ++ 46 :: b) [46] = a.length := by
    rw [index_one]
    induction a with
    | nil => rfl
    | cons x r ih =>
      rw [List.mem_cons, not_or] at h
      rw [List.cons_append]
      unfold indexByte
      have hx : (x == 46) = false := by simpa using fun e => h.1 e.symm
      rw [hx, ih h.2, if_neg (by simp), if_neg (by simp)]
      simp
  unfold cut
  rw [e, if_pos (by omega)]
  simp
theorem nine_of {a : Bs} {k : Nat} (h : a.length + k = 9) : nine a = a ++ List.replicate k 48 := by
  unfold nine
  rw [List.take_append, List.take_of_length_le (by omega), List.take_replicate]
  congr 2; omega
theorem val_trim (z n : Nat) : val (trimLeftS (List.replicate z 48 ++ decDigits n) [48]) = n := by
  rw [dec_trim]
  split
  · rename_i h; subst h; rfl
  · exact (dec_dgs n).2
theorem zeros_dgs (z : Nat) : dgs (List.replicate z 48) := fun b hb => by rw [(List.mem_replicate.1 hb).2]; decide

theorem okB_of {s n : Int} (h : Ok s n) : okB (s, n) = true := by
  obtain ⟨a, b, c, d⟩ := h
  unfold okB
  simp only [decide_eq_true a, decide_eq_true b, decide_eq_true c, decide_eq_true d, Bool.and_self]
theorem under_back {s n : Int} (h : Ok s n) (hs : s < 0) : under (whl s n) (prt s n) false = (s, n) := by
  obtain ⟨a, b, c, d⟩ := h
  unfold under whl prt
  rw [if_pos hs, if_pos hs]
  by_cases hn : 0 < n
  · rw [if_pos hn, if_pos hn]
    simp only [Bool.false_eq_true, if_false]
    rw [if_pos (by omega)]
    congr 1 <;> omega
  · rw [if_neg hn, if_neg hn]
    simp only [Bool.false_eq_true, if_false]
    rw [if_neg (by omega)]
    congr 1 <;> omega
theorem sgn_eq (s : Int) : sgn s = if decide (s < 0) then [45] else [] := by
  unfold sgn
  by_cases h : s < 0
  · rw [if_pos h, decide_eq_true h]; rfl
  · rw [if_neg h, decide_eq_false h]; rfl
/-- What is read of noughts, a time's digits, and digits more. -/
theorem read_at {s n : Int} (h : Ok s n) (z : Nat) (part : Bs) (hv : val (nine part) = prt s n) (hm : (decide (9 < part.length) && !(trimS (part.drop 9) [48] == [])) = false ∨ ¬ s < 0) :
    read (decide (s < 0)) (List.replicate z 48 ++ decDigits (whl s n)) part = (s, n) := by
  unfold read
  rw [val_trim, hv]
  by_cases hs : s < 0
  · rw [decide_eq_true hs, if_pos rfl, hm.resolve_right (fun k => k hs)]
    exact under_back h hs
  · rw [decide_eq_false hs, if_neg (by simp)]
    obtain ⟨a, b, c, d⟩ := h
    unfold whl prt
    rw [if_neg hs, if_neg hs]
    congr 1 <;> omega
end Stp

set_option linter.unusedVariables false
set_option linter.unusedSimpArgs false
namespace Go.Proofs.YtkhkjacnoiopcaaGreatDoor
open Go Pk

abbrev Bl := List UInt8

/-- Where a name of more than 100 bytes may be split. -/
def spI (l : Bl) (i : Nat) : Bool := (l[i]? == some 47) && decide (1 ≤ i ∧ i ≤ 155 ∧ i + 2 ≤ l.length ∧ l.length ≤ i + 101)
/-- A name in two. -/
def splitN (l : Bl) : Option (Bl × Bl) := if l.length ≤ 100 then some ([], l) else ((List.range l.length).find? (spI l)).map fun i => (l.take i, l.drop (i + 1))
/-- A header with another name. -/
def namedR (d : Nat) (r : HRaw) (n : Bl) : Option HRaw :=
  if d = 2 ∨ d = 4 then (splitN n).map fun p => { r with front := p.1, name := p.2 }
  else if n.length ≤ 100 then some { r with front := [], name := n } else none

open Classical in
/-- A header's block, if the dialect has room. -/
noncomputable def headB (d : Nat) (r : HRaw) : Option Bl := if h : ∃ l, HWrite d r l then some h.choose else none
theorem headB_some {d : Nat} {r : HRaw} {l : Bl} : headB d r = some l ↔ HWrite d r l := by
  unfold headB
  constructor
  · intro h
    split at h
    · rename_i hx
      cases h
      exact hx.choose_spec
    · cases h
  · intro h
    have hx : ∃ l, HWrite d r l := ⟨l, h⟩
    rw [dif_pos hx, write_one hx.choose_spec h]
theorem headB_none {d : Nat} {r : HRaw} : headB d r = none ↔ ∀ l, ¬ HWrite d r l := by
  constructor
  · intro h l hl
    rw [headB_some.2 hl] at h
    cases h
  · intro h
    cases hb : headB d r with
    | none => rfl
    | some l => exact absurd (headB_some.1 hb) (h l)

/-- A header with a name and a link, and bytes, filled. -/
noncomputable def writtenM (d : Nat) (r : HRaw) (name link bytes : Bl) : Option Bl :=
  (namedR d { r with link := link } name).bind fun r => (headB d r).map fun h => h ++ Bk.fill bytes
/-- The fields of the plain member. -/
def plainM (e : Ent) : HRaw := ⟨[], [], e.user, e.group, [], e.kind.toUInt8, e.mode, e.uid, e.gid, e.data.length, e.sec, e.major, e.minor⟩
def nameM (e : Ent) : Bl := if e.kind = 53 then e.name ++ [47] else e.name
def isDev (k : Nat) : Bool := k == 51 || k == 52

noncomputable def oldM (d : Nat) (e : Ent) : Option Bl :=
  if sparse e = true ∨ e.nano ≠ 0 then none
  else if d = 1 then
    if isDev e.kind = true ∨ e.kind = 54 then none
    else writtenM 1 { plainM e with kind := if e.kind = 53 then 48 else e.kind.toUInt8 } (nameM e) e.link e.data
  else writtenM d (plainM e) (nameM e) e.link e.data

def longName : Bl := [46, 47, 46, 47, 64, 76, 111, 110, 103, 76, 105, 110, 107]
def bareR (k : UInt8) (n : Nat) : HRaw := ⟨[], [], [], [], [], k, 0, 0, 0, n, 0, 0, 0⟩
/-- A long text's own header and bytes, and what the header has of it. -/
noncomputable def longM (s : Bl) (k : UInt8) : Option (Bl × Bl) :=
  if s.length ≤ 100 then some ([], s)
  else (writtenM 3 (bareR k (s.length + 1)) longName [] (s ++ [0])).map fun h => (h, s.take 100)

def digitsM (n : Int) : Bl := Num.octal n.toNat 12
def pieceM (p : Int × Int) : Bl := digitsM p.1 ++ digitsM p.2
/-- A row of pieces. -/
def rowM (l : List (Int × Int)) (many : Nat) : Bl := (l.take many).flatMap pieceM ++ List.replicate (24 * (many - l.length)) 0
def moreM (l : List (Int × Int)) (many : Nat) : UInt8 := if many < l.length then 1 else 0
def holesHeadM (h : Bl) (e : Ent) : Bl := h.take 386 ++ (rowM e.map 4 ++ [moreM e.map 4] ++ digitsM e.size) ++ h.drop 495
def holesBlocksF : Nat → List (Int × Int) → Bl
  | 0, _ => []
  | f + 1, l => if l = [] then [] else Bk.fill (rowM l 21 ++ [moreM l 21]) ++ holesBlocksF f (l.drop 21)
def holesBlocksM (l : List (Int × Int)) : Bl := holesBlocksF l.length l
noncomputable def gnuM (e : Ent) : Option Bl :=
  if e.nano ≠ 0 then none
  else (longM e.link 75).bind fun lk => (longM (nameM e) 76).bind fun nm =>
    if sparse e = false then (writtenM 3 (plainM e) nm.2 lk.2 e.data).map fun s => lk.1 ++ nm.1 ++ s
    else (writtenM 3 { plainM e with kind := 83 } nm.2 lk.2 []).map fun h => lk.1 ++ nm.1 ++ Bk.sld (holesHeadM h e) ++ holesBlocksM (e.map.drop 4) ++ Bk.fill e.data

def decM (n : Int) : Bl := Lib.decDigits n.toNat
def kMajor : Bl := [71, 78, 85, 46, 115, 112, 97, 114, 115, 101, 46, 109, 97, 106, 111, 114]
def kMinor : Bl := [71, 78, 85, 46, 115, 112, 97, 114, 115, 101, 46, 109, 105, 110, 111, 114]
def kReal : Bl := [71, 78, 85, 46, 115, 112, 97, 114, 115, 101, 46, 114, 101, 97, 108, 115, 105, 122, 101]
def kGid : Bl := [103, 105, 100]
def kUid : Bl := [117, 105, 100]
def kLink : Bl := [108, 105, 110, 107, 112, 97, 116, 104]
def kTime : Bl := [109, 116, 105, 109, 101]
def kPath : Bl := [112, 97, 116, 104]
def timeIn (s : Int) : Bool := decide (0 ≤ s ∧ s ≤ 8589934591)
/-- The records of a member. -/
def recordsM (e : Ent) : List Px.Rec :=
  (if sparse e then [(kMajor, [49]), (kMinor, [48]), (kReal, decM e.size)] else []) ++
  (if 2097151 < e.gid then [(kGid, decM e.gid)] else []) ++
  (if 100 < e.link.length then [(kLink, e.link)] else []) ++
  (if e.nano ≠ 0 ∨ timeIn e.sec = false then [(kTime, Stp.text e.sec e.nano)] else []) ++
  (if splitN (nameM e) = none then [(kPath, nameM e)] else []) ++
  (if 2097151 < e.uid then [(kUid, decM e.uid)] else [])
def linesM (l : List (Int × Int)) : Bl := Bk.fill (Lib.decDigits l.length ++ 10 :: l.flatMap fun p => decM p.1 ++ 10 :: (decM p.2 ++ [10]))
def extName : Bl := [80, 97, 120, 72, 101, 97, 100, 101, 114]
def pxName : Bl := [80, 97, 120, 78, 97, 109, 101]
noncomputable def extM (e : Ent) : Option Bl := if recordsM e = [] then some [] else writtenM 4 (bareR 120 (Px.texts (recordsM e)).length) extName [] (Px.texts (recordsM e))
def paxData (e : Ent) : Bl := if sparse e then linesM e.map ++ e.data else e.data
def paxR (e : Ent) : HRaw := { plainM e with uid := if 2097151 < e.uid then 0 else e.uid, gid := if 2097151 < e.gid then 0 else e.gid, time := if timeIn e.sec then e.sec else 0, size := (paxData e).length }
def paxName (e : Ent) : Bl := if splitN (nameM e) = none then pxName else nameM e
noncomputable def paxM (e : Ent) : Option Bl := (extM e).bind fun o => (writtenM 4 (paxR e) (paxName e) (e.link.take 100) (paxData e)).map fun s => o ++ s

/-- A member of a dialect. -/
noncomputable def memM (d : Nat) (e : Ent) : Option Bl :=
  if rightE e = false then none else if d = 3 then gnuM e else if d = 4 then paxM e else oldM d e

end Go.Proofs.YtkhkjacnoiopcaaGreatDoor

set_option linter.unusedVariables false
set_option linter.unusedSimpArgs false

namespace Px
abbrev Bs := List UInt8

/-- The last value of a key. -/
def lastV : List Rec → Bs → Option Bs
  | [], _ => none
  | p :: r, x => (lastV r x).or (if p.1 = x then some p.2 else none)
theorem lastV_app (a b : List Rec) (x : Bs) : lastV (a ++ b) x = (lastV b x).or (lastV a x) := by
  induction a with
  | nil => simp [lastV]
  | cons p a ih => simp only [List.cons_append, lastV, ih, Option.or_assoc]
theorem lastV_snoc (a : List Rec) (p : Rec) (x : Bs) : lastV (a ++ [p]) x = if p.1 = x then some p.2 else lastV a x := by
  rw [lastV_app]
  by_cases h : p.1 = x <;> simp [lastV, h]
theorem lastV_mem {l : List Rec} {x v : Bs} (h : lastV l x = some v) : (x, v) ∈ l := by
  induction l with
  | nil => cases h
  | cons p l ih =>
    unfold lastV at h
    cases hl : lastV l x with
    | some u => rw [hl] at h; cases h; exact List.mem_cons_of_mem _ (ih hl)
    | none =>
      rw [hl] at h
      by_cases hp : p.1 = x
      · simp [hp] at h; subst h; subst hp; exact List.mem_cons_self ..
      · simp [hp] at h
theorem lastV_none {l : List Rec} {x : Bs} : lastV l x = none ↔ ∀ p ∈ l, p.1 ≠ x := by
  induction l with
  | nil => simp [lastV]
  | cons p l ih =>
    simp only [lastV, Option.or_eq_none_iff, ih, List.mem_cons, forall_eq_or_imp]
    by_cases h : p.1 = x <;> simp [h]
/-- of a list in which no key stands twice. -/
theorem lastV_apart {l : List Rec} (h : l.Pairwise fun p q => p.1 ≠ q.1) (x v : Bs) : lastV l x = some v ↔ (x, v) ∈ l := by
  refine ⟨lastV_mem, fun hm => ?_⟩
  induction l with
  | nil => cases hm
  | cons p l ih =>
    rw [List.pairwise_cons] at h
    rcases List.mem_cons.1 hm with rfl | hm
    · have : lastV l x = none := lastV_none.2 fun q hq e => h.1 q hq e.symm
      simp [lastV, this]
    · simp [lastV, ih h.2 hm]

/-- M is what is merged of l. -/
def IsMerge (l M : List Rec) : Prop := (M.Pairwise fun p q => p.1 < q.1) ∧ ∀ k v, (k, v) ∈ M ↔ lastV l k = some v ∧ v ≠ []
theorem lt_ne {a b : Bs} (h : a < b) : a ≠ b := fun e => by subst e; exact List.lt_irrefl a h
theorem IsMerge.apart {l M : List Rec} (h : IsMerge l M) : M.Pairwise fun p q => p.1 ≠ q.1 := h.1.imp lt_ne
theorem apart_nodup {M : List Rec} (h : M.Pairwise fun p q => p.1 ≠ q.1) : M.Nodup := h.imp fun h e => h (by rw [e])
theorem merge_unique {l l' M M' : List Rec} (h : IsMerge l M) (h' : IsMerge l' M') (he : ∀ x, lastV l x = lastV l' x) : M = M' := by
  have hp : M.Perm M' := (List.perm_ext_iff_of_nodup (apart_nodup h.apart) (apart_nodup h'.apart)).2 fun p => by
    obtain ⟨k, v⟩ := p
    rw [h.2, h'.2, he]
  exact hp.eq_of_pairwise (le := fun p q => p.1 < q.1) (fun a b _ _ h1 h2 => absurd h2 (fun h2 => List.lt_irrefl _ (List.lt_trans h1 h2))) h.1 h'.1
theorem IsMerge.last {l M : List Rec} (h : IsMerge l M) (x : Bs) : lastV M x = (lastV l x).bind fun v => if v = [] then none else some v := by
  cases hl : lastV l x with
  | none =>
    simp only [Option.bind_none]
    cases hm : lastV M x with
    | none => rfl
    | some v =>
      have := (h.2 x v).1 (lastV_mem hm)
      rw [hl] at this; cases this.1
  | some v =>
    simp only [Option.bind_some]
    by_cases hv : v = []
    · rw [if_pos hv]
      cases hm : lastV M x with
      | none => rfl
      | some u =>
        obtain ⟨h1, h2⟩ := (h.2 x u).1 (lastV_mem hm)
        rw [hl] at h1; cases h1; exact absurd hv h2
    · rw [if_neg hv]
      exact (lastV_apart h.apart x v).2 ((h.2 x v).2 ⟨hl, hv⟩)
theorem IsMerge.val {l M : List Rec} (h : IsMerge l M) {p : Rec} (hp : p ∈ M) : p.2 ≠ [] := ((h.2 p.1 p.2).1 hp).2

/-- What Get says. -/
def getV (l : List Rec) (x : Bs) : Bs × Bool := match lastV l x with | some v => (v, v != []) | none => ([], false)
theorem IsMerge.get {l M : List Rec} (h : IsMerge l M) (x : Bs) : getV M x = getV l x := by
  unfold getV
  rw [h.last]
  cases hl : lastV l x with
  | none => rfl
  | some v =>
    by_cases hv : v = []
    · subst hv; rfl
    · simp [hv]
/-- What the map's entries come to. -/
theorem merge_of {l ps M : List Rec} (hps : ps.Pairwise fun p q => p.1 ≠ q.1) (hm : ∀ k v, (k, v) ∈ ps ↔ lastV l k = some v) (hp : M.Perm (ps.filter fun p => p.2 != [])) (hs : M.Pairwise fun p q => ¬ q.1 < p.1) : IsMerge l M := by
  have hap : M.Pairwise fun p q => p.1 ≠ q.1 := (hp.pairwise_iff (fun h e => h e.symm)).2 (hps.filter _)
  refine ⟨(hs.and hap).imp fun h => Decidable.byContradiction fun h' => h.2 (List.le_antisymm h.1 h'), fun k v => ?_⟩
  rw [hp.mem_iff, List.mem_filter, hm]
  simp
end Px

set_option linter.unusedVariables false
set_option linter.unusedSimpArgs false
namespace Go.Proofs.YtkhkjacnoiopcaaGreatDoor
open Go Pk

theorem hread_one {b : Bl} {r r' : HRaw} {D D' : Nat} (h : HRead b r D) (h' : HRead b r' D') : r = r' := by
  obtain ⟨rfl, k, n, z, n1, n2, n3, n4, n5⟩ := h
  obtain ⟨e, k', n', z', n1', n2', n3', n4', n5'⟩ := h'
  subst e
  have hn : ∀ i, i < manyD (dialectL b) → (r.nums[i]?.getD 0) = (r'.nums[i]?.getD 0) := fun i hi => Option.some.inj ((n i hi).symm.trans (n' i hi))
  have h5 : 5 ≤ manyD (dialectL b) := by unfold manyD; split <;> omega
  have e0 := hn 0 (by omega)
  have e1 := hn 1 (by omega)
  have e2 := hn 2 (by omega)
  have e3 := hn 3 (by omega)
  have e4 := hn 4 (by omega)
  have e56 : r.major = r'.major ∧ r.minor = r'.minor := by
    by_cases hd : dialectL b = 1
    · rw [(z hd).1, (z hd).2, (z' hd).1, (z' hd).2]; exact ⟨rfl, rfl⟩
    · have h7 : manyD (dialectL b) = 7 := by unfold manyD; rw [if_neg hd]
      exact ⟨hn 5 (by omega), hn 6 (by omega)⟩
  obtain ⟨a1, a2, a3, a4, a5, a6, a7, a8, a9, a10, a11, a12, a13⟩ := r
  obtain ⟨b1, b2, b3, b4, b5, b6, b7, b8, b9, b10, b11, b12, b13⟩ := r'
  simp only [HRaw.nums, List.getElem?_cons_zero, List.getElem?_cons_succ, Option.getD_some] at *
  obtain ⟨e5, e6⟩ := e56
  subst_vars
  simp_all
open Classical in
/-- What a block tells as a header. -/
noncomputable def hdrB (b : Bl) : Option HRaw := if h : rightL b = true ∧ (fld b 156 1).headD 0 ≠ 0 ∧ ∃ r D, HRead b r D then some h.2.2.choose else none
theorem hdrB_is {b : Bl} {r : HRaw} (h : hdrB b = some r) : rightL b = true ∧ (fld b 156 1).headD 0 ≠ 0 ∧ ∃ D, HRead b r D := by
  unfold hdrB at h
  split at h
  · rename_i hx
    cases h
    exact ⟨hx.1, hx.2.1, hx.2.2.choose_spec⟩
  · cases h
theorem hdrB_mk {b : Bl} {r : HRaw} {D : Nat} (h1 : rightL b = true) (h2 : (fld b 156 1).headD 0 ≠ 0) (h3 : HRead b r D) : hdrB b = some r := by
  have hx : rightL b = true ∧ (fld b 156 1).headD 0 ≠ 0 ∧ ∃ r D, HRead b r D := ⟨h1, h2, r, D, h3⟩
  unfold hdrB
  rw [dif_pos hx]
  obtain ⟨D', h'⟩ := hx.2.2.choose_spec
  rw [hread_one h' h3]

/-- So many bytes from a place on, if they are there, filled. -/
def bytesP (s : Bl) (a : Nat) (n : Int) : Option Bl := if 0 ≤ n ∧ (a : Int) + n + Bk.pad n.toNat ≤ s.length then some (fld s a n.toNat) else none
/-- What a reader holds. -/
structure Rd where
  off : Nat
  name : Option Bl
  link : Option Bl
  own : List Px.Rec
  glob : List Px.Rec
open Classical in
noncomputable def mergeP (l : List Px.Rec) : List Px.Rec := if h : ∃ M, Px.IsMerge l M then h.choose else []
theorem mergeP_is {l M : List Px.Rec} (h : Px.IsMerge l M) : mergeP l = M := by
  have hx : ∃ M, Px.IsMerge l M := ⟨M, h⟩
  unfold mergeP
  rw [dif_pos hx]
  exact Px.merge_unique hx.choose_spec h fun _ => rfl
def behindP (a : Nat) (n : Int) : Nat := a + 512 + n.toNat + Bk.pad n.toNat
/-- What a header says of the next one. -/
noncomputable def extraP (s : Bl) (st : Rd) (r : HRaw) : Option Rd :=
  if 4000 < r.size then none
  else (bytesP s (st.off + 512) r.size).bind fun t =>
    if r.kind = 76 then some { st with name := some (upTo0 t), off := behindP st.off r.size }
    else if r.kind = 75 then some { st with link := some (upTo0 t), off := behindP st.off r.size }
    else (Px.read t).map fun l => if r.kind = 120 then { st with own := l, off := behindP st.off r.size } else { st with glob := mergeP (st.glob ++ l), off := behindP st.off r.size }
def decimalP (v : Bl) : Option Int := if Stp.digB v = true ∧ v.length ≤ 15 then some (Stp.val v) else none
open Classical in
noncomputable def timeP (v : Bl) : Option (Int × Int) := if h : ∃ x : Int × Int, Stp.Ok x.1 x.2 ∧ v = Stp.text x.1 x.2 then some h.choose else none
def kUser : Bl := [117, 110, 97, 109, 101]
def kGroup : Bl := [103, 110, 97, 109, 101]
noncomputable def applyOne (e : Ent) (p : Px.Rec) : Option Ent :=
  if p.1 = kPath then some { e with name := p.2 }
  else if p.1 = kLink then some { e with link := p.2 }
  else if p.1 = kUser then some { e with user := p.2 }
  else if p.1 = kGroup then some { e with group := p.2 }
  else if p.1 = kTime then (timeP p.2).map fun x => { e with sec := x.1, nano := x.2 }
  else if p.1 = kUid then (decimalP p.2).map fun n => { e with uid := n }
  else if p.1 = kGid then (decimalP p.2).map fun n => { e with gid := n }
  else some e
/-- Records applied to a member. -/
noncomputable def applyP : List Px.Rec → Ent → Option Ent
  | [], e => some e
  | p :: l, e => (applyOne e p).bind (applyP l)
def piecesF (s : Bl) : Nat → Nat → List (Int × Int) → Option (List (Int × Int))
  | 0, _, m => some m
  | f + 1, i, m => (rd (fld s (24 * i) 12)).bind fun a => (rd (fld s (24 * i + 12) 12)).bind fun n => if n = 0 then some m else if m.length = 20 then none else piecesF s f (i + 1) (m ++ [(a, n)])
def moreF (s : Bl) : Nat → Nat → Bool → List (Int × Int) → Option (List (Int × Int) × Nat)
  | _, next, false, m => some (m, next)
  | 0, _, true, _ => none
  | f + 1, next, true, m => if s.length < next + 512 then none else (piecesF (fld s next 512) 21 0 m).bind fun m => moreF s f (next + 512) (fld (fld s next 512) 504 1 != [0]) m
/-- A member's pieces, its size, and where its data begin. -/
def holesP (s : Bl) (off : Nat) : Option (List (Int × Int) × Int × Nat) :=
  (piecesF ((fld s off 512).drop 386) 4 0 []).bind fun m => (rd (fld (fld s off 512) 483 12)).bind fun n =>
    (moreF s s.length (off + 512) (fld (fld s off 512) 482 1 != [0]) m).map fun x => (x.1, n, x.2)
def lineP (t : Bl) : Option (Int × Bl) := if (Px.cut1 10 t).2.2 = true then (decimalP (Px.cut1 10 t).1).map fun n => (n, (Px.cut1 10 t).2.1) else none
def pairsF : Nat → Bl → List (Int × Int) → Option (List (Int × Int) × Bl)
  | 0, t, m => some (m, t)
  | f + 1, t, m => (lineP t).bind fun a => (lineP a.2).bind fun n => pairsF f n.2 (m ++ [(a.1, n.1)])
/-- The pieces from the lines ahead of the data. -/
def mappedP (l : List Px.Rec) (data : Bl) : Option (Int × List (Int × Int) × Bl) :=
  (decimalP (Px.getV l kReal).1).bind fun size => (lineP data).bind fun x => if 20 < x.1 then none
    else (pairsF x.1.toNat x.2 []).bind fun y =>
      if data.length < data.length - y.2.length + Bk.pad (data.length - y.2.length) then none
      else some (size, y.1, data.drop (data.length - y.2.length + Bk.pad (data.length - y.2.length)))
def trimS (l : Bl) : Bl := (l.reverse.dropWhile (· == 47)).reverse
/-- A member's kind, by its name too. -/
def kindS (e : Ent) : Nat := if e.kind = 48 ∧ e.name.getLast? = some 47 then 53 else e.kind
/-- A member without what its kind does not have. -/
def settledP (e : Ent) : Ent :=
  ⟨if kindS e = 53 then trimS e.name else e.name, kindS e, e.mode, e.uid, e.gid, if kindS e = 48 then e.size else 0, e.sec, e.nano, if kindS e = 49 ∨ kindS e = 50 then e.link else [], e.user, e.group,
    if isDev (kindS e) = true then e.major else 0, if isDev (kindS e) = true then e.minor else 0, if kindS e = 48 then e.data else [], if kindS e = 48 then e.map else []⟩
def fullR (r : HRaw) : Bl := if r.front = [] then r.name else r.front ++ 47 :: r.name
def firstE (st : Rd) (r : HRaw) : Ent :=
  ⟨st.name.getD (fullR r), if r.kind = 55 then 48 else r.kind.toNat, r.mode, r.uid, r.gid, r.size, r.time, 0, st.link.getD r.link, r.user, r.group, r.major, r.minor, [], []⟩
noncomputable def recsP (st : Rd) : List Px.Rec := mergeP (st.glob ++ st.own)
def heldP (s : Bl) (off : Nat) (e : Ent) : Option (Ent × Nat) := if e.kind = 83 then (holesP s off).map fun x => ({ e with kind := 48, map := x.1, size := x.2.1 }, x.2.2) else some (e, off + 512)
def linedP (l : List Px.Rec) (e : Ent) : Option Ent := if e.kind = 48 ∧ (Px.getV l kMajor).1 = [49] then (mappedP l e.data).map fun x => { e with size := x.1, map := x.2.1, data := x.2.2 } else some e
/-- The member itself. -/
noncomputable def memberP (s : Bl) (st : Rd) (r : HRaw) : Option (Ent × Nat) :=
  (applyP (recsP st) (firstE st r)).bind fun e => (heldP s st.off e).bind fun x =>
    if 14240 < r.size then none
    else (bytesP s x.2 r.size).bind fun data => (linedP (recsP st) { x.1 with data := data }).bind fun e =>
      if rightE (settledP e) = true then some (settledP e, x.2 + r.size.toNat + Bk.pad r.size.toNat) else none
def isMore (k : UInt8) : Bool := k == 76 || k == 75 || k == 120 || k == 103
/-- The member that begins at a place. -/
noncomputable def readF (s : Bl) : Nat → Rd → Option (Ent × Nat × List Px.Rec)
  | 0, _ => none
  | f + 1, st => if s.length < st.off + 512 then none else (hdrB (fld s st.off 512)).bind fun r =>
    if isMore r.kind then (extraP s st r).bind (readF s f) else (memberP s st r).map fun x => (x.1, x.2, st.glob)
end Go.Proofs.YtkhkjacnoiopcaaGreatDoor
