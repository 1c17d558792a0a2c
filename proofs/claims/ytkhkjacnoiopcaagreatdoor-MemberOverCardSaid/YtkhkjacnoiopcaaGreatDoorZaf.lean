/-
  Pieces of sparse files: plain lists of bytes, no program in sight.
-/
import Derived.Test.YtkhkjacnoiopcaaGreatDoorZae
import Derived.Lib.ItoaNum
import Derived.Lib.Atoi
set_option linter.unusedVariables false
set_option linter.unusedSimpArgs false

namespace Hol

/-- A piece: where it stands, and how many bytes it has. -/
abbrev Pc := Nat × Nat

/-- the bytes of a piece -/
def cut (l : List UInt8) (p : Pc) : List UInt8 := (l.drop p.1).take p.2
/-- pieces that lie ahead of n, one behind the other, not even side by side; the last one first -/
def Ord : Nat → List Pc → Prop
  | _, [] => True
  | n, (a, s) :: r => 1 ≤ s ∧ a + s ≤ n ∧ (match r with | [] => True | (b, t) :: _ => b + t < a) ∧ Ord a r
theorem Ord.mono {m n : Nat} {r : List Pc} (h : Ord m r) (hmn : m ≤ n) : Ord n r := by
  cases r with
  | nil => trivial
  | cons p r => obtain ⟨a, s⟩ := p; exact ⟨h.1, by have := h.2.1; omega, h.2.2⟩

/-- a block more, that is not 0, at place a -/
def push (acc : List Pc) (a n : Nat) : List Pc := match acc with
  | [] => [(a, n)]
  | (b, s) :: r => if b + s = a then (b, s + n) :: r else (a, n) :: (b, s) :: r
def zeros (l : List UInt8) : Bool := l.all (· == 0)
/-- block k -/
def blk (l : List UInt8) (st k : Nat) : List UInt8 := (l.drop (k * st)).take st
/-- the pieces of the first k blocks, the last one first -/
def acc (l : List UInt8) (st : Nat) : Nat → List Pc
  | 0 => []
  | k + 1 => if zeros (blk l st k) then acc l st k else push (acc l st k) (k * st) (blk l st k).length
/-- how many blocks -/
def rounds (n st : Nat) : Nat := (n + st - 1) / st
def find (l : List UInt8) (st : Nat) : List Pc := (acc l st (rounds l.length st)).reverse

/-! ### Put and Take -/

/-- pieces one behind the other, from lo on, not side by side, all ahead of n -/
def Asc (n : Nat) : Nat → List Pc → Prop
  | _, [] => True
  | lo, (a, s) :: r => 1 ≤ s ∧ lo ≤ a ∧ a + s ≤ n ∧ Asc n (a + s + 1) r
theorem Asc.snoc {n : Nat} : ∀ {r : List Pc} {lo a s : Nat}, Asc a lo r → 1 ≤ s → (∀ p ∈ r, p.1 + p.2 < a) → lo ≤ a → a + s ≤ n → Asc n lo (r ++ [(a, s)])
  | [], _, _, _, _, h1, _, h3, h4 => ⟨h1, h3, h4, trivial⟩
  | (b, t) :: r, lo, a, s, h, h1, h2, h3, h4 => by
    have hb := h2 (b, t) (List.mem_cons_self ..)
    simp only at hb
    exact ⟨h.1, h.2.1, by omega, Asc.snoc h.2.2.2 h1 (fun p hp => h2 p (List.mem_cons_of_mem _ hp)) (by omega) h4⟩
theorem Ord.ends : ∀ {r : List Pc} {n : Nat}, Ord n r → ∀ p ∈ r, p.1 + p.2 ≤ n
  | [], _, _, p, hp => by cases hp
  | (a, s) :: r, n, h, p, hp => by
    rcases List.mem_cons.1 hp with rfl | hp
    · exact h.2.1
    · have := Ord.ends h.2.2.2 p hp
      have := h.2.1
      omega
theorem Ord.apart {a s n : Nat} {r : List Pc} (h : Ord n ((a, s) :: r)) : ∀ p ∈ r, p.1 + p.2 < a := by
  obtain ⟨_, _, h3, h4⟩ := h
  cases r with
  | nil => intro p hp; cases hp
  | cons q r =>
    obtain ⟨b, t⟩ := q
    intro p hp
    rcases List.mem_cons.1 hp with rfl | hp
    · exact h3
    · have := Ord.ends h4.2.2.2 p hp
      have h5 : b + t < a := h3
      omega
def take (l : List UInt8) (ps : List Pc) : List UInt8 := ps.flatMap (cut l)
def size (ps : List Pc) : Nat := (ps.map (·.2)).sum
def splice (b : List UInt8) (a : Nat) (d : List UInt8) : List UInt8 := b.take a ++ d ++ b.drop (a + d.length)
def putGo (b data : List UInt8) : List Pc → List UInt8
  | [] => b
  | (a, s) :: r => putGo (splice b a (data.take s)) (data.drop s) r
def put (data : List UInt8) (ps : List Pc) (n : Nat) : List UInt8 := putGo (List.replicate n 0) data ps

/-! ### Two texts, the first one of whole blocks -/
end Hol

set_option linter.unusedVariables false
set_option linter.unusedSimpArgs false
namespace Hol

def castP (p : Pc) : Int × Int := ((p.1 : Int), (p.2 : Int))
/-- pieces behind lo (the end of the one ahead; -1: there is none) -/
def rightGo (size : Int) : Int → List (Int × Int) → Bool
  | _, [] => true
  | lo, (a, s) :: r => if s < 1 ∨ a < 0 ∨ size < s ∨ size - s < a then false else if a ≤ lo then false else rightGo size (a + s) r
def rightI (ps : List (Int × Int)) (size : Int) : Bool := decide (0 ≤ size) && decide (ps.length ≤ 20) && rightGo size (-1) ps

theorem right_asc (n : Nat) : ∀ (ps : List (Int × Int)) (lo : Nat), rightGo n ((lo : Int) - 1) ps = true → ∃ qs : List Pc, ps = qs.map castP ∧ Asc n lo qs := by
  intro ps
  induction ps with
  | nil => intro lo _; exact ⟨[], rfl, trivial⟩
  | cons p r ih =>
    obtain ⟨a, s⟩ := p
    intro lo h
    simp only [rightGo] at h
    by_cases h1 : s < 1 ∨ a < 0 ∨ (n : Int) < s ∨ (n : Int) - s < a
    · rw [if_pos h1] at h; cases h
    · rw [if_neg h1] at h
      by_cases h2 : a ≤ (lo : Int) - 1
      · rw [if_pos h2] at h; cases h
      · rw [if_neg h2] at h
        obtain ⟨a, rfl⟩ := Int.eq_ofNat_of_zero_le (show 0 ≤ a by omega)
        obtain ⟨s, rfl⟩ := Int.eq_ofNat_of_zero_le (show 0 ≤ s by omega)
        have e : (a : Int) + (s : Int) = ((a + s + 1 : Nat) : Int) - 1 := by omega
        rw [e] at h
        obtain ⟨qs, rfl, hq⟩ := ih (a + s + 1) h
        exact ⟨(a, s) :: qs, rfl, by omega, by omega, by omega, hq⟩
theorem asc_right (n : Nat) : ∀ (qs : List Pc) (lo : Nat), Asc n lo qs → rightGo n ((lo : Int) - 1) (qs.map castP) = true := by
  intro qs
  induction qs with
  | nil => intro lo _; rfl
  | cons p r ih =>
    obtain ⟨a, s⟩ := p
    intro lo h
    obtain ⟨h1, h2, h3, h4⟩ := h
    have := ih (a + s + 1) h4
    simp only [List.map_cons, castP, rightGo]
    rw [if_neg (by omega), if_neg (by omega)]
    have e : (a : Int) + (s : Int) = ((a + s + 1 : Nat) : Int) - 1 := by omega
    rw [e]; exact this

theorem asc_size (n : Nat) : ∀ (qs : List Pc) (lo : Nat), Asc n lo qs → lo ≤ n + 1 → size qs + lo ≤ n + 1 := by
  intro qs
  induction qs with
  | nil => intro lo _ h; simpa [size] using h
  | cons p r ih =>
    obtain ⟨a, s⟩ := p
    intro lo h hlo
    obtain ⟨h1, h2, h3, h4⟩ := h
    have := ih (a + s + 1) h4 (by omega)
    have e : size ((a, s) :: r) = s + size r := by simp [size]
    omega

end Hol

set_option linter.unusedVariables false
set_option linter.unusedSimpArgs false
namespace Pk
open Pth Tre

/-- A member. -/
structure Ent where
  name : Bs
  kind : Nat
  mode : Int
  uid : Int
  gid : Int
  size : Int
  sec : Int
  nano : Int
  link : Bs
  user : Bs
  group : Bs
  major : Int
  minor : Int
  data : Bs
  map : List (Int × Int)
  deriving DecidableEq

def sizeI (l : List (Int × Int)) : Int := (l.map (·.2)).sum
def sparse (e : Ent) : Bool := !(e.map.isEmpty) || !((e.data.length : Int) == e.size)
def txt (s : Bs) (n : Nat) : Bool := decide (s.length ≤ n) && !(s.contains 0)
def filled (e : Ent) : Bool :=
  if e.kind = 48 then inR e.size 0 4000 && (!(sparse e) || (Hol.rightI e.map e.size && ((e.data.length : Int) == sizeI e.map)))
  else (e.size == 0) && (e.data == []) && e.map.isEmpty
/-- A valid member. -/
def rightE (e : Ent) : Bool :=
  (inR e.kind 48 54 && !(e.name == []) && !(e.name.getLast? == some 47)) &&
  (txt e.name 120 && txt e.link 120 && txt e.user 32 && txt e.group 32) &&
  (inR e.mode 0 4095 && inR e.uid 0 1099511627775 && inR e.gid 0 1099511627775 && stampR e.sec e.nano) &&
  ((!(e.link == [])) == (e.kind == 49 || e.kind == 50)) &&
  (inR e.major 0 2097151 && inR e.minor 0 2097151) &&
  ((e.kind == 51 || e.kind == 52) || (e.major == 0 && e.minor == 0)) &&
  filled e

/-- A file as a member, all of it. -/
def whole (s : Bs) (n : Nd) : Ent := ⟨s, n.kind, n.mode, n.uid, n.gid, n.data.length, n.sec, n.nano, n.link, [], [], n.major, n.minor, n.data, []⟩
def pcs (n : Nd) : List Hol.Pc := Hol.find n.data 512
/-- A file as a member. -/
def entry (s : Bs) (n : Nd) (holes : Bool) : Ent :=
  if holes = false then whole s n
  else if 20 < (pcs n).length ∨ n.data.length ≤ Hol.size (pcs n) then whole s n
  else { whole s n with map := (pcs n).map Hol.castP, data := Hol.take n.data (pcs n) }
def hard (s f : Bs) (n : Nd) : Ent := ⟨s, 49, n.mode, n.uid, n.gid, 0, n.sec, n.nano, f, [], [], 0, 0, [], []⟩
/-- The first of these names that is the same file's. -/
def first (t : T) (l : List Bs) (s : Bs) : Bs := (l.find? fun x => t.alike x s).getD []
def nodeAt (t : T) (s : Bs) : Nd := (t.get s).getD Tre.zero
def memb (t : T) (holes : Bool) (l : List Bs) (s : Bs) : Ent := if first t l s = [] then entry s (nodeAt t s) holes else hard s (first t l s) (nodeAt t s)
def listGo (t : T) (holes : Bool) : List Bs → List Bs → List Ent
  | _, [] => []
  | l, s :: r => memb t holes l s :: listGo t holes (l ++ [s]) r
/-- A tree as members. -/
def list (t : T) (holes : Bool) : List Ent := listGo t holes [] t.names

/-! How a member is put into a tree. -/
def linked (t : T) (e : Ent) : Bs × Int :=
  if cleanOk e.link = false then ([], 5) else if clean e.link = [] then ([], 7) else if right (clean e.link) = false then ([], 5)
  else match t.get (clean e.link) with
    | none => ([], 7)
    | some n => if n.kind = 53 then ([], 6) else (clean e.link, 0)
def mkdir (s : Bs) : Deed := ⟨1, s, [], 0, ⟨53, 493, 0, 0, 0, 0, [], [], 0, 0⟩⟩
def rmv (s : Bs) : Deed := ⟨3, s, [], 0, Tre.zero⟩
def ways (t : T) : List Bs → T × Int
  | [] => (t, 0)
  | a :: r => match t.get a with
    | none => if (act t (mkdir a)).2 ≠ 0 then act t (mkdir a) else ways (act t (mkdir a)).1 r
    | some n => if n.kind ≠ 53 then (t, 6) else ways t r
/-- The names of the directories of a name. -/
def above (s : Bs) : List Bs := (List.range ((parts s).length - 1)).map fun i => pre (parts s) (i + 1)
def wiped (t : T) (s : Bs) (dir : Bool) : T × Int := match t.get s with
  | none => (t, 0)
  | some n => if n.kind = 53 then (if dir = true then (t, 0) else (t, 6)) else act t (rmv s)
def cleared (t : T) (s : Bs) (dir : Bool) : T × Int := if (ways t (above s)).2 ≠ 0 then ways t (above s) else wiped (ways t (above s)).1 s dir
def plainN (e : Ent) : Nd := ⟨e.kind, e.mode, e.uid, e.gid, e.sec, e.nano, e.data, e.link, e.major, e.minor⟩
/-- Pieces that may be a map, as numbers. -/
def natP (l : List (Int × Int)) : List Hol.Pc := l.map fun p => (p.1.toNat, p.2.toNat)
def node (e : Ent) : Nd × Int :=
  if sparse e = false then (plainN e, 0)
  else if Hol.rightI e.map e.size = false ∨ (e.data.length : Int) ≠ sizeI e.map then (Tre.zero, 1)
  else if 4000 < e.size then (Tre.zero, 4)
  else ({ plainN e with data := Hol.put e.data (natP e.map) e.size.toNat }, 0)
def turn (what : Int) (s : Bs) (e : Ent) (n : Nd) : Deed := ⟨what, s, [], e.mode, n⟩
def turns (t : T) (s : Bs) (e : Ent) (n : Nd) : List Int → T × Int
  | [] => (t, 0)
  | c :: r => if (act t (turn c s e n)).2 ≠ 0 then act t (turn c s e n) else turns (act t (turn c s e n)).1 s e n r
def placed (t : T) (s : Bs) (e : Ent) : T × Int :=
  if (node e).2 ≠ 0 then (t, (node e).2)
  else match t.get s with
    | none => act t ⟨1, s, [], 0, (node e).1⟩
    | some _ => turns t s e (node e).1 [6, 7, 8]
def into0 (t : T) (e : Ent) : T × Int :=
  if rightE e = false then (t, 1) else if cleanOk e.name = false then (t, 5) else if clean e.name = [] ∧ e.kind = 53 then (t, 0)
  else if right (clean e.name) = false then (t, 5)
  else if e.kind ≠ 49 then
    (if (cleared t (clean e.name) (e.kind == 53)).2 ≠ 0 then cleared t (clean e.name) (e.kind == 53) else placed (cleared t (clean e.name) (e.kind == 53)).1 (clean e.name) e)
  else if (linked t e).2 ≠ 0 then (t, (linked t e).2)
  else if t.alike (clean e.name) (linked t e).1 = true then (t, 0)
  else if (cleared t (clean e.name) false).2 ≠ 0 then cleared t (clean e.name) false
  else act (cleared t (clean e.name) false).1 ⟨2, (linked t e).1, clean e.name, 0, Tre.zero⟩
/-- What Into does, and its error (0: none). -/
def into (t : T) (e : Ent) : T × Int := if (into0 t e).2 ≠ 0 then (t, (into0 t e).2) else (into0 t e).1 |> fun u => (u, 0)

theorem Std.ways {t : T} (ht : Std t) : ∀ l, Std (ways t l).1 := by
  intro l
  induction l generalizing t with
  | nil => exact ht
  | cons a r ih =>
    unfold Pk.ways
    split
    · split
      · exact ht.act _
      · exact ih (ht.act _)
    · split
      · exact ht
      · exact ih ht
theorem Std.wiped {t : T} (ht : Std t) (s : Bs) (dir : Bool) : Std (wiped t s dir).1 := by
  unfold Pk.wiped
  split
  · exact ht
  · split
    · split <;> exact ht
    · exact ht.act _
theorem Std.cleared {t : T} (ht : Std t) (s : Bs) (dir : Bool) : Std (cleared t s dir).1 := by
  unfold Pk.cleared
  split
  · exact Std.ways ht _
  · exact Std.wiped (Std.ways ht _) s dir
theorem Std.turns {t : T} (ht : Std t) (s : Bs) (e : Ent) (n : Nd) : ∀ l, Std (turns t s e n l).1 := by
  intro l
  induction l generalizing t with
  | nil => exact ht
  | cons a r ih =>
    unfold Pk.turns
    split
    · exact ht.act _
    · exact ih (ht.act _)
theorem Std.placed {t : T} (ht : Std t) (s : Bs) (e : Ent) : Std (placed t s e).1 := by
  unfold Pk.placed
  split
  · exact ht
  · split
    · exact ht.act _
    · exact Std.turns ht s e _ _
theorem Std.into0 {t : T} (ht : Std t) (e : Ent) : Std (into0 t e).1 := by
  unfold Pk.into0
  repeat' split
  all_goals first | exact ht | exact Std.cleared ht _ _ | exact Std.placed (Std.cleared ht _ _) _ _ | exact (Std.cleared ht _ _).act _
theorem Std.into {t : T} (ht : Std t) (e : Ent) : Std (into t e).1 := by
  unfold Pk.into
  split
  · exact ht
  · exact Std.into0 ht e
/-! What the statements ask. -/
end Pk

set_option linter.unusedVariables false
set_option linter.unusedSimpArgs false
namespace Px
open Go.Lib

abbrev Rec := List UInt8 × List UInt8

/-- What stands ahead of the first byte c, what behind it, and whether there is one. -/
def cut1 (c : UInt8) : List UInt8 → List UInt8 × List UInt8 × Bool
  | [] => ([], [], false)
  | x :: r => if x = c then ([], r, true) else (x :: (cut1 c r).1, (cut1 c r).2.1, (cut1 c r).2.2)

theorem cut1_hit (c : UInt8) : ∀ (a b : List UInt8), c ∉ a → cut1 c (a ++ c :: b) = (a, b, true)
  | [], b, _ => by simp [cut1]
  | x :: a, b, h => by
    have hx : x ≠ c := fun e => h (by simp [e])
    have ih := cut1_hit c a b (fun m => h (by simp [m]))
    simp [cut1, hx, ih]
/-- A valid record. -/
def right (r : Rec) : Bool := !r.1.isEmpty && !(r.1.contains 61 || r.1.contains 10) && decide (r.1.length + r.2.length ≤ 200)

/-- How many digits a record's length has, and this length, by what stands in it besides. -/
def dig (base : Nat) : Nat := if base < 9 then 1 else if base < 98 then 2 else 3
def base (r : Rec) : Nat := r.1.length + r.2.length + 3
def tot (r : Rec) : Nat := base r + dig (base r)
def text (r : Rec) : List UInt8 := decDigits (tot r) ++ 32 :: (r.1 ++ 61 :: (r.2 ++ [10]))
def texts (l : List Rec) : List UInt8 := l.flatMap text

theorem dig_len (b : Nat) (h0 : 1 ≤ b) (h : b ≤ 900) : nDigits (b + dig b) = dig b := by
  unfold dig
  by_cases h1 : b < 9
  · rw [if_pos h1]; exact nDigits_small (by omega)
  · rw [if_neg h1]
    by_cases h2 : b < 98
    · rw [if_pos h2]; exact nDigits_unique 1 _ (by omega) (by omega)
    · rw [if_neg h2]; exact nDigits_unique 2 _ (by omega) (by omega)
theorem right_bounds {r : Rec} (h : right r = true) : 1 ≤ r.1.length ∧ r.1.length + r.2.length ≤ 200 ∧ (61 : UInt8) ∉ r.1 ∧ (10 : UInt8) ∉ r.1 := by
  simp only [right, Bool.and_eq_true, Bool.not_eq_true', decide_eq_true_eq, Bool.or_eq_false_iff] at h
  obtain ⟨⟨h1, h2, h3⟩, h4⟩ := h
  refine ⟨?_, h4, fun m => ?_, fun m => ?_⟩
  · cases e : r.1 with
    | nil => rw [e] at h1; simp at h1
    | cons a b => simp
  · rw [List.contains_iff_mem.2 m] at h2; cases h2
  · rw [List.contains_iff_mem.2 m] at h3; cases h3
theorem text_len {r : Rec} (h : right r = true) : (text r).length = tot r := by
  obtain ⟨h1, h2, _, _⟩ := right_bounds h
  have hd := dig_len (base r) (by unfold base; omega) (by unfold base; omega)
  simp only [text, List.length_append, List.length_cons, List.length_nil, decDigits_length]
  unfold tot
  rw [hd]
  unfold base; omega
theorem tot_bounds {r : Rec} (h : right r = true) : 5 ≤ tot r ∧ tot r ≤ 206 ∧ dig (base r) ≤ 3 ∧ 1 ≤ dig (base r) ∧ dig (base r) + 4 ≤ tot r := by
  obtain ⟨h1, h2, _, _⟩ := right_bounds h
  unfold tot dig base
  split <;> (try split) <;> omega

/-! digits are digits -/
theorem decFrom_snoc : ∀ (l : List UInt8) (acc : Nat) (b : UInt8), decFrom acc (l ++ [b]) = (decFrom acc l).bind fun n => (digitVal b).map fun d => n * 10 + d
  | [], acc, b => by simp only [List.nil_append, decFrom, Option.bind_some]; cases digitVal b <;> rfl
  | x :: r, acc, b => by
    simp only [List.cons_append, decFrom]
    cases digitVal x with
    | none => rfl
    | some d => exact decFrom_snoc r _ b
theorem digit_of (k : Nat) (h : k < 10) : digitVal (UInt8.ofNat (48 + k)) = some k := by
  have e : (UInt8.ofNat (48 + k)).toNat = 48 + k := by simp; omega
  unfold digitVal
  rw [e, if_pos (by omega)]
  congr 1; omega
theorem decDigits_back : ∀ n : Nat, decFrom 0 (decDigits n) = some n := by
  intro n
  induction n using Nat.strongRecOn with
  | _ n ih =>
    rw [decDigits]
    split
    · rename_i h
      simp only [decFrom, digit_of n h]; simp
    · rename_i h
      rw [decFrom_snoc, ih (n / 10) (by omega), Option.bind_some, digit_of _ (Nat.mod_lt _ (by decide))]
      simp; omega
theorem decDigits_is : ∀ (n : Nat), ∀ b ∈ decDigits n, 48 ≤ b.toNat ∧ b.toNat ≤ 57 := by
  intro n
  induction n using Nat.strongRecOn with
  | _ n ih =>
    intro b hb
    have one : ∀ k, k < 10 → (UInt8.ofNat (48 + k)).toNat = 48 + k := fun k hk => by simp; omega
    rw [decDigits] at hb
    split at hb
    · rename_i h
      rw [List.mem_singleton.1 hb, one n h]; omega
    · rename_i h
      rcases List.mem_append.1 hb with hb | hb
      · exact ih (n / 10) (by omega) b hb
      · rw [List.mem_singleton.1 hb, one _ (Nat.mod_lt _ (by decide))]; omega
theorem decDigits_ne (n : Nat) : decDigits n ≠ [] := by
  intro e
  have h := decDigits_length n
  rw [e] at h
  have := nDigits_pos n
  simp at h; omega
theorem atoi_dec (n : Nat) : atoi (decDigits n) = some (n : Int) := by
  have hb := decDigits_back n
  have hi := decDigits_is n
  cases h : decDigits n with
  | nil => exact absurd h (decDigits_ne n)
  | cons b r =>
    rw [h] at hb hi
    have h1 := hi b (by simp)
    have k1 : (b == 45) = false := by
      simp only [beq_eq_false_iff_ne, ne_eq]; intro e; rw [e] at h1; exact absurd h1 (by decide)
    have k2 : (b == 43) = false := by
      simp only [beq_eq_false_iff_ne, ne_eq]; intro e; rw [e] at h1; exact absurd h1 (by decide)
    simp only [atoi, k1, k2, Bool.false_eq_true, if_false, decNat, List.isEmpty_cons, hb, Option.map_some]

/-- The record with which a text begins, and how long it is: as the program finds it. -/
def first (s : List UInt8) : Option (Rec × Nat) :=
  match atoi (cut1 32 (s.take 6)).1 with
  | none => none
  | some n =>
    if (cut1 32 (s.take 6)).2.2 = false ∨ n < 1 ∨ (s.length : Int) < n ∨ n < ((cut1 32 (s.take 6)).1.length : Int) + 4 then none else
    if (cut1 61 ((s.take (n.toNat - 1)).drop ((cut1 32 (s.take 6)).1.length + 1))).2.2 = false then none else
    if right ((cut1 61 ((s.take (n.toNat - 1)).drop ((cut1 32 (s.take 6)).1.length + 1))).1, (cut1 61 ((s.take (n.toNat - 1)).drop ((cut1 32 (s.take 6)).1.length + 1))).2.1) = false then none else
    if text ((cut1 61 ((s.take (n.toNat - 1)).drop ((cut1 32 (s.take 6)).1.length + 1))).1, (cut1 61 ((s.take (n.toNat - 1)).drop ((cut1 32 (s.take 6)).1.length + 1))).2.1) = s.take n.toNat
    then some (((cut1 61 ((s.take (n.toNat - 1)).drop ((cut1 32 (s.take 6)).1.length + 1))).1, (cut1 61 ((s.take (n.toNat - 1)).drop ((cut1 32 (s.take 6)).1.length + 1))).2.1), n.toNat) else none

/-- what is found begins the text -/
theorem first_is {s : List UInt8} {r : Rec} {n : Nat} (h : first s = some (r, n)) : right r = true ∧ s = text r ++ s.drop n ∧ n = (text r).length ∧ 1 ≤ n ∧ n ≤ s.length := by
  unfold first at h
  split at h
  · cases h
  · rename_i z hz
    split at h
    · cases h
    · rename_i hc
      simp only [not_or, Int.not_lt] at hc
      split at h
      · cases h
      · split at h
        · cases h
        · rename_i hr
          split at h
          · rename_i ht
            simp only [Option.some.injEq, Prod.mk.injEq] at h
            obtain ⟨h1, h2⟩ := h
            rw [h1] at hr ht
            have hr' : right r = true := by simpa using hr
            rw [h2] at ht
            have hn1 : 1 ≤ n := by omega
            have hn2 : n ≤ s.length := by omega
            refine ⟨hr', ?_, ?_, hn1, hn2⟩
            · rw [ht]; exact (List.take_append_drop n s).symm
            · rw [ht, List.length_take]; omega
          · cases h

/-- a record's text is found, whatever follows -/
theorem first_of {r : Rec} (h : right r = true) (rest : List UInt8) : first (text r ++ rest) = some (r, tot r) := by
  obtain ⟨hk1, hk2, hk3, hk4⟩ := right_bounds h
  obtain ⟨t1, t2, t3, t4, t5⟩ := tot_bounds h
  have hlen := text_len h
  have hd := dig_len (base r) (by unfold base; omega) (by unfold base; omega)
  have hdl : (decDigits (tot r)).length = dig (base r) := by rw [decDigits_length]; exact hd
  have hno : (32 : UInt8) ∉ decDigits (tot r) := fun m => by have := decDigits_is _ _ m; exact absurd this (by decide)
  have e1 : (text r ++ rest).take 6 = decDigits (tot r) ++ 32 :: ((r.1 ++ 61 :: (r.2 ++ [10])) ++ rest).take (5 - dig (base r)) := by
    unfold text
    rw [List.append_assoc, List.take_append, hdl, List.take_of_length_le (by omega), List.cons_append, show 6 - dig (base r) = (5 - dig (base r)) + 1 by omega, List.take_succ_cons]
  have c1 : cut1 32 ((text r ++ rest).take 6) = (decDigits (tot r), ((r.1 ++ 61 :: (r.2 ++ [10])) ++ rest).take (5 - dig (base r)), true) := by
    rw [e1]; exact cut1_hit _ _ _ hno
  have e2 : ((text r ++ rest).take (tot r - 1)).drop (dig (base r) + 1) = r.1 ++ 61 :: r.2 := by
    have x1 : (text r ++ rest).take (tot r - 1) = decDigits (tot r) ++ 32 :: (r.1 ++ 61 :: r.2) := by
      have y : text r ++ rest = (decDigits (tot r) ++ 32 :: (r.1 ++ 61 :: r.2)) ++ (10 :: rest) := by simp [text]
      rw [y, List.take_append_of_le_length, List.take_of_length_le]
      · simp [hdl]; unfold tot base; omega
      · simp [hdl]; unfold tot base; omega
    rw [x1, List.drop_append, hdl, List.drop_of_length_le (by omega), show dig (base r) + 1 - dig (base r) = 1 by omega]
    rfl
  have c2 : cut1 61 (((text r ++ rest).take (tot r - 1)).drop (dig (base r) + 1)) = (r.1, r.2, true) := by
    rw [e2]; exact cut1_hit _ _ _ hk3
  have e3 : (text r ++ rest).take (tot r) = text r := by
    rw [← hlen, List.take_append_of_le_length (Nat.le_refl _), List.take_length]
  unfold first
  rw [c1]
  simp only [atoi_dec, hdl]
  rw [if_neg (by simp only [List.length_append, hlen]; simp; omega)]
  simp only [Int.toNat_natCast, c2, e3, h]
  simp

/-- The records of a text; none: it has another form, or more than 20 of them. -/
def readF : Nat → Nat → List UInt8 → Option (List Rec)
  | _, _, [] => some []
  | 0, _, _ :: _ => none
  | n + 1, have_, c :: s =>
    match first (c :: s) with
    | none => none
    | some (r, k) => if have_ = 20 then none else (readF n (have_ + 1) ((c :: s).drop k)).map (r :: ·)

theorem readF_is : ∀ (n h : Nat) (s : List UInt8) (l : List Rec), h ≤ 20 → readF n h s = some l → (∀ r ∈ l, right r = true) ∧ s = texts l ∧ l.length + h ≤ 20
  | n, h, [], l, hh, e => by
    have : l = [] := by cases n <;> simpa [readF] using e.symm
    subst this
    exact ⟨fun r hr => by simp at hr, rfl, by simpa using hh⟩
  | 0, h, _ :: _, l, _, e => by simp [readF] at e
  | n + 1, h, c :: s, l, hh, e => by
    simp only [readF] at e
    split at e
    · cases e
    · rename_i r k hf
      split at e
      · cases e
      · rename_i h20
        obtain ⟨l', hl, rfl⟩ := Option.map_eq_some_iff.1 e
        obtain ⟨a1, a2, a3⟩ := readF_is n (h + 1) _ l' (by omega) hl
        obtain ⟨b1, b2, _, _, _⟩ := first_is hf
        refine ⟨fun x hx => ?_, ?_, by simp; omega⟩
        · rcases List.mem_cons.1 hx with rfl | hx
          · exact b1
          · exact a1 x hx
        · rw [b2, a2]; rfl

theorem readF_of : ∀ (l : List Rec) (n h : Nat), (∀ r ∈ l, right r = true) → l.length + h ≤ 20 → (texts l).length ≤ n → readF n h (texts l) = some l
  | [], n, h, _, _, _ => by cases n <;> rfl
  | r :: l, n, h, hr, hl, hn => by
    have h1 := hr r (by simp)
    have ht := text_len h1
    have hb := tot_bounds h1
    have e : texts (r :: l) = text r ++ texts l := rfl
    rw [e] at hn ⊢
    have hf := first_of h1 (texts l)
    have hdr : (text r ++ texts l).drop (tot r) = texts l := by rw [← ht, List.drop_left]
    simp only [List.length_append] at hn
    simp only [List.length_cons] at hl
    cases n with
    | zero => omega
    | succ n =>
      cases hx : text r ++ texts l with
      | nil => have := congrArg List.length hx; simp only [List.length_append, List.length_nil] at this; omega
      | cons c s =>
        rw [hx] at hf hdr
        simp only [readF, hf, hdr]
        rw [if_neg (by omega), readF_of l n (h + 1) (fun x hx => hr x (by simp [hx])) (by omega) (by omega)]
        rfl

/-- What Read finds. -/
def read (s : List UInt8) : Option (List Rec) := readF s.length 0 s

theorem read_iff (s : List UInt8) (l : List Rec) : read s = some l ↔ (∀ r ∈ l, right r = true) ∧ s = texts l ∧ l.length ≤ 20 := by
  constructor
  · intro h
    have := readF_is _ _ _ _ (by omega) h
    exact ⟨this.1, this.2.1, by omega⟩
  · rintro ⟨h1, rfl, h3⟩
    exact readF_of l _ 0 h1 (by omega) (Nat.le_refl _)

end Px
